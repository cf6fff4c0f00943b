/-
  A map of the call's own, told by its entries, whatever its keys and elements; the operations on it; for whatever program.
-/
import Derived.Test.YtcodjodhacjfeaaGreatDoorMapS
import Derived.Test.YtcodjodhacjfeaaGreatDoorPar
namespace Go.Proofs.YtcodjodhacjfeaaGreatDoor
open Go.RowKit Go.Maps Go.ChangeMaps

/-- an entry: its key, its value, its stamp -/
structure EntG (κ : Type) where
  k : κ
  v : Value
  t : Nat
/-- what a kind of keys is in a program: their values, and that they are keys -/
structure KeyE (P : Program) (k : TypeId) (κ : Type) where
  enc : κ → Value
  ok : κ → Prop
  inj : ∀ c d, enc c = enc d → c = d
  K : Keyed P k
  key : ∀ c, ok c → ∃ li, keyOf P k (enc c) = some li
def intKey {P : Program} {k : TypeId} (hk : P.underlying k = some (.int .i64)) : KeyE P k Int where
  enc c := .int .i64 c
  ok c := -9223372036854775808 ≤ c ∧ c ≤ 9223372036854775807
  inj c d h := by injection h
  K := int_keyed hk
  key c h := ⟨_, key_of' hk h⟩
def strKey {P : Program} {k : TypeId} (hk : P.underlying k = some .string) : KeyE P k ByteArray where
  enc c := .string c
  ok c := c.size ≤ maxLen
  inj c d h := by injection h
  K := string_keyed hk
  key c h := ⟨_, WideMaps.keyOf_string_mk hk h⟩
section
variable {P : Program} {w : World} {t k e : TypeId} {κ : Type} {bm clock : Nat}
def EntG.raw (E : KeyE P k κ) (x : EntG κ) : MapEntry := ⟨E.enc x.k, x.v, x.t⟩
def entG (E : KeyE P k κ) (l : List (EntG κ)) : Array MapEntry := (l.map (EntG.raw E)).toArray
theorem entG_toList (E : KeyE P k κ) (l : List (EntG κ)) : (entG E l).toList = l.map (EntG.raw E) := by simp [entG]
theorem entG_size (E : KeyE P k κ) (l : List (EntG κ)) : (entG E l).size = l.length := by simp [entG]
theorem entG_push (E : KeyE P k κ) (l : List (EntG κ)) (x : EntG κ) : (entG E l).push (x.raw E) = entG E (l ++ [x]) := by simp [entG]
theorem rawG_keys (E : KeyE P k κ) {l : List (EntG κ)} (hl : ∀ x ∈ l, E.ok x.k) : ∀ e ∈ (entG E l).toList, ∃ li, keyOf P k e.key = some li := by
  intro e he
  rw [entG_toList] at he
  obtain ⟨x, hx, rfl⟩ := List.mem_map.1 he
  exact E.key _ (hl x hx)

/-- the value at a key -/
def getG [DecidableEq κ] (l : List (κ × Value)) (c : κ) : Option Value := (l.find? fun x => decide (x.1 = c)).map Prod.snd
/-- a value is put at a key -/
def putG [DecidableEq κ] (l : List (κ × Value)) (c : κ) (v : Value) : List (κ × Value) := if l.any (fun x => decide (x.1 = c)) then l.map (fun x => if x.1 = c then (c, v) else x) else l ++ [(c, v)]
/-- a key is struck -/
def delG [DecidableEq κ] (l : List (κ × Value)) (c : κ) : List (κ × Value) := l.filter fun x => decide (x.1 ≠ c)

structure OkG (E : KeyE P k κ) (l : List (EntG κ)) (clock : Nat) : Prop where
  keys : ∀ x ∈ l, E.ok x.k
  once : (l.map EntG.k).Nodup
  stamps : (l.map EntG.t).Nodup
  past : ∀ x ∈ l, x.t < clock
def EntG.kv (x : EntG κ) : κ × Value := (x.k, x.v)
/-- a map of the call's own -/
def mapP (E : KeyE P k κ) (m : Nat) (l : List (κ × Value)) : HP := HP.ex fun y : List (EntG κ) × Nat => HP.pur (OkG E y.1 y.2 ∧ y.1.map EntG.kv = l) * HP.at m (.map (entG E y.1) y.2)

variable {E : KeyE P k κ}
theorem mapP_open {w0 : World} {F : List HP} {l : List (κ × Value)} (h : St w0 (mapP E bm l :: F) w) : ∃ es clock, OkG E es clock ∧ es.map EntG.kv = l ∧ St w0 (HP.at bm (.map (entG E es) clock) :: F) w := by
  obtain ⟨⟨es, clock⟩, h⟩ := St.ex.1 h
  obtain ⟨⟨h1, h2⟩, h3⟩ := St.pur.1 (St.two.1 h)
  exact ⟨es, clock, h1, h2, h3⟩
theorem mapP_shut {w0 : World} {F : List HP} {es : List (EntG κ)} (ho : OkG E es clock) (h : St w0 (HP.at bm (.map (entG E es) clock) :: F) w) : St w0 (mapP E bm (es.map EntG.kv) :: F) w :=
  St.ex.2 ⟨(es, clock), St.two.2 (St.pur.2 ⟨⟨ho, rfl⟩, h⟩)⟩
theorem mapP_new {w0 : World} {F : List HP} (h : St w0 F w) : St w0 (mapP E w.heap.size [] :: F) (w.alloc (.map #[] 0)) :=
  mapP_shut (es := []) ⟨by simp, by simp, by simp, by simp⟩ (h.alloc _)

/-- where a key is found among the entries -/
theorem findG {l : List (EntG κ)} (ho : OkG E l clock) {c : κ} (hc : E.ok c) :
    ((Instr.findKey k (E.enc c) (entG E l).toList).run P w = .ok none w ∧ ∀ x ∈ l, x.k ≠ c) ∨
    ∃ j x, (Instr.findKey k (E.enc c) (entG E l).toList).run P w = .ok (some (j, x.v)) w ∧ l[j]? = some x ∧ x.k = c := by
  obtain ⟨li, hli⟩ := E.key c hc
  rcases E.K.find w hli (entG E l).toList (rawG_keys E ho.keys) with ⟨h1, h2⟩ | ⟨j, e0, h1, h2, h3⟩
  · refine .inl ⟨h1, fun x hx hk => h2 (x.raw E) (by rw [entG_toList]; exact List.mem_map_of_mem hx) ?_⟩
    show E.enc x.k = E.enc c
    rw [hk]
  · rw [entG_toList, List.getElem?_map] at h2
    cases hx : l[j]? with
    | none => rw [hx] at h2; cases h2
    | some x =>
      rw [hx] at h2
      injection h2 with h2
      subst h2
      exact .inr ⟨j, x, h1, hx, E.inj _ _ h3⟩
theorem nodup_at {l : List (EntG κ)} (hd : (l.map EntG.k).Nodup) {i j : Nat} {x y : EntG κ} (hx : l[i]? = some x) (hy : l[j]? = some y) (h : x.k = y.k) : i = j := by
  have hi := (List.getElem?_eq_some_iff.1 hx).1
  have h1 : (l.map EntG.k)[i]? = some x.k := by rw [List.getElem?_map, hx]; rfl
  have h2 : (l.map EntG.k)[j]? = some x.k := by rw [List.getElem?_map, hy, h]; rfl
  exact (List.getElem?_inj (by simpa using hi) hd).1 (h1.trans h2.symm)
theorem getG_none [DecidableEq κ] {l : List (EntG κ)} {c : κ} (h : ∀ x ∈ l, x.k ≠ c) : getG (l.map EntG.kv) c = none := by
  unfold getG
  rw [List.find?_eq_none.2]
  · rfl
  · intro x hx
    obtain ⟨y, hy, rfl⟩ := List.mem_map.1 hx
    have := h y hy
    simp [EntG.kv, this]
theorem getG_some [DecidableEq κ] {l : List (EntG κ)} (hd : (l.map EntG.k).Nodup) {j : Nat} {x : EntG κ} (h : l[j]? = some x) : getG (l.map EntG.kv) x.k = some x.v := by
  induction l generalizing j with
  | nil => cases h
  | cons y l ih =>
    rw [List.map_cons, List.nodup_cons] at hd
    unfold getG
    rw [List.map_cons, List.find?_cons]
    cases j with
    | zero =>
      have : y = x := by simpa using h
      subst this
      simp [EntG.kv]
    | succ j =>
      have hx : l[j]? = some x := by simpa using h
      have hne : ¬ y.k = x.k := fun e => hd.1 (e ▸ List.mem_map_of_mem (List.mem_of_getElem? hx))
      have := ih hd.2 hx
      unfold getG at this
      rw [show decide (y.kv.1 = x.k) = false from decide_eq_false hne]
      exact this
/-- a look-up -/
theorem St.lookG [DecidableEq κ] {w0 : World} {F : List HP} {l : List (κ × Value)} {z : Value} (h : St w0 (mapP E bm l :: F) w) (ht : P.underlying t = some (.map k e)) (hz : (zeroValue e).run P w = .ok z w) {c : κ} (hc : E.ok c) :
    (Instr.lookup t (.map (some bm)) (E.enc c) false).run P w = .ok ((getG l c).getD z) w ∧ (Instr.lookup t (.map (some bm)) (E.enc c) true).run P w = .ok (.tuple #[(getG l c).getD z, .bool (getG l c).isSome]) w := by
  obtain ⟨es, clock, ho, el, h9⟩ := mapP_open h
  subst el
  clear h
  have hb := h9.block.2
  obtain ⟨li, hli⟩ := E.key c hc
  rcases findG (w := w) ho hc with ⟨h1, h2⟩ | ⟨j, x, h1, h2, rfl⟩
  · rw [getG_none h2]
    simp [Instr.lookup, run_underlying ht, MapKept.run_getObj_map hb, E.K.check w _ hli, h1, hz, Result.andThen]
  · rw [getG_some ho.once h2]
    simp [Instr.lookup, run_underlying ht, MapKept.run_getObj_map hb, E.K.check w _ hli, h1, Result.andThen]
theorem putG_none [DecidableEq κ] {l : List (EntG κ)} {c : κ} {v : Value} (clock : Nat) (h : ∀ x ∈ l, x.k ≠ c) : putG (l.map EntG.kv) c v = (l ++ [(⟨c, v, clock⟩ : EntG κ)]).map EntG.kv := by
  unfold putG
  rw [if_neg, List.map_append]
  · rfl
  · intro ha
    obtain ⟨x, hx, hxc⟩ := List.any_eq_true.1 ha
    obtain ⟨y, hy, rfl⟩ := List.mem_map.1 hx
    exact h y hy (of_decide_eq_true hxc)
theorem putG_some [DecidableEq κ] {l : List (EntG κ)} (hd : (l.map EntG.k).Nodup) {j : Nat} {x : EntG κ} {v : Value} (h : l[j]? = some x) : putG (l.map EntG.kv) x.k v = (l.set j ⟨x.k, v, x.t⟩).map EntG.kv := by
  unfold putG
  rw [if_pos]
  · apply List.ext_getElem?
    intro i
    rw [List.getElem?_map, List.getElem?_map, List.getElem?_map, List.getElem?_set]
    by_cases hij : j = i
    · subst hij
      obtain ⟨hlt, hx⟩ := List.getElem?_eq_some_iff.1 h
      simp [EntG.kv, hlt, hx]
    · rw [if_neg hij]
      cases hi : l[i]? with
      | none => rfl
      | some y =>
        have : ¬ y.k = x.k := fun e => hij (nodup_at hd hi h e).symm
        simp [EntG.kv, this]
  · rw [List.any_eq_true]
    exact ⟨x.kv, List.mem_map_of_mem (List.mem_of_getElem? h), by simp [EntG.kv]⟩
theorem OkG.push {l : List (EntG κ)} (ho : OkG E l clock) {c : κ} {v : Value} (hc : E.ok c) (h : ∀ x ∈ l, x.k ≠ c) : OkG E (l ++ [⟨c, v, clock⟩]) (clock + 1) := by
  refine ⟨fun x hx => ?_, ?_, ?_, fun x hx => ?_⟩
  · rcases List.mem_append.1 hx with hx | hx
    · exact ho.keys x hx
    · rw [List.mem_singleton.1 hx]; exact hc
  · rw [List.map_append, List.nodup_append]
    refine ⟨ho.once, by simp, fun a ha b hb => ?_⟩
    obtain ⟨x, hx, rfl⟩ := List.mem_map.1 ha
    simp at hb
    subst hb
    exact h x hx
  · rw [List.map_append, List.nodup_append]
    refine ⟨ho.stamps, by simp, fun a ha b hb => ?_⟩
    obtain ⟨x, hx, rfl⟩ := List.mem_map.1 ha
    simp at hb
    subst hb
    have := ho.past x hx
    omega
  · rcases List.mem_append.1 hx with hx | hx
    · have := ho.past x hx; omega
    · rw [List.mem_singleton.1 hx]; exact Nat.lt_succ_self _
theorem OkG.set {l : List (EntG κ)} (ho : OkG E l clock) {j : Nat} {x : EntG κ} {v : Value} (h : l[j]? = some x) : OkG E (l.set j ⟨x.k, v, x.t⟩) clock := by
  have e1 : (l.set j ⟨x.k, v, x.t⟩).map EntG.k = l.map EntG.k := by
    rw [List.map_set]
    apply List.ext_getElem?
    intro i
    rw [List.getElem?_set]
    by_cases hij : j = i
    · subst hij
      obtain ⟨hlt, hx⟩ := List.getElem?_eq_some_iff.1 h
      simp [hlt, hx]
    · rw [if_neg hij]
  have e2 : (l.set j ⟨x.k, v, x.t⟩).map EntG.t = l.map EntG.t := by
    rw [List.map_set]
    apply List.ext_getElem?
    intro i
    rw [List.getElem?_set]
    by_cases hij : j = i
    · subst hij
      obtain ⟨hlt, hx⟩ := List.getElem?_eq_some_iff.1 h
      simp [hlt, hx]
    · rw [if_neg hij]
  have hm : ∀ y ∈ l.set j ⟨x.k, v, x.t⟩, y ∈ l ∨ y = ⟨x.k, v, x.t⟩ := fun y hy => List.mem_or_eq_of_mem_set hy
  have hx := List.mem_of_getElem? h
  refine ⟨fun y hy => ?_, by rw [e1]; exact ho.once, by rw [e2]; exact ho.stamps, fun y hy => ?_⟩
  · rcases hm y hy with hy | rfl
    · exact ho.keys y hy
    · exact ho.keys x hx
  · rcases hm y hy with hy | rfl
    · exact ho.past y hy
    · exact ho.past x hx
/-- a store -/
theorem St.putMap [DecidableEq κ] {w0 : World} {F : List HP} {l : List (κ × Value)} (h : St w0 (mapP E bm l :: F) w) (ht : P.underlying t = some (.map k e)) {c : κ} (hc : E.ok c) (v : Value) :
    ∃ w', (Instr.mapUpdate t (.map (some bm)) (E.enc c) v).run P w = .ok () w' ∧ St w0 (mapP E bm (putG l c v) :: F) w' := by
  obtain ⟨es, clock, ho, el, h9⟩ := mapP_open h
  subst el
  clear h
  have hb := h9.block.2
  obtain ⟨li, hli⟩ := E.key c hc
  rcases findG (w := w) ho hc with ⟨h1, h2⟩ | ⟨j, x, h1, h2, rfl⟩
  · refine ⟨setBlock w bm (.map (entG E (es ++ [⟨c, v, clock⟩])) (clock + 1)), ?_, ?_⟩
    · have hp : (entG E es).push ⟨E.enc c, v, clock⟩ = entG E (es ++ [⟨c, v, clock⟩]) := entG_push E es ⟨c, v, clock⟩
      simp [Instr.mapUpdate, run_underlying ht, MapKept.run_getObj_map hb, E.K.check w _ hli, h1, MapKept.run_setObj_map _ hb, Result.andThen, setBlock, hp]
    · rw [putG_none clock h2]
      exact mapP_shut (ho.push hc h2) (h9.putObj _)
  · refine ⟨setBlock w bm (.map (entG E (es.set j ⟨x.k, v, x.t⟩)) clock), ?_, ?_⟩
    · have hj : (entG E es)[j]? = some (x.raw E) := by
        have : (entG E es).toList[j]? = some (x.raw E) := by rw [entG_toList, List.getElem?_map, h2]; rfl
        simpa using this
      have hm : (entG E es).modify j (fun e => { e with key := E.enc x.k, val := v }) = entG E (es.set j ⟨x.k, v, x.t⟩) := by
        apply Array.ext'
        rw [entG_toList, Array.toList_modify, entG_toList, List.map_set]
        apply List.ext_getElem?
        intro i
        rw [List.getElem?_modify, List.getElem?_set]
        by_cases hij : j = i
        · subst hij
          obtain ⟨hlt, hx⟩ := List.getElem?_eq_some_iff.1 h2
          simp [hx, hlt, EntG.raw]
        · rw [if_neg hij]
          simp [hij]
      have hs := E.K.stays w hli
      have hget : ((entG E es)[j]?.map (·.key)).getD (E.enc x.k) = E.enc x.k := by rw [hj]; rfl
      simp [Instr.mapUpdate, run_underlying ht, MapKept.run_getObj_map hb, E.K.check w _ hli, h1, hget, hs, MapKept.run_setObj_map _ hb, Result.andThen, setBlock, hm]
    · rw [putG_some ho.once h2]
      exact mapP_shut (ho.set h2) (h9.putObj _)

theorem delG_none [DecidableEq κ] {l : List (EntG κ)} {c : κ} (h : ∀ x ∈ l, x.k ≠ c) : delG (l.map EntG.kv) c = l.map EntG.kv := by
  unfold delG
  rw [List.filter_eq_self]
  intro x hx
  obtain ⟨y, hy, rfl⟩ := List.mem_map.1 hx
  exact decide_eq_true (h y hy)
theorem delG_some [DecidableEq κ] : ∀ {l : List (EntG κ)}, (l.map EntG.k).Nodup → ∀ {j : Nat} {x : EntG κ}, l[j]? = some x → delG (l.map EntG.kv) x.k = (l.eraseIdx j).map EntG.kv
  | [], _, _, _, h => by cases h
  | y :: l, hd, 0, x, h => by
    have : y = x := by simpa using h
    subst this
    rw [List.map_cons, List.nodup_cons] at hd
    unfold delG
    rw [List.map_cons, List.filter_cons, if_neg (by simp [EntG.kv]), List.eraseIdx_cons_zero]
    exact delG_none fun x hx e => hd.1 (e ▸ List.mem_map_of_mem hx)
  | y :: l, hd, j + 1, x, h => by
    have hx : l[j]? = some x := by simpa using h
    rw [List.map_cons, List.nodup_cons] at hd
    have hne : y.k ≠ x.k := fun e => hd.1 (e ▸ List.mem_map_of_mem (List.mem_of_getElem? hx))
    unfold delG
    rw [List.map_cons, List.filter_cons, if_pos (decide_eq_true (show y.kv.1 ≠ x.k from hne)), List.eraseIdx_cons_succ, List.map_cons]
    congr 1
    exact delG_some hd.2 hx
theorem OkG.erase {l : List (EntG κ)} (ho : OkG E l clock) (j : Nat) : OkG E (l.eraseIdx j) clock :=
  ⟨fun x hx => ho.keys x ((List.eraseIdx_sublist l j).subset hx), ho.once.sublist ((List.eraseIdx_sublist l j).map _), ho.stamps.sublist ((List.eraseIdx_sublist l j).map _), fun x hx => ho.past x ((List.eraseIdx_sublist l j).subset hx)⟩
/-- delete -/
theorem St.delMap [DecidableEq κ] {w0 : World} {F : List HP} {l : List (κ × Value)} (h : St w0 (mapP E bm l :: F) w) (ht : P.underlying t = some (.map k e)) {c : κ} (hc : E.ok c) (t2 ty : TypeId) :
    ∃ w', (Builtin.delete_ #[t, t2] ty #[.map (some bm), E.enc c]).run P w = .ok (.tuple #[]) w' ∧ St w0 (mapP E bm (delG l c) :: F) w' := by
  obtain ⟨es, clock, ho, el, h9⟩ := mapP_open h
  subst el
  clear h
  have hb := h9.block.2
  obtain ⟨li, hli⟩ := E.key c hc
  rcases findG (w := w) ho hc with ⟨h1, h2⟩ | ⟨j, x, h1, h2, rfl⟩
  · refine ⟨setBlock w bm (.map (entG E es) clock), ?_, ?_⟩
    · simp [Builtin.delete_, run_underlying ht, MapKept.run_getObj_map hb, E.K.check w _ hli, h1, MapKept.run_setObj_map _ hb, Result.andThen, setBlock]
    · rw [delG_none h2]
      exact mapP_shut ho (h9.putObj _)
  · have hm : (entG E es).eraseIdxIfInBounds j = entG E (es.eraseIdx j) := by
      apply Array.ext'
      rw [Array.toList_eraseIdxIfInBounds, entG_toList, entG_toList, map_eraseIdx]
    refine ⟨setBlock w bm (.map (entG E (es.eraseIdx j)) clock), ?_, ?_⟩
    · simp [Builtin.delete_, run_underlying ht, MapKept.run_getObj_map hb, E.K.check w _ hli, h1, MapKept.run_setObj_map _ hb, Result.andThen, setBlock, hm]
    · rw [delG_some ho.once h2]
      exact mapP_shut (ho.erase j) (h9.putObj _)
/-- len -/
theorem St.lenMap {w0 : World} {F : List HP} {l : List (κ × Value)} (h : St w0 (mapP E bm l :: F) w) (ht : P.underlying t = some (.map k e)) (ty : TypeId) : (Builtin.len_ #[t] ty #[.map (some bm)]).run P w = .ok (.int .i64 (l.length : Int)) w := by
  obtain ⟨es, clock, ho, el, h9⟩ := mapP_open h
  have hb := h9.block.2
  rw [← el, List.length_map, ← entG_size E es]
  simp [Builtin.len_, run_underlying ht, MapKept.run_getObj_map hb, Result.andThen, goInt]

/-! ### ranges -/
def leftG (l : List (EntG κ)) (seen : Array Nat) : List (EntG κ) := l.filter fun x => !seen.contains x.t
theorem leftOf_entG (l : List (EntG κ)) (seen : Array Nat) : leftOf (entG E l) seen = entG E (leftG l seen) := by
  apply Array.ext'
  unfold leftOf leftG
  rw [Array.toList_filter, entG_toList, entG_toList, List.filter_map]
  rfl
theorem leftG_push {l : List (EntG κ)} (ho : OkG E l clock) {seen : Array Nat} {x : EntG κ} (hx : x ∈ leftG l seen) : (leftG l seen).Perm (x :: leftG l (seen.push x.t)) := by
  have hn : (leftG l seen).Pairwise fun a b => a.t ≠ b.t := by
    have h1 := ho.stamps
    rw [List.nodup_iff_pairwise_ne, List.pairwise_map] at h1
    exact h1.sublist List.filter_sublist
  have he : leftG l (seen.push x.t) = (leftG l seen).filter fun y => y.t != x.t := by
    unfold leftG
    rw [List.filter_filter]
    refine List.filter_congr fun y _ => ?_
    by_cases hy : y.t = x.t <;> simp [hy]
  rw [he]
  generalize leftG l seen = m at *
  clear he
  induction m with
  | nil => cases hx
  | cons z m ih =>
    rw [List.pairwise_cons] at hn
    rcases List.mem_cons.1 hx with rfl | hx'
    · rw [List.filter_cons_of_neg (by simp)]
      rw [List.filter_eq_self.2 fun y hy => by simp; exact fun e => hn.1 y hy e.symm]
    · rw [List.filter_cons_of_pos (by simp; exact hn.1 x hx')]
      exact ((ih hx' hn.2).cons z).trans (List.Perm.swap _ _ _)
/-- an iterator over a map: these entries are still to come -/
structure ItG (κ : Type) where
  es : List (EntG κ)
  clock : Nat
  since : Nat
  seen : Array Nat
  c0 : Nat
def iterP (E : KeyE P k κ) (r bm : Nat) (l left : List (κ × Value)) : HP := HP.ex fun y : ItG κ => HP.pur (OkG E y.es y.clock ∧ y.es.map EntG.kv = l ∧ (leftG y.es y.seen).map EntG.kv = left ∧ (∀ x ∈ y.es, x.t < y.since) ∧ y.since ≤ y.c0 ∧ y.since ≤ y.clock) *
  (HP.at r (.mapIter (some bm) y.since y.seen y.c0) * HP.at bm (.map (entG E y.es) y.clock))
theorem iterP_shut {w0 : World} {F : List HP} {r : Nat} {y : ItG κ} (h1 : OkG E y.es y.clock) (h2 : ∀ x ∈ y.es, x.t < y.since) (h3 : y.since ≤ y.c0) (h4 : y.since ≤ y.clock) (h : St w0 (HP.at r (.mapIter (some bm) y.since y.seen y.c0) :: HP.at bm (.map (entG E y.es) y.clock) :: F) w) :
    St w0 (iterP E r bm (y.es.map EntG.kv) ((leftG y.es y.seen).map EntG.kv) :: F) w :=
  St.ex.2 ⟨y, St.two.2 (St.pur.2 ⟨⟨h1, rfl, rfl, h2, h3, h4⟩, St.two.2 h⟩)⟩
theorem St.rangeMap {w0 : World} {F : List HP} {l : List (κ × Value)} (h : St w0 (mapP E bm l :: F) w) (ht : P.underlying t = some (.map k e)) :
    ∃ w', (Instr.range t (.map (some bm))).run P w = .ok (.pointer (some ⟨w.heap.size, 0, none⟩)) w' ∧ St w0 (iterP E w.heap.size bm l l :: F) w' := by
  obtain ⟨es, clock, ho, el, h9⟩ := mapP_open h
  refine ⟨_, run_range_map w t k e bm (entG E es) clock ht h9.block.2, ?_⟩
  have h2 := h9.alloc (.mapIter (some bm) clock #[] clock)
  have h3 := iterP_shut (E := E) (y := ⟨es, clock, clock, #[], clock⟩) ho ho.past (Nat.le_refl _) (Nat.le_refl _) h2
  have e0 : leftG es #[] = es := by simp [leftG]
  dsimp only at h3
  rw [e0, el] at h3
  exact h3
/-- the iterator is left: the map is as it was -/
theorem St.rangeEnd {w0 : World} {F : List HP} {r : Nat} {l left : List (κ × Value)} (h : St w0 (iterP E r bm l left :: F) w) : St w0 (mapP E bm l :: F) w := by
  obtain ⟨y, h⟩ := St.ex.1 h
  obtain ⟨⟨h1, rfl, _, _, _, _⟩, h2⟩ := St.pur.1 (St.two.1 h)
  exact mapP_shut h1 (St.two.1 h2).drop
theorem St.nextMap {w0 : World} {F : List HP} {r : Nat} {l left : List (κ × Value)} (ty : TypeId) (h : St w0 (iterP E r bm l left :: F) w) :
    (left = [] ∧ (Instr.next (.pointer (some ⟨r, 0, none⟩)) false ty).run P w = .ok (.tuple #[.bool false]) w) ∨
    ∃ (x : κ × Value) (left' : List (κ × Value)) (w' : World), left.Perm (x :: left') ∧ (Instr.next (.pointer (some ⟨r, 0, none⟩)) false ty).run P w = .ok (.tuple #[.bool true, E.enc x.1, x.2]) w' ∧
      (Instr.entry (.pointer (some ⟨r, 0, none⟩))).run P w' = .ok (.tuple #[E.enc x.1, x.2]) w' ∧ St w0 (iterP E r bm l left' :: F) w' := by
  obtain ⟨⟨es, clock, since, seen, c0⟩, h⟩ := St.ex.1 h
  obtain ⟨⟨ho, rfl, rfl, hold, hsc, hsk⟩, h2⟩ := St.pur.1 (St.two.1 h)
  dsimp only at ho hold hsc hsk h2 ⊢
  have h3 := St.two.1 h2
  clear h h2
  rcases run_next_at w ty r bm since c0 seen (entG E es) clock h3.block.2 (h3.front 1).block.2 (fun x hx => by
      rw [entG_toList] at hx
      obtain ⟨y, hy, rfl⟩ := List.mem_map.1 hx
      exact hold y hy) hsc with ⟨h1, hr⟩ | ⟨e, he, w1, hw, hr⟩
  · rw [leftOf_entG, entG_size] at h1
    exact .inl ⟨by rw [List.eq_nil_of_length_eq_zero h1]; rfl, hr⟩
  · rw [leftOf_entG, entG_toList] at he
    obtain ⟨x, hx, rfl⟩ := List.mem_map.1 he
    have h' : St w0 (HP.at r (.mapIter (some bm) since seen c0) :: HP.at bm (.map (entG E es) clock) :: F) w1 := by
      rcases hw with rfl | rfl
      · exact h3
      · exact h3.drew
    have h4 := h'.putObj (.mapIter (some bm) since (seen.push x.t) clock)
    have hm : x ∈ es := (List.mem_filter.1 hx).1
    refine .inr ⟨x.kv, (leftG es (seen.push x.t)).map EntG.kv, _, ((leftG_push ho hx).map EntG.kv), hr, ?_, ?_⟩
    · refine run_entry_at _ r bm since seen (entG E es) clock (x.raw E) h4.block.2 (h4.front 1).block.2 (by rw [entG_toList]; exact List.mem_map_of_mem hm) ?_
      rw [entG_toList, List.map_map]
      exact ho.stamps
    · exact iterP_shut (E := E) (y := ⟨es, clock, since, seen.push x.t, clock⟩) ho hold hsk hsk h4
/-- the step of a range, at the operation -/
theorem wpList_next_mapG {w0 : World} {ops : Array Oper} {rest : List Oper} {o : Oper} {a : Act} {Q : Exit → Act → World → Prop} {F : List HP} {r : Nat} {l left : List (κ × Value)}
    (hg : o.guard = none) (it : Operand) (hop : o.op = Op.next it false) (hit : a.eval it = .pointer (some ⟨r, 0, none⟩)) (h : St w0 (iterP E r bm l left :: F) w)
    (hDone : left = [] → wpList P ops Q rest (a.put o.dst (.tuple #[.bool false])) w)
    (hMore : ∀ (x : κ × Value) (left' : List (κ × Value)) (w' : World), left.Perm (x :: left') → St w0 (iterP E r bm l left' :: F) w' →
      (Instr.entry (.pointer (some ⟨r, 0, none⟩))).run P w' = .ok (.tuple #[E.enc x.1, x.2]) w' →
      wpList P ops Q rest (a.put o.dst (.tuple #[.bool true, E.enc x.1, x.2])) w') :
    wpList P ops Q (o :: rest) a w := by
  refine wpList_plain hg fun K' hK' => ?_
  unfold Oper.wp
  rcases h.nextMap (P := P) o.type with ⟨h0, hrun⟩ | ⟨x, left', w', hp, hrun, hen, hs⟩
  · simp [execOp, hop, hit, hrun, Result.andThen]
    exact hK' _ _ (hDone h0)
  · simp [execOp, hop, hit, hrun, Result.andThen]
    exact hK' _ _ (hMore x left' w' hp hs hen)

/-! ### the operations, for the walks -/
section
variable [DecidableEq κ] {w0 : World} {F : List HP} {l : List (κ × Value)} {o : Oper} {a : Act} {c : κ}
theorem delete_run (m x : Operand) (t2 : TypeId) (ho : o.op = .call { callee := .builtin .delete, args := #[m, x], argTypes := #[t, t2] }) (ht : P.underlying t = some (.map k e)) (hm : a.eval m = .map (some bm)) (hx : a.eval x = E.enc c) (hc : E.ok c)
    (h : St w0 (mapP E bm l :: F) w) : ∃ w', (execOp a.eval o).run P w = .ok (.value (.tuple #[])) w' ∧ St w0 (mapP E bm (delG l c) :: F) w' := by
  obtain ⟨w', hrun, h2⟩ := St.delMap h ht hc t2 o.type
  refine ⟨w', ?_, h2⟩
  unfold execOp
  simp only [ho, resolve, invoke, builtin, Sem.run_bind, Sem.run_pure, Result.andThen_ok, List.map_toArray, List.map_cons, List.map_nil, hm, hx, hrun]
theorem update_run (m x v : Operand) (ho : o.op = Op.mapUpdate t m x v) (ht : P.underlying t = some (.map k e)) {u : Value} (hm : a.eval m = .map (some bm)) (hx : a.eval x = E.enc c) (hv : a.eval v = u) (hc : E.ok c)
    (h : St w0 (mapP E bm l :: F) w) : ∃ w', (execOp a.eval o).run P w = .ok .skip w' ∧ St w0 (mapP E bm (putG l c u) :: F) w' := by
  obtain ⟨w', hrun, h2⟩ := St.putMap h ht hc u
  refine ⟨w', ?_, h2⟩
  unfold execOp
  simp [ho, hm, hx, hv, hrun, Result.andThen]
theorem eff_delete_mapG {post : Value → World → Prop} (m x : Operand) (t t2 : TypeId) (ho : o.op = .call { callee := .builtin .delete, args := #[m, x], argTypes := #[t, t2] }) (ht : P.underlying t = some (.map k e)) (hm : a.eval m = .map (some bm)) (hx : a.eval x = E.enc c) (hc : E.ok c)
    (h : St w0 (mapP E bm l :: F) w) (hK : ∀ w', St w0 (mapP E bm (delG l c) :: F) w' → post (.tuple #[]) w') : effAt P o a w post := by
  obtain ⟨w', hrun, h2⟩ := delete_run m x t2 ho ht hm hx hc h
  exact effAt_value hrun (hK w' h2)
theorem eff_update_mapG {post : Value → World → Prop} (m x v : Operand) (t : TypeId) (ho : o.op = Op.mapUpdate t m x v) (ht : P.underlying t = some (.map k e)) {u : Value} (hm : a.eval m = .map (some bm)) (hx : a.eval x = E.enc c) (hv : a.eval v = u) (hc : E.ok c)
    (h : St w0 (mapP E bm l :: F) w) (hK : ∀ w', St w0 (mapP E bm (putG l c u) :: F) w' → post undef w') : effAt P o a w post := by
  obtain ⟨w', hrun, h2⟩ := update_run m x v ho ht hm hx hv hc h
  unfold effAt
  rw [hrun]
  exact hK w' h2
theorem wpList_delete_mapG {ops : Array Oper} {rest : List Oper} {Q : Exit → Act → World → Prop} (hg : o.guard = none) (m x : Operand) (t t2 : TypeId) (ho : o.op = .call { callee := .builtin .delete, args := #[m, x], argTypes := #[t, t2] }) (ht : P.underlying t = some (.map k e))
    (hm : a.eval m = .map (some bm)) (hx : a.eval x = E.enc c) (hc : E.ok c) (h : St w0 (mapP E bm l :: F) w) (hK : ∀ w', St w0 (mapP E bm (delG l c) :: F) w' → wpList P ops Q rest (a.put o.dst (.tuple #[])) w') : wpList P ops Q (o :: rest) a w := by
  refine wpList_plain hg fun K' hK' => ?_
  obtain ⟨w', hrun, h2⟩ := delete_run m x t2 ho ht hm hx hc h
  unfold Oper.wp
  rw [hrun]
  exact hK' _ _ (hK w' h2)
theorem wpList_update_mapG {ops : Array Oper} {rest : List Oper} {Q : Exit → Act → World → Prop} (hg : o.guard = none) (m x v : Operand) (t : TypeId) (ho : o.op = Op.mapUpdate t m x v) (ht : P.underlying t = some (.map k e)) {u : Value}
    (hm : a.eval m = .map (some bm)) (hx : a.eval x = E.enc c) (hv : a.eval v = u) (hc : E.ok c) (h : St w0 (mapP E bm l :: F) w) (hK : ∀ w', St w0 (mapP E bm (putG l c u) :: F) w' → wpList P ops Q rest (a.put o.dst undef) w') : wpList P ops Q (o :: rest) a w := by
  refine wpList_plain hg fun K' hK' => ?_
  obtain ⟨w', hrun, h2⟩ := update_run m x v ho ht hm hx hv hc h
  unfold Oper.wp
  rw [hrun]
  exact hK' _ _ (hK w' h2)
end
end
end Go.Proofs.YtcodjodhacjfeaaGreatDoor

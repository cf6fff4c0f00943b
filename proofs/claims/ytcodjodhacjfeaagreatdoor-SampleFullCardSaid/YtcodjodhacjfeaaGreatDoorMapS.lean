/-
  A map of the call's own from integers to pointers, told by its entries; the operations on it; for whatever program.
-/
import Derived.Test.YtcodjodhacjfeaaGreatDoorSl
import Derived.Maps.Keyed
import Derived.Maps.RangeWalk
namespace Go.Proofs.YtcodjodhacjfeaaGreatDoor
open Go.RowKit Go.Maps Go.ChangeMaps

/-- an entry: its key, the block that its value leads to, its stamp -/
structure Ent where
  k : Nat
  b : Nat
  t : Nat
def Ent.raw (x : Ent) : MapEntry := ⟨.int .i64 (x.k : Int), .pointer (some ⟨x.b, 0, none⟩), x.t⟩
def entsA (l : List Ent) : Array MapEntry := (l.map Ent.raw).toArray
theorem entsA_toList (l : List Ent) : (entsA l).toList = l.map Ent.raw := by simp [entsA]
theorem entsA_size (l : List Ent) : (entsA l).size = l.length := by simp [entsA]
theorem entsA_push (l : List Ent) (x : Ent) : (entsA l).push x.raw = entsA (l ++ [x]) := by simp [entsA]

theorem nodup_inj {l : List Ent} (hd : (l.map Ent.k).Nodup) {x y : Ent} (hx : x ∈ l) (hy : y ∈ l) (h : x.k = y.k) : x = y := by
  induction l with
  | nil => cases hx
  | cons z l ih =>
    rw [List.map_cons, List.nodup_cons] at hd
    rcases List.mem_cons.1 hx with rfl | hx' <;> rcases List.mem_cons.1 hy with rfl | hy'
    · rfl
    · exact absurd (List.mem_map.2 ⟨y, hy', h.symm⟩) hd.1
    · exact absurd (List.mem_map.2 ⟨x, hx', h⟩) hd.1
    · exact ih hd.2 hx' hy'
section
variable {P : Program} {w : World} {t k e : TypeId} {bm clock : Nat} {l : List Ent}

theorem key_of (hk : P.underlying k = some (.int .i64)) {c : Nat} (hc : c ≤ 9223372036854775807) : keyOf P k (.int .i64 (c : Int)) = some (.int .i64 c) :=
  keyOf_int_mk hk (WalkArith.wf_i64 (by omega))
theorem key_of' (hk : P.underlying k = some (.int .i64)) {c : Int} (hc : -9223372036854775808 ≤ c ∧ c ≤ 9223372036854775807) : keyOf P k (.int .i64 c) = some (.int .i64 c) :=
  keyOf_int_mk hk (WalkArith.wf_i64 hc)
theorem raw_keys (hk : P.underlying k = some (.int .i64)) (hl : ∀ x ∈ l, x.k ≤ 9223372036854775807) : ∀ e ∈ (entsA l).toList, ∃ li, keyOf P k e.key = some li := by
  intro e he
  rw [entsA_toList] at he
  obtain ⟨x, hx, rfl⟩ := List.mem_map.1 he
  exact ⟨_, key_of hk (hl x hx)⟩

/-- the key is not there -/
theorem look_none (ht : P.underlying t = some (.map k e)) (hk : P.underlying k = some (.int .i64)) (hz : (zeroValue e).run P w = .ok (.pointer none) w) (hb : w.heap[bm]? = some (.map (entsA l) clock))
    (hl : ∀ x ∈ l, x.k ≤ 9223372036854775807) {c : Nat} (hc : c ≤ 9223372036854775807) (hn : ∀ x ∈ l, x.k ≠ c) :
    (Instr.lookup t (.map (some bm)) (.int .i64 (c : Int)) false).run P w = .ok (.pointer none) w := by
  have K := int_keyed hk
  rcases K.find w (key_of hk hc) (entsA l).toList (raw_keys hk hl) with ⟨h1, _⟩ | ⟨j, e0, h1, h2, h3⟩
  · simp [Instr.lookup, run_underlying ht, MapKept.run_getObj_map hb, K.check w _ (key_of hk hc), h1, hz, Result.andThen]
  · have hm := List.mem_of_getElem? h2
    rw [entsA_toList] at hm
    obtain ⟨x, hx, rfl⟩ := List.mem_map.1 hm
    have h3' : Value.int .i64 (x.k : Int) = .int .i64 (c : Int) := h3
    injection h3' with _ h4
    exact absurd (by omega) (hn x hx)
/-- the key is there -/
theorem look_some (ht : P.underlying t = some (.map k e)) (hk : P.underlying k = some (.int .i64)) (hb : w.heap[bm]? = some (.map (entsA l) clock))
    (hl : ∀ x ∈ l, x.k ≤ 9223372036854775807) (hd : (l.map Ent.k).Nodup) {x : Ent} (hx : x ∈ l) :
    (Instr.lookup t (.map (some bm)) (.int .i64 (x.k : Int)) false).run P w = .ok (.pointer (some ⟨x.b, 0, none⟩)) w := by
  have K := int_keyed hk
  have hc := hl x hx
  rcases K.find w (key_of hk hc) (entsA l).toList (raw_keys hk hl) with ⟨_, h2⟩ | ⟨j, e0, h1, h2, h3⟩
  · exact absurd rfl (h2 x.raw (by rw [entsA_toList]; exact List.mem_map_of_mem hx))
  · have hm := List.mem_of_getElem? h2
    rw [entsA_toList] at hm
    obtain ⟨y, hy, rfl⟩ := List.mem_map.1 hm
    have h3' : Value.int .i64 (y.k : Int) = .int .i64 (x.k : Int) := h3
    injection h3' with _ h4
    have e1 : y = x := by
      have : y.k = x.k := by omega
      exact nodup_inj hd hy hx this
    subst e1
    have hv : y.raw.val = .pointer (some ⟨y.b, 0, none⟩) := rfl
    simp [Instr.lookup, run_underlying ht, MapKept.run_getObj_map hb, K.check w _ (key_of hk hc), h1, Result.andThen, hv]
/-- a new key is stored -/
theorem store_new (ht : P.underlying t = some (.map k e)) (hk : P.underlying k = some (.int .i64)) (hb : w.heap[bm]? = some (.map (entsA l) clock))
    (hl : ∀ x ∈ l, x.k ≤ 9223372036854775807) {c v : Nat} (hc : c ≤ 9223372036854775807) (hn : ∀ x ∈ l, x.k ≠ c) :
    (Instr.mapUpdate t (.map (some bm)) (.int .i64 (c : Int)) (.pointer (some ⟨v, 0, none⟩))).run P w = .ok () (setBlock w bm (.map (entsA (l ++ [⟨c, v, clock⟩])) (clock + 1))) := by
  have K := int_keyed hk
  rcases K.find w (key_of hk hc) (entsA l).toList (raw_keys hk hl) with ⟨h1, _⟩ | ⟨j, e0, h1, h2, h3⟩
  · have hp : (entsA l).push ⟨.int .i64 (c : Int), .pointer (some ⟨v, 0, none⟩), clock⟩ = entsA (l ++ [⟨c, v, clock⟩]) := entsA_push l ⟨c, v, clock⟩
    simp [Instr.mapUpdate, run_underlying ht, MapKept.run_getObj_map hb, K.check w _ (key_of hk hc), h1, MapKept.run_setObj_map _ hb, Result.andThen, setBlock, hp]
  · have hm := List.mem_of_getElem? h2
    rw [entsA_toList] at hm
    obtain ⟨x, hx, rfl⟩ := List.mem_map.1 hm
    have h3' : Value.int .i64 (x.k : Int) = .int .i64 (c : Int) := h3
    injection h3' with _ h4
    exact absurd (by omega) (hn x hx)

/-- what is left of a range -/
def leftE (l : List Ent) (seen : Array Nat) : List Ent := l.filter fun x => !seen.contains x.t
theorem leftOf_ents (l : List Ent) (seen : Array Nat) : leftOf (entsA l) seen = entsA (leftE l seen) := by
  apply Array.ext'
  unfold leftOf leftE
  rw [Array.toList_filter, entsA_toList, entsA_toList, List.filter_map]
  rfl
/-- the next entry of a range: nothing is left, or one of what is left -/
theorem next_of {r since c0 : Nat} {seen : Array Nat} (ty : TypeId) (hr : w.heap[r]? = some (.mapIter (some bm) since seen c0)) (hb : w.heap[bm]? = some (.map (entsA l) clock)) (hold : ∀ x ∈ l, x.t < since) (hsc : since ≤ c0) :
    (leftE l seen = [] ∧ (Instr.next (.pointer (some ⟨r, 0, none⟩)) false ty).run P w = .ok (.tuple #[.bool false]) w) ∨
    ∃ x ∈ leftE l seen, ∃ w1 : World, (w1 = w ∨ w1 = w.drew) ∧ (Instr.next (.pointer (some ⟨r, 0, none⟩)) false ty).run P w = .ok (.tuple #[.bool true, .int .i64 (x.k : Int), .pointer (some ⟨x.b, 0, none⟩)]) (setBlock w1 r (.mapIter (some bm) since (seen.push x.t) clock)) := by
  rcases run_next_at w ty r bm since c0 seen (entsA l) clock hr hb (fun x hx => by
      rw [entsA_toList] at hx
      obtain ⟨y, hy, rfl⟩ := List.mem_map.1 hx
      exact hold y hy) hsc with ⟨h1, h2⟩ | ⟨e, he, w1, hw, h2⟩
  · rw [leftOf_ents, entsA_size] at h1
    exact .inl ⟨List.eq_nil_of_length_eq_zero h1, h2⟩
  · rw [leftOf_ents, entsA_toList] at he
    obtain ⟨x, hx, rfl⟩ := List.mem_map.1 he
    exact .inr ⟨x, hx, w1, hw, h2⟩

/-! ### the same as laws on assertions -/
theorem below_setBlock {B b : Nat} {w : World} (hb : B ≤ b) (o : Obj) : Below B w (setBlock w b o) :=
  ⟨rfl, rfl, rfl, by simp [setBlock], fun k hk => by have hk' : b ≠ k := (by omega); simp [setBlock, hk']⟩
theorem St.putObj {w0 : World} {L : List HP} {b : Nat} {o : Obj} (h : St w0 (HP.at b o :: L) w) (o' : Obj) : St w0 (HP.at b o' :: L) (setBlock w b o') := by
  refine h.become (below_setBlock h.block.1 o') ?_ (fun k hk _ => ?_)
  · have := (Array.getElem?_eq_some_iff.1 h.block.2).1
    simp [setBlock, this]
  · have hk' : b ≠ k := fun e => hk e.symm
    simp [setBlock, hk']
/-- what a map holds: its keys are numbers, each is there once, each entry has a stamp of its own that is past -/
structure MapOk (l : List Ent) (clock : Nat) : Prop where
  small : ∀ x ∈ l, x.k ≤ 9223372036854775807
  once : (l.map Ent.k).Nodup
  stamps : (l.map Ent.t).Nodup
  past : ∀ x ∈ l, x.t < clock
theorem MapOk.nil : MapOk [] 0 := ⟨by simp, by simp, by simp, by simp⟩
theorem MapOk.add {l : List Ent} {clock : Nat} (h : MapOk l clock) {c v : Nat} (hc : c ≤ 9223372036854775807) (hn : ∀ x ∈ l, x.k ≠ c) : MapOk (l ++ [⟨c, v, clock⟩]) (clock + 1) := by
  refine ⟨fun x hx => ?_, ?_, ?_, fun x hx => ?_⟩
  · rcases List.mem_append.1 hx with hx | hx
    · exact h.small x hx
    · rw [List.mem_singleton.1 hx]; exact hc
  · rw [List.map_append, List.nodup_append]
    refine ⟨h.once, by simp, fun a ha b hb => ?_⟩
    obtain ⟨x, hx, rfl⟩ := List.mem_map.1 ha
    simp at hb
    subst hb
    exact hn x hx
  · rw [List.map_append, List.nodup_append]
    refine ⟨h.stamps, by simp, fun a ha b hb => ?_⟩
    obtain ⟨x, hx, rfl⟩ := List.mem_map.1 ha
    simp at hb
    subst hb
    have := h.past x hx
    omega
  · rcases List.mem_append.1 hx with hx | hx
    · have := h.past x hx; omega
    · rw [List.mem_singleton.1 hx]; exact Nat.lt_succ_self _
theorem St.mapStore {w0 : World} {L : List HP} (ht : P.underlying t = some (.map k e)) (hk : P.underlying k = some (.int .i64)) (h : St w0 (HP.at bm (.map (entsA l) clock) :: L) w) (ho : MapOk l clock) {c v : Nat} (hc : c ≤ 9223372036854775807) (hn : ∀ x ∈ l, x.k ≠ c) :
    ∃ w', (Instr.mapUpdate t (.map (some bm)) (.int .i64 (c : Int)) (.pointer (some ⟨v, 0, none⟩))).run P w = .ok () w' ∧ St w0 (HP.at bm (.map (entsA (l ++ [⟨c, v, clock⟩])) (clock + 1)) :: L) w' :=
  ⟨_, store_new ht hk h.block.2 ho.small hc hn, h.putObj _⟩
/-- the step of a range -/
theorem St.next {w0 : World} {L : List HP} {r since c0 : Nat} {seen : Array Nat} (ty : TypeId) (h : St w0 (HP.at r (.mapIter (some bm) since seen c0) :: HP.at bm (.map (entsA l) clock) :: L) w) (ho : MapOk l clock) (hold : ∀ x ∈ l, x.t < since) (hsc : since ≤ c0) :
    (leftE l seen = [] ∧ (Instr.next (.pointer (some ⟨r, 0, none⟩)) false ty).run P w = .ok (.tuple #[.bool false]) w) ∨
    ∃ x ∈ leftE l seen, ∃ w' : World, (Instr.next (.pointer (some ⟨r, 0, none⟩)) false ty).run P w = .ok (.tuple #[.bool true, .int .i64 (x.k : Int), .pointer (some ⟨x.b, 0, none⟩)]) w' ∧
      (Instr.entry (.pointer (some ⟨r, 0, none⟩))).run P w' = .ok (.tuple #[.int .i64 (x.k : Int), .pointer (some ⟨x.b, 0, none⟩)]) w' ∧
      St w0 (HP.at r (.mapIter (some bm) since (seen.push x.t) clock) :: HP.at bm (.map (entsA l) clock) :: L) w' := by
  rcases next_of (P := P) ty h.block.2 (h.front 1).block.2 hold hsc with h1 | ⟨x, hx, w1, hw, h2⟩
  · exact .inl h1
  · have h' : St w0 (HP.at r (.mapIter (some bm) since seen c0) :: HP.at bm (.map (entsA l) clock) :: L) w1 := by
      rcases hw with rfl | rfl
      · exact h
      · exact h.drew
    have h3 := h'.putObj (.mapIter (some bm) since (seen.push x.t) clock)
    refine .inr ⟨x, hx, _, h2, ?_, h3⟩
    have hm : x ∈ l := (List.mem_filter.1 hx).1
    refine run_entry_at _ r bm since seen (entsA l) clock x.raw h3.block.2 (h3.front 1).block.2 (by rw [entsA_toList]; exact List.mem_map_of_mem hm) ?_
    rw [entsA_toList, List.map_map]
    exact ho.stamps
theorem leftE_start {l : List Ent} : leftE l #[] = l := by simp [leftE]
theorem leftE_push {l : List Ent} {clock : Nat} (ho : MapOk l clock) {seen : Array Nat} {x : Ent} (hx : x ∈ leftE l seen) : (leftE l seen).Perm (x :: leftE l (seen.push x.t)) := by
  have hn : (leftE l seen).Pairwise fun a b => a.t ≠ b.t := by
    have h1 := ho.stamps
    rw [List.nodup_iff_pairwise_ne, List.pairwise_map] at h1
    exact h1.sublist List.filter_sublist
  have he : leftE l (seen.push x.t) = (leftE l seen).filter fun y => y.t != x.t := by
    unfold leftE
    rw [List.filter_filter]
    refine List.filter_congr fun y _ => ?_
    by_cases hy : y.t = x.t <;> simp [hy]
  rw [he]
  generalize leftE l seen = m at *
  clear he
  induction m with
  | nil => cases hx
  | cons z m ih =>
    rw [List.pairwise_cons] at hn
    rcases List.mem_cons.1 hx with rfl | hx'
    · rw [List.filter_cons_of_neg (by simp)]
      rw [List.filter_eq_self.2 fun y hy => by simp; exact fun e => hn.1 y hy e.symm]
    · rw [List.filter_cons_of_pos (by simp; exact hn.1 x hx')]
      exact ((ih hx' hn.2).cons z).trans (List.Perm.swap _ _ _)
end
/-- the step of a range, at the operation -/
theorem wpList_next_st {P : Program} {w w0 : World} {ops : Array Oper} {rest : List Oper} {o : Oper} {a : Act} {Q : Exit → Act → World → Prop} {bm clock : Nat} {l : List Ent} {L : List HP} {r since c0 : Nat} {seen : Array Nat}
    (hg : o.guard = none) (it : Operand) (hop : o.op = Op.next it false) (hit : a.eval it = .pointer (some ⟨r, 0, none⟩))
    (h : St w0 (HP.at r (.mapIter (some bm) since seen c0) :: HP.at bm (.map (entsA l) clock) :: L) w) (ho : MapOk l clock) (hold : ∀ x ∈ l, x.t < since) (hsc : since ≤ c0)
    (hDone : leftE l seen = [] → wpList P ops Q rest (a.put o.dst (.tuple #[.bool false])) w)
    (hMore : ∀ (x : Ent) (w' : World), x ∈ leftE l seen → St w0 (HP.at r (.mapIter (some bm) since (seen.push x.t) clock) :: HP.at bm (.map (entsA l) clock) :: L) w' →
      (Instr.entry (.pointer (some ⟨r, 0, none⟩))).run P w' = .ok (.tuple #[.int .i64 (x.k : Int), .pointer (some ⟨x.b, 0, none⟩)]) w' →
      wpList P ops Q rest (a.put o.dst (.tuple #[.bool true, .int .i64 (x.k : Int), .pointer (some ⟨x.b, 0, none⟩)])) w') :
    wpList P ops Q (o :: rest) a w := by
  refine wpList_plain hg fun K' hK' => ?_
  unfold Oper.wp
  rcases h.next (P := P) o.type ho hold hsc with ⟨h0, hrun⟩ | ⟨x, hx, w', hrun, hen, hs⟩
  · simp [execOp, hop, hit, hrun, Result.andThen]
    exact hK' _ _ (hDone h0)
  · simp [execOp, hop, hit, hrun, Result.andThen]
    exact hK' _ _ (hMore x w' hx hs hen)
/-- a new key is stored, at the operation -/
theorem wpList_mapUpdate_st {P : Program} {w w0 : World} {ops : Array Oper} {rest : List Oper} {o : Oper} {a : Act} {Q : Exit → Act → World → Prop} {bm clock : Nat} {l : List Ent} {L : List HP} {k e : TypeId}
    (hg : o.guard = none) (m x v : Operand) (t : TypeId) (hop : o.op = Op.mapUpdate t m x v) (ht : P.underlying t = some (.map k e)) (hk : P.underlying k = some (.int .i64)) (c b : Nat)
    (hm : a.eval m = .map (some bm)) (hx : a.eval x = .int .i64 (c : Int)) (hv : a.eval v = .pointer (some ⟨b, 0, none⟩))
    (h : St w0 (HP.at bm (.map (entsA l) clock) :: L) w) (ho : MapOk l clock) (hc : c ≤ 9223372036854775807) (hn : ∀ x ∈ l, x.k ≠ c)
    (hK : ∀ w', St w0 (HP.at bm (.map (entsA (l ++ [⟨c, b, clock⟩])) (clock + 1)) :: L) w' → wpList P ops Q rest (a.put o.dst undef) w') :
    wpList P ops Q (o :: rest) a w := by
  refine wpList_plain hg fun K' hK' => ?_
  obtain ⟨w', hrun, hs⟩ := h.mapStore (P := P) (v := b) ht hk ho hc hn
  unfold Oper.wp
  simp [execOp, hop, hm, hx, hv, hrun, Result.andThen]
  exact hK' _ _ (hK w' hs)
end Go.Proofs.YtcodjodhacjfeaaGreatDoor

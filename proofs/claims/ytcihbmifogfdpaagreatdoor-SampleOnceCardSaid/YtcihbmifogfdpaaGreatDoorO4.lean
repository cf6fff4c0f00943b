/-
  slices.Collect and slices.Sorted over the keys of a map, as the machine's own.
-/
import Derived.Test.YtcihbmifogfdpaaGreatDoorO2
import Derived.Test.YtcihbmifogfdpaaGreatDoorO3
namespace Go.Proofs.YtcihbmifogfdpaaGreatDoor
open Go.RowKit Go.Maps Go.Sort Go.Shelf
namespace Cl

/-- the map whose keys an iterator of maps.Keys gives -/
noncomputable def keysOf (G : Nat) (args : List Value) : HM (List MapEntry × Nat) := match args with
  | [.func (.func f) fi cp] => match Nat.beq f G, fi.toList, cp.toList with
    | true, [], [.pointer (some ⟨b, 0, none⟩)] => do
      let (c, _, v) ← getC b
      match c, v with
      | [.map (some m)], false => getM m
      | _, _ => HM.fail
    | _, _, _ => HM.fail
  | _ => HM.fail

section
variable {P : Program} {w0 w w' : World} {ρ : Pm} {h : H} {n : Nat}
theorem keysOf_spec (hw : W P w0 ρ h w) {G : Nat} {args args' : List Value} (hg : GL ρ args args') {x : Res (List MapEntry × Nat)} (e : (keysOf G args).run n h = some x) :
    ∃ (Bm b : Nat) (es' : Array MapEntry), args' = [.func (.func G) #[] #[.pointer (some ⟨Bm, 0, none⟩)]] ∧ Bm < w.heap.size ∧ b < w.heap.size ∧ w.cell? ⟨Bm, 0, none⟩ = some (.map (some b)) ∧ w.heap[b]? = some (.map es' x.a.2) ∧ GE ρ x.a.1 es'.toList ∧ x.h = h := by
  unfold keysOf at e
  split at e
  · rename_i f fi cp
    obtain ⟨v', l', rfl, g1, g2⟩ := hg.uncons
    obtain rfl := g2.nil_eq
    split at e
    · rename_i b hf hfi hcp
      obtain rfl := Nat.eq_of_beq_eq_true hf
      obtain ⟨k, fi', cp', h1, rfl, h3, h4⟩ := g1.func_inv
      cases h1
      rw [hfi] at h3
      rw [hcp] at h4
      have hfi' : fi' = #[] := by apply Array.ext'; simpa using h3.nil_eq
      obtain ⟨u', l2, hl2, g3, g4⟩ := h4.uncons
      obtain rfl := g4.nil_eq
      obtain ⟨p, p1, rfl⟩ := g3.ptr_inv
      rw [HM.bind_iff] at e
      obtain ⟨⟨⟨c, et, v⟩, n1, h1, r1, q1⟩, e1, x2, e2, rfl⟩ := e
      obtain ⟨e3, e4⟩ := getC_inv e1
      simp only at e2 e3 e4
      subst e3
      split at e2
      · rename_i m
        obtain ⟨e5, e6⟩ := getM_inv e2
        obtain ⟨_, c0, C, c1, c2, c3⟩ := hw.row e4 p1
        obtain ⟨s0, b0⟩ := c0 rfl
        obtain ⟨u', f1, f2⟩ := c3 0 _ rfl
        obtain ⟨pm, pm1, rfl⟩ := f2.map_inv
        obtain ⟨_, es', m1, m2⟩ := hw.mapRow e6 pm1
        have hcp' : cp' = #[.pointer (some ⟨p.blk, 0, none⟩)] := by apply Array.ext'; rw [hl2, b0]
        refine ⟨p.blk, pm.blk, es', by rw [hfi', hcp'], (Array.getElem?_eq_some_iff.1 c1).1, (Array.getElem?_eq_some_iff.1 m1).1, ?_, m1, m2, e5⟩
        rw [b0] at f1
        simpa [World.cell?, c1] using f1
      · rw [HM.fail_iff] at e2; cases e2
    · rw [HM.fail_iff] at e; cases e
  · rw [HM.fail_iff] at e; cases e

theorem GE.map_key {es es' : List MapEntry} (h : GE ρ es es') : es'.map (·.key) = es.map (·.key) := by
  apply List.ext_getElem?
  intro i
  rw [List.getElem?_map, List.getElem?_map]
  cases e : es[i]? with
  | none => rw [List.getElem?_eq_none_iff] at e; rw [List.getElem?_eq_none (by rw [← h.1]; exact e)]
  | some a =>
    have hlt : i < es'.length := h.1 ▸ (List.getElem?_eq_some_iff.1 e).1
    rw [List.getElem?_eq_getElem hlt]
    simp only [Option.map_some, Option.some.injEq]
    exact (h.2 i a _ e (List.getElem?_eq_getElem hlt)).1
theorem GE.map_born {es es' : List MapEntry} (h : GE ρ es es') : es'.map (·.born) = es.map (·.born) := by
  apply List.ext_getElem?
  intro i
  rw [List.getElem?_map, List.getElem?_map]
  cases e : es[i]? with
  | none => rw [List.getElem?_eq_none_iff] at e; rw [List.getElem?_eq_none (by rw [← h.1]; exact e)]
  | some a =>
    have hlt : i < es'.length := h.1 ▸ (List.getElem?_eq_some_iff.1 e).1
    rw [List.getElem?_eq_getElem hlt]
    simp only [Option.map_some, Option.some.injEq]
    exact (h.2 i a _ e (List.getElem?_eq_getElem hlt)).2.2.1
theorem insert_perm {H : Type} (x : Lit × DataW H) : ∀ l : List (Lit × DataW H), (DataW.insert x l).Perm (x :: l)
  | [] => List.Perm.refl _
  | y :: l => by
    unfold DataW.insert
    split
    · exact List.Perm.refl _
    · exact ((insert_perm x l).cons y).trans (List.Perm.swap x y l)
theorem foldr_insert_perm {H : Type} : ∀ l : List (Lit × DataW H), (l.foldr DataW.insert []).Perm l
  | [] => List.Perm.refl _
  | x :: l => (insert_perm x _).trans ((foldr_insert_perm l).cons x)

/-- values are not read -/
def R1 : Value → Option (DataW Unit × List MemPlace) := fun _ => some (.lit (.bool true), [])
/-- a map whose keys are these is one that the library's contracts know -/
theorem owns_map {k : TypeId} {es : List MapEntry} {es' : Array MapEntry} {b clock : Nat} (hb : w.heap[b]? = some (.map es' clock)) (hg : GE ρ es es'.toList) (h1 : es.length ≤ 1000) (h2 : ∀ c ∈ es.map (·.born), c < clock) (h3 : (es.map (·.born)).Nodup) (h4 : (es.map (·.key)).Pairwise (· ≠ ·)) (f : Value → Lit) (h5 : ∀ v ∈ es.map (·.key), keyOf P k v = some (f v)) :
    ∃ D0 : DataW Unit, w.ownsMap P k R1 b es.length D0 ∧ ∃ l : List (Lit × DataW Unit), D0 = .map l ∧ (l.map (·.1)).Perm ((es.map (·.key)).map f) := by
  have hrd : ∀ x ∈ es'.toList, WideElems.rd P k R1 x = some (f x.key, .lit (.bool true)) := fun x hx => by
    have : x.key ∈ es.map (·.key) := by rw [← hg.map_key]; exact List.mem_map_of_mem hx
    simp [WideElems.rd, h5 _ this, R1]
  refine ⟨_, ⟨es', clock, hb, ⟨?_, ?_, fun x hx => ⟨_, hrd x hx⟩⟩, ?_, rfl⟩, _, rfl, ?_⟩
  · have := hg.1; simp at this; simp [maxLen]; omega
  · rw [MapKept.stamped_iff]
    refine ⟨fun x hx => h2 _ (by rw [← hg.map_born]; exact List.mem_map_of_mem hx), by rw [hg.map_born]; exact h3, ?_⟩
    have : (es'.toList.map (·.key)).Pairwise (· ≠ ·) := by rw [hg.map_key]; exact h4
    rwa [List.pairwise_map] at this
  · have := hg.1; simp at this; omega
  · refine ((foldr_insert_perm _).map _).trans ?_
    rw [← hg.map_key, List.map_map, List.map_map]
    have : List.map ((fun x => x.1) ∘ WideElems.rg P k R1) es'.toList = List.map (f ∘ fun x => x.key) es'.toList := List.map_congr_left fun x hx => by simp [WideElems.rg, hrd x hx]
    rw [this]
end
end Cl
end Go.Proofs.YtcihbmifogfdpaaGreatDoor

/-
  Arguments that came in: a table, a slice of acts, an act.
-/
import Derived.Test.YtaejojbdkgccpaaOpenS
import Derived.Test.YtaejojbdkgccpaaC26
namespace Go.Proofs.Ytaejojbdkgccpaa
open Go.ChangeShapes Go.WideShapes Go.ChangeAt Go.RowKit Go.Deep Go.Joins

section
variable {H : Type} {enc : TypeId × Value → H} {P : Program} {w : World} {base : Nat} {spare : Nat → Bool} {held : Bool}
/-- a slice of ints that came in -/
theorem ints_open {t : TypeId} {v : Value} {fuel : Nat} {y : DataW H × List MemPlace} (ht : P.underlying t = some (.slice 3)) (hi : P.underlying 3 = some (.int .i64)) (hC : P.cellsOf 3 = 1)
    (h : DataW.trod enc P w base spare held fuel t [v] = some y) : ∃ a cap l, v = .slice a (List.length l) cap ∧ IntsAt w v l ∧ l.length ≤ maxLen := by
  rcases open_ints ht hi hC h with ⟨hcs, _⟩ | ⟨a, len, cap, zs, hcs, _, hl, hm, hz, hx, hcell, hwz⟩
  · simp at hcs
    subst hcs
    exact ⟨none, 0, [], rfl, Reads.nil w 1, Nat.zero_le _⟩
  · simp at hcs
    subst hcs
    have hlen : (zs.take len).length = len := by rw [List.length_take]; split at hz <;> omega
    refine ⟨some a, cap, zs.take len, by rw [hlen], ?_, by omega⟩
    unfold IntsAt
    rw [hlen]
    refine reads_of_cells rfl (by rw [List.length_map, hlen]; omega) hl (by omega) fun i x hx => ?_
    rw [List.getElem?_map] at hx
    obtain ⟨z, hz1, rfl⟩ := Option.map_eq_some_iff.1 hx
    have hil := (List.getElem?_eq_some_iff.1 hz1).1
    rw [List.getElem?_take_of_lt (by omega)] at hz1
    have hi2 := (List.getElem?_eq_some_iff.1 hz1).1
    rw [hcell i hi2, List.getD_eq_getElem?_getD, hz1]
    rfl
end
theorem acts_back : ∀ (acts : List ActV) (i : Nat) (u : Value), (acts.flatMap ActV.cells)[i]? = some u → ∃ k x, acts[k]? = some x ∧ ((i = k * 4 ∧ u = .int .i64 x.kind) ∨ (i = k * 4 + 1 ∧ u = .int .i64 x.cls) ∨ (i = k * 4 + 2 ∧ u = .int .i64 x.o) ∨ (i = k * 4 + 3 ∧ u = x.v))
  | [], i, u, h => by simp at h
  | y :: acts, 0, u, h => by
    simp [ActV.cells] at h
    exact ⟨0, y, rfl, .inl ⟨rfl, h.symm⟩⟩
  | y :: acts, 1, u, h => by
    simp [ActV.cells] at h
    exact ⟨0, y, rfl, .inr (.inl ⟨rfl, h.symm⟩)⟩
  | y :: acts, 2, u, h => by
    simp [ActV.cells] at h
    exact ⟨0, y, rfl, .inr (.inr (.inl ⟨rfl, h.symm⟩))⟩
  | y :: acts, 3, u, h => by
    simp [ActV.cells] at h
    exact ⟨0, y, rfl, .inr (.inr (.inr ⟨rfl, h.symm⟩))⟩
  | y :: acts, i + 4, u, h => by
    obtain ⟨k, x, hx, hc⟩ := acts_back acts i u (by simpa [ActV.cells] using h)
    refine ⟨k + 1, x, by simpa using hx, ?_⟩
    rcases hc with ⟨h1, h2⟩ | ⟨h1, h2⟩ | ⟨h1, h2⟩ | ⟨h1, h2⟩
    · exact .inl ⟨by omega, h2⟩
    · exact .inr (.inl ⟨by omega, h2⟩)
    · exact .inr (.inr (.inl ⟨by omega, h2⟩))
    · exact .inr (.inr (.inr ⟨by omega, h2⟩))
theorem acts_length (acts : List ActV) : (acts.flatMap ActV.cells).length = acts.length * 4 := by
  induction acts with
  | nil => rfl
  | cons x l ih => rw [List.flatMap_cons, List.length_append, ih, List.length_cons]; simp [ActV.cells]; omega
/-- a slice of acts that came in -/
theorem acts_open {H : Type} {enc : TypeId × Value → H} {W : World} {base : Nat} {v : Value} {d : DataW H} {p : List MemPlace}
    (h : DataW.Trod enc Try.prog W base (fun _ => true) true 23 v d p) (hv : ∃ a n cap, v = .slice a n cap) :
    ∃ a cap acts, v = .slice a (List.length acts) cap ∧ ActsAt W v acts ∧ acts.length ≤ maxLen := by
  obtain ⟨a, n, cap, rfl⟩ := hv
  obtain ⟨fuel, hf⟩ := h
  rcases open_slice_fields Try.underlying23 Try.underlying37 (by kernel_rfl) (by kernel_rfl) hf with hcs | ⟨a', len, cap', m, hcs, hl, hm, hmm, hi⟩
  · simp [Value.cells] at hcs
    obtain ⟨rfl, rfl, rfl⟩ := hcs
    exact ⟨none, 0, [], rfl, ⟨Reads.nil W 4, fun x hx => by cases hx⟩, Nat.zero_le _⟩
  · simp [Value.cells] at hcs
    obtain ⟨rfl, rfl, rfl⟩ := hcs
    simp only [if_true] at hmm
    subst hmm
    have hact : ∀ i, i < n → ∃ x : ActV, W.cell? (a'.add (i * 4)) = some (.int .i64 x.kind) ∧ W.cell? (a'.add (i * 4 + 1)) = some (.int .i64 x.cls) ∧ W.cell? (a'.add (i * 4 + 2)) = some (.int .i64 x.o) ∧ W.cell? (a'.add (i * 4 + 3)) = some x.v ∧ IntsAt W x.v x.l ∧ x.l.length ≤ maxLen := by
      intro i hin
      obtain ⟨k, hk⟩ := hi i (by omega)
      obtain ⟨v0, y0, hc0, h0⟩ := hk 0 _ rfl
      obtain ⟨v1, y1, hc1, h1⟩ := hk 1 _ rfl
      obtain ⟨v2, y2, hc2, h2⟩ := hk 2 _ rfl
      obtain ⟨v3, y3, hc3, h3⟩ := hk 3 _ rfl
      obtain ⟨z0, hz0, _⟩ := DataW.trod_int Try.underlying3 h0
      obtain ⟨z1, hz1, _⟩ := DataW.trod_int Try.underlying3 h1
      obtain ⟨z2, hz2, _⟩ := DataW.trod_int Try.underlying3 h2
      simp at hz0 hz1 hz2
      subst hz0 hz1 hz2
      obtain ⟨al, cl, l, hv1, hil, hll⟩ := ints_open Try.underlying28 Try.underlying3 (by kernel_rfl) h3
      subst hv1
      exact ⟨⟨z0, z1, z2, al, cl, l⟩, hc0, hc1, hc2, hc3, hil, hll⟩
    obtain ⟨acts, hlen, hq⟩ := all_of n hact
    refine ⟨some a', m, acts, by rw [hlen], ⟨?_, fun x hx => ?_⟩, by omega⟩
    · rw [hlen]
      refine reads_of_cells rfl (by rw [acts_length, hlen]) hl (by omega) fun i u hu => ?_
      obtain ⟨k, x, hx, ⟨rfl, rfl⟩ | ⟨rfl, rfl⟩ | ⟨rfl, rfl⟩ | ⟨rfl, rfl⟩⟩ := acts_back acts i u hu
      · exact (hq k x hx).1
      · exact (hq k x hx).2.1
      · exact (hq k x hx).2.2.1
      · exact (hq k x hx).2.2.2.1
    · obtain ⟨k, hk⟩ := List.getElem?_of_mem hx
      obtain ⟨_, _, _, _, h1, h2⟩ := hq k x hk
      exact ⟨h1, by unfold maxLen at h2; omega⟩
theorem cls_back : ∀ (tb : List Cls) (i : Nat) (u : Value), (clsC tb)[i]? = some u → ∃ k x, tb[k]? = some x ∧ ((i = k * 3 ∧ u = .int .i64 x.size) ∨ (i = k * 3 + 1 ∧ u = .int .i64 x.pages) ∨ (i = k * 3 + 2 ∧ u = .int .i64 x.batch))
  | [], i, u, h => by simp [clsC] at h
  | y :: tb, 0, u, h => by
    simp [clsC] at h
    exact ⟨0, y, rfl, .inl ⟨rfl, h.symm⟩⟩
  | y :: tb, 1, u, h => by
    simp [clsC] at h
    exact ⟨0, y, rfl, .inr (.inl ⟨rfl, h.symm⟩)⟩
  | y :: tb, 2, u, h => by
    simp [clsC] at h
    exact ⟨0, y, rfl, .inr (.inr ⟨rfl, h.symm⟩)⟩
  | y :: tb, i + 3, u, h => by
    obtain ⟨k, x, hx, hc⟩ := cls_back tb i u (by simpa [clsC] using h)
    refine ⟨k + 1, x, by simpa using hx, ?_⟩
    rcases hc with ⟨h1, h2⟩ | ⟨h1, h2⟩ | ⟨h1, h2⟩
    · exact .inl ⟨by omega, h2⟩
    · exact .inr (.inl ⟨by omega, h2⟩)
    · exact .inr (.inr ⟨by omega, h2⟩)
/-- a table that came in -/
theorem tab_open {H : Type} {enc : TypeId × Value → H} {W : World} {base : Nat} {v : Value} {d : DataW H} {p : List MemPlace}
    (h : DataW.Trod enc Try.prog W base (fun _ => true) true 22 v d p) (hv : ∃ a n cap, v = .slice a n cap) :
    ∃ a cap tb, v = .slice a (List.length tb) cap ∧ Reads W 3 v tb.length (clsC tb) ∧ tb.length ≤ maxLen := by
  obtain ⟨a, n, cap, rfl⟩ := hv
  obtain ⟨fuel, hf⟩ := h
  rcases open_slice_fields Try.underlying22 Try.underlying43 (by kernel_rfl) (by kernel_rfl) hf with hcs | ⟨a', len, cap', m, hcs, hl, hm, hmm, hi⟩
  · simp [Value.cells] at hcs
    obtain ⟨rfl, rfl, rfl⟩ := hcs
    exact ⟨none, 0, [], rfl, Reads.nil W 3, Nat.zero_le _⟩
  · simp [Value.cells] at hcs
    obtain ⟨rfl, rfl, rfl⟩ := hcs
    simp only [if_true] at hmm
    subst hmm
    have hact : ∀ i, i < n → ∃ x : Cls, W.cell? (a'.add (i * 3)) = some (.int .i64 x.size) ∧ W.cell? (a'.add (i * 3 + 1)) = some (.int .i64 x.pages) ∧ W.cell? (a'.add (i * 3 + 2)) = some (.int .i64 x.batch) := by
      intro i hin
      obtain ⟨k, hk⟩ := hi i (by omega)
      obtain ⟨v0, y0, hc0, h0⟩ := hk 0 _ rfl
      obtain ⟨v1, y1, hc1, h1⟩ := hk 1 _ rfl
      obtain ⟨v2, y2, hc2, h2⟩ := hk 2 _ rfl
      obtain ⟨z0, hz0, _⟩ := DataW.trod_int Try.underlying3 h0
      obtain ⟨z1, hz1, _⟩ := DataW.trod_int Try.underlying3 h1
      obtain ⟨z2, hz2, _⟩ := DataW.trod_int Try.underlying3 h2
      simp at hz0 hz1 hz2
      subst hz0 hz1 hz2
      exact ⟨⟨z0, z1, z2⟩, hc0, hc1, hc2⟩
    obtain ⟨tb, hlen, hq⟩ := all_of n hact
    refine ⟨some a', m, tb, by rw [hlen], ?_, by omega⟩
    rw [hlen]
    refine reads_of_cells rfl (by rw [clsC_len, hlen]) hl (by omega) fun i u hu => ?_
    obtain ⟨k, x, hx, ⟨rfl, rfl⟩ | ⟨rfl, rfl⟩ | ⟨rfl, rfl⟩⟩ := cls_back tb i u hu
    · exact (hq k x hx).1
    · exact (hq k x hx).2.1
    · exact (hq k x hx).2.2
set_option maxRecDepth 10000 in
/-- an act that came in -/
theorem act_open {H : Type} {enc : TypeId × Value → H} {W : World} {base b0 : Nat} {r : Reach} {v : Value} {d : DataW H} {p : List MemPlace}
    (h : DataW.Trod enc Try.prog W base (fun _ => true) true 37 v d p) (hv : Value.okWide Try.prog W r b0 37 v) :
    ∃ x : ActV, v = .agg #[.int .i64 x.kind, .int .i64 x.cls, .int .i64 x.o, x.v] ∧ (IntsAt W x.v x.l ∧ x.l.length ≤ 9223372036854775807) := by
  obtain ⟨v0, v1, v2, v3, y0, y1, y2, y3, n, rfl, _, _, h0, h1, h2, h3⟩ := open_agg4 Try.underlying37 (by kernel_rfl) (by kernel_rfl) hv h
  obtain ⟨z0, hz0, _⟩ := DataW.trod_int Try.underlying3 h0
  obtain ⟨z1, hz1, _⟩ := DataW.trod_int Try.underlying3 h1
  obtain ⟨z2, hz2, _⟩ := DataW.trod_int Try.underlying3 h2
  simp at hz0 hz1 hz2
  subst hz0 hz1 hz2
  obtain ⟨al, cl, l, hv1, hil, hll⟩ := ints_open Try.underlying28 Try.underlying3 (by kernel_rfl) h3
  subst hv1
  exact ⟨⟨z0, z1, z2, al, cl, l⟩, rfl, hil, by unfold maxLen at hll; omega⟩
end Go.Proofs.Ytaejojbdkgccpaa

/-
  Arguments that came in: a slice of rows.
-/
import Derived.Test.YtcihbmifogfdpaaGreatDoorOpenS
import Derived.Test.YtcihbmifogfdpaaGreatDoorTA
import Derived.ChangeMaps5
namespace Go.Proofs.YtcihbmifogfdpaaGreatDoor
open Go.ChangeShapes Go.WideShapes Go.ChangeAt Go.RowKit Go.Deep Go.Joins

theorem rowsC_back : ∀ (l : List Rw) (i : Nat) (u : Value), (rowsC l)[i]? = some u → ∃ k x, l[k]? = some x ∧ ((i = k * 5 ∧ u = .string x.site) ∨ (i = k * 5 + 1 ∧ u = .int .i64 x.a) ∨ (i = k * 5 + 2 ∧ u = .int .i64 x.b) ∨ (i = k * 5 + 3 ∧ u = .int .i64 x.c) ∨ (i = k * 5 + 4 ∧ u = .int .i64 x.d))
  | [], i, u, h => by simp [rowsC] at h
  | y :: l, 0, u, h => by
    simp [rowsC, Rw.cells] at h
    exact ⟨0, y, rfl, .inl ⟨rfl, h.symm⟩⟩
  | y :: l, 1, u, h => by
    simp [rowsC, Rw.cells] at h
    exact ⟨0, y, rfl, .inr (.inl ⟨rfl, h.symm⟩)⟩
  | y :: l, 2, u, h => by
    simp [rowsC, Rw.cells] at h
    exact ⟨0, y, rfl, .inr (.inr (.inl ⟨rfl, h.symm⟩))⟩
  | y :: l, 3, u, h => by
    simp [rowsC, Rw.cells] at h
    exact ⟨0, y, rfl, .inr (.inr (.inr (.inl ⟨rfl, h.symm⟩)))⟩
  | y :: l, 4, u, h => by
    simp [rowsC, Rw.cells] at h
    exact ⟨0, y, rfl, .inr (.inr (.inr (.inr ⟨rfl, h.symm⟩)))⟩
  | y :: l, i + 5, u, h => by
    obtain ⟨k, x, hx, hc⟩ := rowsC_back l i u (by simpa [rowsC, Rw.cells] using h)
    refine ⟨k + 1, x, by simpa using hx, ?_⟩
    rcases hc with ⟨h1, h2⟩ | ⟨h1, h2⟩ | ⟨h1, h2⟩ | ⟨h1, h2⟩ | ⟨h1, h2⟩
    · exact .inl ⟨by omega, h2⟩
    · exact .inr (.inl ⟨by omega, h2⟩)
    · exact .inr (.inr (.inl ⟨by omega, h2⟩))
    · exact .inr (.inr (.inr (.inl ⟨by omega, h2⟩)))
    · exact .inr (.inr (.inr (.inr ⟨by omega, h2⟩)))
theorem wf_i64r {z : Int} (h : (Lit.int .i64 z).wf = true) : i64r z := by
  simp only [Lit.wf, decide_eq_true_eq, Bool.and_eq_true] at h
  exact h

/-- a slice of rows that came in -/
theorem rows_open {H : Type} {enc : TypeId × Value → H} {W : World} {base : Nat} {v : Value} {d : DataW H} {p : List MemPlace}
    (h : DataW.Trod enc Tryz.prog W base (fun _ => true) true 22 v d p) (hv : ∃ a n cap, v = .slice a n cap) :
    ∃ a cap l, v = .slice a (List.length l) cap ∧ ((∀ r ∈ l, Rw.wf r) ∧ RowsAt W v l) ∧ l.length ≤ maxLen := by
  obtain ⟨a, n, cap, rfl⟩ := hv
  obtain ⟨fuel, hf⟩ := h
  rcases open_slice_fields Tryz.underlying22 Tryz.underlying47 (by kernel_rfl) (by kernel_rfl) hf with hcs | ⟨a', len, cap', m, hcs, hl, hm, hmm, hi⟩
  · simp [Value.cells] at hcs
    obtain ⟨rfl, rfl, rfl⟩ := hcs
    exact ⟨none, 0, [], rfl, ⟨(fun r hr => by cases hr), Reads.nil W 5⟩, Nat.zero_le _⟩
  · simp [Value.cells] at hcs
    obtain ⟨rfl, rfl, rfl⟩ := hcs
    simp only [if_true] at hmm
    subst hmm
    have hrow : ∀ i, i < n → ∃ x : Rw, W.cell? (a'.add (i * 5)) = some (.string x.site) ∧ W.cell? (a'.add (i * 5 + 1)) = some (.int .i64 x.a) ∧ W.cell? (a'.add (i * 5 + 2)) = some (.int .i64 x.b) ∧ W.cell? (a'.add (i * 5 + 3)) = some (.int .i64 x.c) ∧ W.cell? (a'.add (i * 5 + 4)) = some (.int .i64 x.d) ∧ x.wf := by
      intro i hin
      obtain ⟨k, hk⟩ := hi i (by omega)
      obtain ⟨v0, y0, hc0, h0⟩ := hk 0 _ rfl
      obtain ⟨v1, y1, hc1, h1⟩ := hk 1 _ rfl
      obtain ⟨v2, y2, hc2, h2⟩ := hk 2 _ rfl
      obtain ⟨v3, y3, hc3, h3⟩ := hk 3 _ rfl
      obtain ⟨v4, y4, hc4, h4⟩ := hk 4 _ rfl
      obtain ⟨s0, hz0, _, hs0⟩ := DataW.trod_string Tryz.underlying9 h0
      obtain ⟨z1, hz1, _, w1⟩ := DataW.trod_int Tryz.underlying3 h1
      obtain ⟨z2, hz2, _, w2⟩ := DataW.trod_int Tryz.underlying3 h2
      obtain ⟨z3, hz3, _, w3⟩ := DataW.trod_int Tryz.underlying3 h3
      obtain ⟨z4, hz4, _, w4⟩ := DataW.trod_int Tryz.underlying3 h4
      obtain rfl := List.singleton_inj.1 hz0
      obtain rfl := List.singleton_inj.1 hz1
      obtain rfl := List.singleton_inj.1 hz2
      obtain rfl := List.singleton_inj.1 hz3
      obtain rfl := List.singleton_inj.1 hz4
      exact ⟨⟨s0, z1, z2, z3, z4⟩, hc0, hc1, hc2, hc3, hc4, ⟨hs0, wf_i64r w1, wf_i64r w2, wf_i64r w3, wf_i64r w4⟩⟩
    obtain ⟨l, hlen, hq⟩ := all_of n hrow
    refine ⟨some a', m, l, by rw [hlen], ⟨fun r hr => ?_, ?_⟩, by omega⟩
    · obtain ⟨k, hk⟩ := List.getElem?_of_mem hr
      exact (hq k r hk).2.2.2.2.2
    · unfold RowsAt
      rw [hlen]
      refine reads_of_cells rfl (by rw [rowsC_len, hlen]) hl (by omega) fun i u hu => ?_
      obtain ⟨k, x, hx, ⟨rfl, rfl⟩ | ⟨rfl, rfl⟩ | ⟨rfl, rfl⟩ | ⟨rfl, rfl⟩ | ⟨rfl, rfl⟩⟩ := rowsC_back l i u hu
      · exact (hq k x hx).1
      · exact (hq k x hx).2.1
      · exact (hq k x hx).2.2.1
      · exact (hq k x hx).2.2.2.1
      · exact (hq k x hx).2.2.2.2.1
end Go.Proofs.YtcihbmifogfdpaaGreatDoor

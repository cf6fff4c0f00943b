/-
  Arguments that came in: a slice of acts; an act by value.
-/
import Derived.Test.YtjignbbdgoadjaaOpenS
import Derived.Test.YtjignbbdgoadjaaH12
namespace Go.Proofs.Ytjignbbdgoadjaa
open Go.ChangeShapes Go.WideShapes Go.ChangeAt Go.RowKit Go.Deep Go.Joins

theorem acts_back : ∀ (acts : List ActV) (i : Nat) (u : Value), (acts.flatMap ActV.cells)[i]? = some u → ∃ k x, acts[k]? = some x ∧ ((i = k * 3 ∧ u = .int .i64 x.kind) ∨ (i = k * 3 + 1 ∧ u = .int .i64 x.a) ∨ (i = k * 3 + 2 ∧ u = .int .i64 x.b))
  | [], i, u, h => by simp at h
  | y :: acts, 0, u, h => by
    simp [ActV.cells] at h
    exact ⟨0, y, rfl, .inl ⟨rfl, h.symm⟩⟩
  | y :: acts, 1, u, h => by
    simp [ActV.cells] at h
    exact ⟨0, y, rfl, .inr (.inl ⟨rfl, h.symm⟩)⟩
  | y :: acts, 2, u, h => by
    simp [ActV.cells] at h
    exact ⟨0, y, rfl, .inr (.inr ⟨rfl, h.symm⟩)⟩
  | y :: acts, i + 3, u, h => by
    obtain ⟨k, x, hx, hc⟩ := acts_back acts i u (by simpa [ActV.cells] using h)
    exact ⟨k + 1, x, by simpa using hx, by
      rcases hc with ⟨h1, h2⟩ | ⟨h1, h2⟩ | ⟨h1, h2⟩
      · exact .inl ⟨by omega, h2⟩
      · exact .inr (.inl ⟨by omega, h2⟩)
      · exact .inr (.inr ⟨by omega, h2⟩)⟩
theorem acts_length (acts : List ActV) : (acts.flatMap ActV.cells).length = acts.length * 3 := by
  induction acts with
  | nil => rfl
  | cons x l ih => rw [List.flatMap_cons, List.length_append, ih, List.length_cons]; simp [ActV.cells]; omega

/-- a slice of acts that came in -/
theorem acts_open {H : Type} {enc : TypeId × Value → H} {W : World} {base : Nat} {v : Value} {d : DataW H} {p : List MemPlace}
    (h : DataW.Trod enc Try.prog W base (fun _ => true) true 22 v d p) (hv : ∃ a n cap, v = .slice a n cap) :
    ∃ a cap acts, v = .slice a (List.length acts) cap ∧ ActsAt W v acts ∧ acts.length ≤ maxLen := by
  obtain ⟨a, n, cap, rfl⟩ := hv
  obtain ⟨fuel, hf⟩ := h
  rcases open_slice_fields Try.underlying22 Try.underlying46 (by kernel_rfl) (by kernel_rfl) hf with hcs | ⟨a', len, cap', m, hcs, hl, hm, hmm, hi⟩
  · simp [Value.cells] at hcs
    obtain ⟨rfl, rfl, rfl⟩ := hcs
    exact ⟨none, 0, [], rfl, Reads.nil W 3, Nat.zero_le _⟩
  · simp [Value.cells] at hcs
    obtain ⟨rfl, rfl, rfl⟩ := hcs
    simp only [if_true] at hmm
    subst hmm
    have hact : ∀ i, i < n → ∃ x : ActV, W.cell? (a'.add (i * 3)) = some (.int .i64 x.kind) ∧ W.cell? (a'.add (i * 3 + 1)) = some (.int .i64 x.a) ∧ W.cell? (a'.add (i * 3 + 2)) = some (.int .i64 x.b) := by
      intro i hin
      obtain ⟨k, hk⟩ := hi i (by omega)
      obtain ⟨v0, y0, hc0, h0⟩ := hk 0 _ rfl
      obtain ⟨v1, y1, hc1, h1⟩ := hk 1 _ rfl
      obtain ⟨v2, y2, hc2, h2⟩ := hk 2 _ rfl
      obtain ⟨z0, hz0, _⟩ := DataW.trod_int Try.underlying3 h0
      obtain ⟨z1, hz1, _⟩ := DataW.trod_int Try.underlying3 h1
      obtain ⟨z2, hz2, _⟩ := DataW.trod_int Try.underlying3 h2
      simp at hz0 hz1 hz2
      subst hz0 hz1 hz2
      exact ⟨⟨z0, z1, z2⟩, hc0, hc1, hc2⟩
    obtain ⟨acts, hlen, hq⟩ := all_of n hact
    refine ⟨some a', m, acts, by rw [hlen], ?_, by omega⟩
    unfold ActsAt
    rw [hlen]
    refine reads_of_cells rfl (by rw [acts_length, hlen]) hl (by omega) fun i u hu => ?_
    obtain ⟨k, x, hx, ⟨rfl, rfl⟩ | ⟨rfl, rfl⟩ | ⟨rfl, rfl⟩⟩ := acts_back acts i u hu
    · exact (hq k x hx).1
    · exact (hq k x hx).2.1
    · exact (hq k x hx).2.2
set_option maxRecDepth 100000 in
theorem act_open {H : Type} {enc : TypeId × Value → H} {W : World} {base b0 : Nat} {r : Reach} {v : Value} {d : DataW H} {p : List MemPlace}
    (h : DataW.Trod enc Try.prog W base (fun _ => true) true 46 v d p) (hv : Value.okWide Try.prog W r b0 46 v) :
    ∃ x : ActV, v = .agg #[.int .i64 x.kind, .int .i64 x.a, .int .i64 x.b] ∧ True := by
  obtain ⟨v0, v1, v2, y0, y1, y2, n, rfl, _, _, h0, h1, h2⟩ := open_agg3 Try.underlying46 (by kernel_rfl) (by kernel_rfl) hv h
  obtain ⟨z0, hz0, _⟩ := DataW.trod_int Try.underlying3 h0
  obtain ⟨z1, hz1, _⟩ := DataW.trod_int Try.underlying3 h1
  obtain ⟨z2, hz2, _⟩ := DataW.trod_int Try.underlying3 h2
  simp at hz0 hz1 hz2
  subst hz0 hz1 hz2
  exact ⟨⟨z0, z1, z2⟩, rfl, trivial⟩
end Go.Proofs.Ytjignbbdgoadjaa

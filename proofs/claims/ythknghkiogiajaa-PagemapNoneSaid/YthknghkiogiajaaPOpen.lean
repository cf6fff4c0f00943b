/-
  Arguments that came in: a slice of acts.
-/
import Derived.Test.YthknghkiogiajaaRows
import Derived.WalkKit
import Derived.ProofKit
import Derived.OpenShut
import Derived.ShutString
import Derived.ChangeOld
import Derived.Below
import Derived.Deep.Slices
import Derived.Deep.Fields
import Derived.ChangeSame
import Derived.Lib.SmallJoins
import Derived.Test.YthknghkiogiajaaP12
namespace Go.Proofs.Ythknghkiogiajaa
open Go.ChangeShapes Go.WideShapes Go.ChangeAt Go.RowKit Go.Deep Go.Joins

section
variable {H : Type} {enc : TypeId × Value → H} {P : Program} {w : World} {base : Nat} {spare : Nat → Bool} {held : Bool}
theorem open_slice_fields {t e : TypeId} {fs : Array Field} {fuel : Nat} {cs : List Value} {x : DataW H × List MemPlace} (ht : P.underlying t = some (.slice e)) (he : P.underlying e = some (.struct fs))
    (hone : oneCellFields P fs = true) (hC : P.cellsOf e = fs.size) (h : DataW.trod enc P w base spare held fuel t cs = some x) :
    (cs = [.slice none 0 0]) ∨
    ∃ (a : Addr) (len cap m : Nat), cs = [.slice (some a) len cap] ∧ len ≤ cap ∧ cap ≤ maxLen ∧ m = (if spare a.block then cap else len) ∧
      ∀ i, i < m → ∃ (n : Nat), 
        ∀ (j : Nat) (f : Field), fs[j]? = some f → ∃ (v : Value) (y : DataW H × List MemPlace), w.cell? (a.add (i * fs.size + j)) = some v ∧ DataW.trod enc P w base spare held n f.type [v] = some y := by
  rcases open_slice ht h with h0 | ⟨a, len, cap, m, n, D, Pl, hcs, hb, hl, hm, hmm, hx, hi⟩
  · exact .inl h0.1
  · refine .inr ⟨a, len, cap, m, hcs, hl, hm, hmm, fun i him => ?_⟩
    obtain ⟨cs', hc, ht'⟩ := hi i him
    rw [hC] at hc
    obtain ⟨ys, n', hn', hy, hlen, hyl, hf⟩ := DataW.trod_struct he ht'
    obtain ⟨_, hcl, hat⟩ := World.cells?_some hc
    refine ⟨n', fun j f hj => ?_⟩
    obtain ⟨ho, hk⟩ := hone_of hone j f hj
    have hjl : j < fs.size := (Array.getElem?_eq_some_iff.1 hj).1
    have hcell := hat j hjl
    have hv : cs'[j]? = some (cs'[j]'(by omega)) := List.getElem?_eq_getElem (by omega)
    have h1 := hf j f hj
    rw [ho, hk] at h1
    have hone' : (cs'.drop j).take 1 = [cs'[j]'(by omega)] := by
      rw [List.drop_eq_getElem_cons (by omega)]
      rfl
    rw [hone'] at h1
    have hys : ys[j]? = some (ys[j]'(by omega)) := List.getElem?_eq_getElem (by omega)
    refine ⟨_, _, ?_, h1.trans hys⟩
    rw [← Go.Deep.add_add, hcell, hv]

theorem reads_of_cells {v : Value} {a : Addr} {len cap sz : Nat} {xs : List Value} (hv : v = .slice (some a) len cap) (hl : xs.length = len * sz) (hn : len ≤ cap) (hs : 0 < sz) (hc : ∀ i x, xs[i]? = some x → w.cell? (a.add i) = some x) : Reads w sz v len xs := by
  obtain ⟨b, off, sp⟩ := a
  have hsp : sp = none ∨ len = 0 := by
    by_cases h0 : len = 0
    · exact .inr h0
    · left
      have hlt : 0 < xs.length := by rw [hl]; exact Nat.mul_pos (by omega) hs
      have := hc 0 _ (List.getElem?_eq_getElem hlt)
      simpa [Addr.add] using World.cell?_spot this
  refine ⟨hl, .inr ⟨b, off, sp, cap, hv, hn, hsp, fun i x hx => ?_⟩⟩
  have h := hc i x hx
  rcases hsp with rfl | h0
  · rw [Addr.add_lit] at h; exact h
  · have hi := (List.getElem?_eq_some_iff.1 hx).1
    subst h0
    omega

end

/-- one of each -/
theorem all_of {α : Type} {Q : Nat → α → Prop} : ∀ n, (∀ i, i < n → ∃ x, Q i x) → ∃ l : List α, l.length = n ∧ ∀ (i : Nat) (x : α), l[i]? = some x → Q i x
  | 0, _ => ⟨[], rfl, fun i x h => by simp at h⟩
  | n + 1, h => by
    obtain ⟨l, hl, hq⟩ := all_of n (fun i hi => h i (by omega))
    obtain ⟨x, hx⟩ := h n (by omega)
    refine ⟨l ++ [x], by simp [hl], fun i y hy => ?_⟩
    by_cases hi : i < l.length
    · rw [List.getElem?_append_left hi] at hy; exact hq i y hy
    · rw [List.getElem?_append_right (by omega)] at hy
      have hi0 : i - l.length = 0 := by
        have := (List.getElem?_eq_some_iff.1 hy).1
        simp at this; omega
      rw [hi0] at hy
      simp at hy
      subst hy
      have : i = n := by omega
      subst this
      exact hx
theorem acts_back : ∀ (acts : List ActV) (i : Nat) (u : Value), (acts.flatMap ActV.cells)[i]? = some u → ∃ k x, acts[k]? = some x ∧ ((i = k * 4 ∧ u = .int .i64 x.kind) ∨ (i = k * 4 + 1 ∧ u = .int .i64 x.a) ∨ (i = k * 4 + 2 ∧ u = .int .i64 x.b) ∨ (i = k * 4 + 3 ∧ u = .int .i64 x.c))
  | [], i, u, h => by simp at h
  | y :: acts, 0, u, h => by
    simp [ActV.cells] at h
    exact ⟨0, y, rfl, .inl ⟨rfl, h.symm⟩⟩
  | y :: acts, 1, u, h => by
    simp [ActV.cells] at h
    exact ⟨0, y, rfl, .inr (.inl ⟨rfl, h.symm⟩)⟩
  | y :: acts, 2, u, h => by
    simp [ActV.cells] at h
    exact ⟨0, y, rfl, .inr (.inr (.inl ⟨rfl, h.symm⟩))⟩
  | y :: acts, 3, u, h => by
    simp [ActV.cells] at h
    exact ⟨0, y, rfl, .inr (.inr (.inr ⟨rfl, h.symm⟩))⟩
  | y :: acts, i + 4, u, h => by
    obtain ⟨k, x, hx, hc⟩ := acts_back acts i u (by simpa [ActV.cells] using h)
    exact ⟨k + 1, x, by simpa using hx, by
      rcases hc with ⟨h1, h2⟩ | ⟨h1, h2⟩ | ⟨h1, h2⟩ | ⟨h1, h2⟩
      · exact .inl ⟨by omega, h2⟩
      · exact .inr (.inl ⟨by omega, h2⟩)
      · exact .inr (.inr (.inl ⟨by omega, h2⟩))
      · exact .inr (.inr (.inr ⟨by omega, h2⟩))⟩
theorem acts_length (acts : List ActV) : (acts.flatMap ActV.cells).length = acts.length * 4 := by
  induction acts with
  | nil => rfl
  | cons x l ih => rw [List.flatMap_cons, List.length_append, ih, List.length_cons]; simp [ActV.cells]; omega

/-- a slice of acts that came in -/
theorem acts_open {H : Type} {enc : TypeId × Value → H} {W : World} {base : Nat} {v : Value} {d : DataW H} {p : List MemPlace}
    (h : DataW.Trod enc Try.prog W base (fun _ => true) true 22 v d p) (hv : ∃ a n cap, v = .slice a n cap) :
    ∃ a cap acts, v = .slice a (List.length acts) cap ∧ ActsAt W v acts ∧ acts.length ≤ maxLen := by
  obtain ⟨a, n, cap, rfl⟩ := hv
  obtain ⟨fuel, hf⟩ := h
  rcases open_slice_fields Try.underlying22 Try.underlying30 (by kernel_rfl) (by kernel_rfl) hf with hcs | ⟨a', len, cap', m, hcs, hl, hm, hmm, hi⟩
  · simp [Value.cells] at hcs
    obtain ⟨rfl, rfl, rfl⟩ := hcs
    exact ⟨none, 0, [], rfl, Reads.nil W 4, Nat.zero_le _⟩
  · simp [Value.cells] at hcs
    obtain ⟨rfl, rfl, rfl⟩ := hcs
    simp only [if_true] at hmm
    subst hmm
    have hact : ∀ i, i < n → ∃ x : ActV, W.cell? (a'.add (i * 4)) = some (.int .i64 x.kind) ∧ W.cell? (a'.add (i * 4 + 1)) = some (.int .i64 x.a) ∧ W.cell? (a'.add (i * 4 + 2)) = some (.int .i64 x.b) ∧ W.cell? (a'.add (i * 4 + 3)) = some (.int .i64 x.c) := by
      intro i hin
      obtain ⟨k, hk⟩ := hi i (by omega)
      obtain ⟨v0, y0, hc0, h0⟩ := hk 0 _ rfl
      obtain ⟨v1, y1, hc1, h1⟩ := hk 1 _ rfl
      obtain ⟨v2, y2, hc2, h2⟩ := hk 2 _ rfl
      obtain ⟨v3, y3, hc3, h3⟩ := hk 3 _ rfl
      obtain ⟨z0, hz0, _⟩ := DataW.trod_int Try.underlying3 h0
      obtain ⟨z1, hz1, _⟩ := DataW.trod_int Try.underlying3 h1
      obtain ⟨z2, hz2, _⟩ := DataW.trod_int Try.underlying3 h2
      obtain ⟨z3, hz3, _⟩ := DataW.trod_int Try.underlying3 h3
      simp at hz0 hz1 hz2 hz3
      subst hz0 hz1 hz2 hz3
      exact ⟨⟨z0, z1, z2, z3⟩, hc0, hc1, hc2, hc3⟩
    obtain ⟨acts, hlen, hq⟩ := all_of n hact
    refine ⟨some a', m, acts, by rw [hlen], ?_, by omega⟩
    unfold ActsAt
    rw [hlen]
    refine reads_of_cells rfl (by rw [acts_length, hlen]) hl (by omega) fun i u hu => ?_
    obtain ⟨k, x, hx, ⟨rfl, rfl⟩ | ⟨rfl, rfl⟩ | ⟨rfl, rfl⟩ | ⟨rfl, rfl⟩⟩ := acts_back acts i u hu
    · exact (hq k x hx).1
    · exact (hq k x hx).2.1
    · exact (hq k x hx).2.2.1
    · exact (hq k x hx).2.2.2
end Go.Proofs.Ythknghkiogiajaa

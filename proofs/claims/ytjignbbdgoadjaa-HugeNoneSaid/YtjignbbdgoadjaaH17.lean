/-
  What a plan is: in numbers and lists alone.
-/
import Derived.Test.YtjignbbdgoadjaaH11
namespace Go.Proofs.Ytjignbbdgoadjaa
open Go.RowKit

theorem planV_prefix (s : Nat → Int) (N : Nat) (want : Int) : ∃ m, allR s N = planV s N want ++ m := by
  unfold planV
  split
  · exact ⟨_, rfl⟩
  · exact takeW_prefix _ _ _
theorem planV_in {s : Nat → Int} {N : Nat} {want : Int} {r : Rn} (h : r ∈ planV s N want) : ∃ g, g < N ∧ r ∈ runsOf s g := by
  obtain ⟨m, hm⟩ := planV_prefix s N want
  have : r ∈ allR s N := by rw [hm]; exact List.mem_append_left _ h
  obtain ⟨g, hg, hr⟩ := allR_in this
  exact ⟨g, (ordL_mem.1 hg).1, hr⟩
theorem planV_ok {s : Nat → Int} {N : Nat} {want : Int} {r : Rn} (h : r ∈ planV s N want) : 1 ≤ r.n ∧ r.n ≤ 16 ∧ r.a + r.n ≤ 16 * N ∧ ∀ j, j < r.n → s (r.a + j) = 2 := by
  obtain ⟨g, hg, hr⟩ := planV_in h
  obtain ⟨h1, h2, h3, h4⟩ := runsOf_in hr
  exact ⟨h2, by omega, by omega, h4⟩
theorem planV_apart (s : Nat → Int) (N : Nat) (want : Int) : (planV s N want).Pairwise apartR := by
  obtain ⟨m, hm⟩ := planV_prefix s N want
  have := allR_apart s N
  rw [hm, List.pairwise_append] at this
  exact this.1

/-- a page is in a run; in one of some runs -/
def inR (r : Rn) (q : Nat) : Bool := decide (r.a ≤ q) && decide (q < r.a + r.n)
def covR (l : List Rn) (q : Nat) : Bool := l.any fun r => inR r q
theorem inR_iff {r : Rn} {q : Nat} : inR r q = true ↔ r.a ≤ q ∧ q < r.a + r.n := by simp [inR]
theorem covR_iff {l : List Rn} {q : Nat} : covR l q = true ↔ ∃ r, r ∈ l ∧ r.a ≤ q ∧ q < r.a + r.n := by simp [covR, inR]
theorem cnt_or {P Q : Nat → Bool} : ∀ {n : Nat}, (∀ j, j < n → ¬ (P j = true ∧ Q j = true)) → cnt n (fun j => P j || Q j) = cnt n P + cnt n Q
  | 0, _ => rfl
  | n + 1, h => by
    have ih := cnt_or (P := P) (Q := Q) (n := n) fun j hj => h j (by omega)
    have hn := h n (by omega)
    show cnt n (fun j => P j || Q j) + (if (P n || Q n) = true then 1 else 0) = (cnt n P + if P n = true then 1 else 0) + (cnt n Q + if Q n = true then 1 else 0)
    rw [ih]
    cases hp : P n <;> cases hq : Q n <;> simp [hp, hq] at hn ⊢ <;> omega
theorem cnt_inR {r : Rn} {M : Nat} (h : r.a + r.n ≤ M) : cnt M (inR r) = r.n := by
  obtain ⟨d, rfl⟩ : ∃ d, M = (r.a + r.n) + d := ⟨M - (r.a + r.n), by omega⟩
  rw [cnt_skip d (r.a + r.n) fun j _ => by rw [← Bool.not_eq_true, inR_iff]; omega, cnt_add]
  rw [cnt_zero_iff.2 fun j hj => by rw [← Bool.not_eq_true, inR_iff]; omega, Nat.zero_add]
  exact cnt_all_iff.2 fun j hj => inR_iff.2 ⟨by omega, by omega⟩
theorem cnt_covR {M : Nat} : ∀ {l : List Rn}, l.Pairwise apartR → (∀ r ∈ l, r.a + r.n ≤ M) → cnt M (covR l) = sumRn l
  | [], _, _ => cnt_zero_iff.2 fun _ _ => rfl
  | r :: l, hp, hl => by
    have e : covR (r :: l) = fun q => inR r q || covR l q := by
      funext q
      simp [covR]
    rw [e, cnt_or fun q _ hb => ?_, cnt_inR (hl r (by simp)), cnt_covR hp.of_cons fun x hx => hl x (by simp [hx])]
    · rfl
    · have h1 := inR_iff.1 hb.1
      obtain ⟨x, hx, h2⟩ := covR_iff.1 hb.2
      have := List.rel_of_pairwise_cons hp hx
      unfold apartR at this
      omega
theorem planV_sum (s : Nat → Int) (N : Nat) (want : Int) {M : Nat} (hM : 16 * N ≤ M) : cnt M (covR (planV s N want)) = sumRn (planV s N want) :=
  cnt_covR (planV_apart s N want) fun r hr => by have := (planV_ok hr).2.2.1; omega
theorem planV_sum_le (s : Nat → Int) (N : Nat) (want : Int) : sumRn (planV s N want) ≤ 16 * N := by
  rw [← planV_sum s N want (Nat.le_refl _)]
  exact cnt_le _ _
theorem len_le_sum {l : List Rn} (h : ∀ r ∈ l, 1 ≤ r.n) : l.length ≤ sumRn l := by
  induction l with
  | nil => exact Nat.le_refl 0
  | cons r l ih =>
    have h1 := h r (by simp)
    have h2 := ih fun x hx => h x (by simp [hx])
    show l.length + 1 ≤ r.n + sumRn l
    omega
theorem planV_len (s : Nat → Int) (N : Nat) (want : Int) : (planV s N want).length ≤ 16 * N :=
  Nat.le_trans (len_le_sum fun _ hr => (planV_ok hr).1) (planV_sum_le s N want)

/-- the runs are released -/
def relS (s : Nat → Int) (l : List Rn) (q : Nat) : Int := if covR l q = true then 3 else s q
theorem relS_succ {s : Nat → Int} {l : List Rn} {k : Nat} {x : Rn} (h : l[k]? = some x) : relS s (l.take (k + 1)) = fillS (relS s (l.take k)) x.a x.n 3 := by
  funext q
  rw [List.take_add_one, h]
  unfold relS fillS
  have e : covR (l.take k ++ [x]) q = (covR (l.take k) q || inR x q) := by simp [covR]
  show (if covR (l.take k ++ [x]) q = true then 3 else s q) = _
  rw [e]
  by_cases hx : x.a ≤ q ∧ q < x.a + x.n
  · rw [if_pos hx, inR_iff.2 hx, Bool.or_true, if_pos rfl]
  · rw [if_neg hx]
    have : inR x q = false := by rw [← Bool.not_eq_true, inR_iff]; exact hx
    rw [this, Bool.or_false]
theorem relS_back {s : Nat → Int} {l : List Rn} (hp : l.Pairwise apartR) (h2 : ∀ r ∈ l, ∀ j, j < r.n → s (r.a + j) = 2) {k : Nat} {x : Rn} (h : l[k]? = some x) : ∀ j, j < x.n → relS s (l.take k) (x.a + j) = 2 := by
  intro j hj
  have hk := (List.getElem?_eq_some_iff.1 h).1
  unfold relS
  have : covR (l.take k) (x.a + j) = false := by
    rw [← Bool.not_eq_true, covR_iff]
    rintro ⟨r, hr, h1, h3⟩
    obtain ⟨i, hi, hir⟩ := List.getElem_of_mem hr
    rw [List.length_take] at hi
    have hir' : l[i]'(by omega) = r := by rw [← hir, List.getElem_take]
    have hx' : l[k] = x := by rw [List.getElem?_eq_getElem hk] at h; exact Option.some.inj h
    have := List.pairwise_iff_getElem.1 hp i k (by omega) hk (by omega)
    rw [hir', hx'] at this
    unfold apartR at this
    omega
  rw [this]
  exact h2 x (List.mem_of_getElem? h) j hj
end Go.Proofs.Ytjignbbdgoadjaa

/-
  The runs of a plan: in numbers and lists alone.
-/
import Derived.Test.YtjignbbdgoadjaaH6
namespace Go.Proofs.Ytjignbbdgoadjaa
open Go.RowKit

/-- a run of pages -/
structure Rn where
  a : Nat
  n : Nat
deriving DecidableEq
/-- how many pages from p on are backed, of m -/
def rl (s : Nat → Int) : Nat → Nat → Nat
  | _, 0 => 0
  | p, m + 1 => if s p = 2 then rl s (p + 1) m + 1 else 0
theorem rl_le (s : Nat → Int) : ∀ (m p : Nat), rl s p m ≤ m
  | 0, _ => Nat.le_refl _
  | m + 1, p => by
    have := rl_le s m (p + 1)
    unfold rl
    split <;> omega
theorem rl_two (s : Nat → Int) : ∀ (m p : Nat), ∀ j, j < rl s p m → s (p + j) = 2
  | 0, _, j, h => by unfold rl at h; omega
  | m + 1, p, j, h => by
    unfold rl at h
    split at h
    · rename_i h2
      by_cases hj : j = 0
      · subst hj; exact h2
      · have := rl_two s m (p + 1) (j - 1) (by omega)
        rwa [show p + 1 + (j - 1) = p + j by omega] at this
    · omega
theorem rl_end (s : Nat → Int) : ∀ (m p : Nat), rl s p m < m → s (p + rl s p m) ≠ 2
  | 0, _, h => by omega
  | m + 1, p, h => by
    unfold rl at h ⊢
    split
    · rename_i h2
      rw [if_pos h2] at h
      have := rl_end s m (p + 1) (by omega)
      rwa [show p + (rl s (p + 1) m + 1) = p + 1 + rl s (p + 1) m by omega]
    · assumption
theorem rl_step {s : Nat → Int} {p m : Nat} (h : s p = 2) : rl s p (m + 1) = rl s (p + 1) m + 1 := if_pos h
theorem rl_stop {s : Nat → Int} {p m : Nat} (h : s p ≠ 2) : rl s p m = 0 := by
  cases m with
  | zero => rfl
  | succ m => exact if_neg h
/-- n pages are backed and what follows is not -/
theorem rl_is {s : Nat → Int} : ∀ {n p m : Nat}, n ≤ m → (∀ j, j < n → s (p + j) = 2) → (n = m ∨ s (p + n) ≠ 2) → rl s p m = n
  | 0, p, m, _, _, h => by
    rcases h with h | h
    · subst h; rfl
    · exact rl_stop h
  | n + 1, p, 0, hm, _, _ => by omega
  | n + 1, p, m + 1, hm, ha, h => by
    rw [rl_step (by have := ha 0 (by omega); exact this), rl_is (n := n) (p := p + 1) (m := m) (by omega) (fun j hj => by have := ha (j + 1) (by omega); rwa [show p + (j + 1) = p + 1 + j by omega] at this) (by
      rcases h with h | h
      · exact .inl (by omega)
      · exact .inr (by rwa [show p + 1 + n = p + (n + 1) by omega]))]

/-- the runs of backed pages among m pages from p on -/
def runsF (s : Nat → Int) : Nat → Nat → Nat → List Rn
  | 0, _, _ => []
  | k + 1, p, m => if m = 0 then [] else if rl s p m = 0 then runsF s k (p + 1) (m - 1) else ⟨p, rl s p m⟩ :: runsF s k (p + rl s p m + 1) (m - rl s p m - 1)
theorem runsF_fuel (s : Nat → Int) : ∀ (k k' p m : Nat), m ≤ k → m ≤ k' → runsF s k p m = runsF s k' p m
  | 0, 0, _, _, _, _ => rfl
  | 0, k' + 1, p, m, h, _ => by
    have e : m = 0 := by omega
    subst e
    rfl
  | k + 1, 0, p, m, _, h => by
    have e : m = 0 := by omega
    subst e
    rfl
  | k + 1, k' + 1, p, m, h, h' => by
    unfold runsF
    split
    · rfl
    · split
      · exact runsF_fuel s k k' _ _ (by omega) (by omega)
      · rw [runsF_fuel s k k' _ _ (by omega) (by omega)]
def runsM (s : Nat → Int) (p m : Nat) : List Rn := runsF s m p m
theorem runsM_zero (s : Nat → Int) (p : Nat) : runsM s p 0 = [] := rfl
theorem runsM_skip {s : Nat → Int} {p m : Nat} (h : rl s p (m + 1) = 0) : runsM s p (m + 1) = runsM s (p + 1) m := by
  unfold runsM
  rw [runsF, if_neg (by omega), if_pos h]
  rfl
theorem runsM_run {s : Nat → Int} {p m : Nat} (h : rl s p (m + 1) ≠ 0) : runsM s p (m + 1) = ⟨p, rl s p (m + 1)⟩ :: runsM s (p + rl s p (m + 1) + 1) (m - rl s p (m + 1)) := by
  unfold runsM
  rw [runsF, if_neg (by omega), if_neg h, runsF_fuel s m (m - rl s p (m + 1)) _ _ (by omega) (by omega)]
  rw [show m + 1 - rl s p (m + 1) - 1 = m - rl s p (m + 1) by omega]
/-- the runs of a huge page -/
def runsOf (s : Nat → Int) (h : Nat) : List Rn := runsM s (16 * h) 16

/-- the first runs, until as many pages are wanted -/
def takeW (want : Int) : Int → List Rn → List Rn
  | _, [] => []
  | have', r :: l => if want ≤ have' then [] else r :: takeW want (have' + r.n) l
theorem takeW_enough {want p : Int} (h : want ≤ p) (l : List Rn) : takeW want p l = [] := by
  cases l with
  | nil => rfl
  | cons r l => exact if_pos h
theorem takeW_more {want p : Int} (h : ¬ want ≤ p) (r : Rn) (l : List Rn) : takeW want p (r :: l) = r :: takeW want (p + r.n) l := if_neg h
def sumRn : List Rn → Nat
  | [] => 0
  | r :: l => r.n + sumRn l
theorem sumRn_append : ∀ (l m : List Rn), sumRn (l ++ m) = sumRn l + sumRn m
  | [], m => (Nat.zero_add _).symm
  | r :: l, m => by show r.n + sumRn (l ++ m) = r.n + sumRn l + sumRn m; rw [sumRn_append l m, Nat.add_assoc]
/-- all runs, in the plan's order -/
def allR (s : Nat → Int) (N : Nat) : List Rn := (ordL s N).flatMap (runsOf s)
/-- the plan -/
def planL (s : Nat → Int) (N : Nat) (want : Int) : List Rn := takeW want 0 (allR s N)

/-- a plan is a beginning of all runs -/
theorem takeW_prefix : ∀ (l : List Rn) (want p : Int), ∃ m, l = takeW want p l ++ m
  | [], _, _ => ⟨[], rfl⟩
  | r :: l, want, p => by
    by_cases h : want ≤ p
    · exact ⟨r :: l, by rw [takeW_enough h]; rfl⟩
    · obtain ⟨m, hm⟩ := takeW_prefix l want (p + r.n)
      exact ⟨m, by rw [takeW_more h, List.cons_append, ← hm]⟩
/-- as many as wanted, or all -/
theorem takeW_total : ∀ (l : List Rn) (want p : Int), want ≤ p + sumRn (takeW want p l) ∨ takeW want p l = l
  | [], _, _ => .inr rfl
  | r :: l, want, p => by
    by_cases h : want ≤ p
    · rw [takeW_enough h]
      exact .inl (by show want ≤ p + 0; omega)
    · rw [takeW_more h]
      rcases takeW_total l want (p + r.n) with h1 | h1
      · refine .inl ?_
        show want ≤ p + ((r.n + sumRn (takeW want (p + r.n) l) : Nat) : Int)
        omega
      · exact .inr (by rw [h1])
/-- what comes ahead of any run of a plan is fewer than wanted -/
theorem takeW_before : ∀ (l : List Rn) (want p : Int) (x : List Rn) (r : Rn) (y : List Rn), takeW want p l = x ++ r :: y → p + sumRn x < want
  | [], _, _, x, r, y, h => by cases x <;> cases h
  | q :: l, want, p, x, r, y, h => by
    by_cases hw : want ≤ p
    · rw [takeW_enough hw] at h
      cases x <;> cases h
    · rw [takeW_more hw] at h
      cases x with
      | nil => show p + ((0 : Nat) : Int) < want; omega
      | cons a x =>
        rw [List.cons_append] at h
        injection h with h1 h2
        subst h1
        have := takeW_before l want (p + q.n) x r y h2
        show p + ((q.n + sumRn x : Nat) : Int) < want
        omega

/-- what the runs among m pages are -/
theorem runsF_in (s : Nat → Int) : ∀ (k p m : Nat), ∀ r ∈ runsF s k p m, p ≤ r.a ∧ 1 ≤ r.n ∧ r.a + r.n ≤ p + m ∧ ∀ j, j < r.n → s (r.a + j) = 2
  | 0, _, _, r, h => by cases h
  | k + 1, p, m, r, h => by
    unfold runsF at h
    have h1 := rl_le s m p
    split at h
    · cases h
    · split at h
      · have := runsF_in s k _ _ r h
        exact ⟨by omega, this.2.1, by omega, this.2.2.2⟩
      · rcases List.mem_cons.1 h with h | h
        · subst h
          exact ⟨Nat.le_refl _, by dsimp only; omega, by dsimp only; omega, rl_two s m p⟩
        · have h2 := runsF_in s k _ _ r h
          refine ⟨by omega, h2.2.1, ?_, h2.2.2.2⟩
          have := h2.2.2.1
          have := h2.2.1
          omega
/-- two runs have no page in common -/
def apartR (x y : Rn) : Prop := x.a + x.n ≤ y.a ∨ y.a + y.n ≤ x.a
theorem runsF_apart (s : Nat → Int) : ∀ (k p m : Nat), (runsF s k p m).Pairwise apartR
  | 0, _, _ => List.Pairwise.nil
  | k + 1, p, m => by
    unfold runsF
    split
    · exact List.Pairwise.nil
    · split
      · exact runsF_apart s k _ _
      · refine List.Pairwise.cons (fun r hr => ?_) (runsF_apart s k _ _)
        have := (runsF_in s k _ _ r hr).1
        exact .inl (by dsimp only; omega)
theorem runsF_sum (s : Nat → Int) : ∀ (k p m : Nat), m ≤ k → sumRn (runsF s k p m) = cnt m fun j => s (p + j) == 2
  | 0, p, m, h => by
    have e : m = 0 := by omega
    subst e
    rfl
  | k + 1, p, m, h => by
    unfold runsF
    split
    · rename_i e
      subst e
      rfl
    · rename_i hm0
      obtain ⟨m, rfl⟩ : ∃ m', m = m' + 1 := ⟨m - 1, by omega⟩
      split
      · rename_i h0
        rw [runsF_sum s k _ _ (by omega), show m + 1 = 1 + m by omega, cnt_add]
        have h2 : s p ≠ 2 := fun h => by rw [rl_step h] at h0; omega
        have e1 : cnt 1 (fun j => s (p + j) == 2) = 0 := cnt_zero_iff.2 fun j hj => by
          have : j = 0 := by omega
          subst this
          simp [h2]
        rw [e1, Nat.zero_add, show 1 + m - 1 = m by omega]
        exact cnt_ext fun j _ => by rw [Nat.add_assoc]
      · show rl s p (m + 1) + sumRn _ = _
        have h1 := rl_le s (m + 1) p
        rw [runsF_sum s k _ _ (by omega)]
        have h2 := rl_two s (m + 1) p
        have h3 := rl_end s (m + 1) p
        generalize hn : rl s p (m + 1) = n at *
        have e1 : cnt n (fun j => s (p + j) == 2) = n := cnt_all_iff.2 fun j hj => by simp [h2 j hj]
        by_cases he : n = m + 1
        · subst he
          rw [e1, show m + 1 - (m + 1) - 1 = 0 by omega]
          rfl
        · have h4 := h3 (by omega)
          have e2 : cnt (n + 1) (fun j => s (p + j) == 2) = n := by
            rw [cnt_false (by simp [h4]), e1]
          rw [show m + 1 = (n + 1) + (m + 1 - n - 1) by omega, cnt_add, e2]
          rw [show n + 1 + (m + 1 - n - 1) - n - 1 = m + 1 - n - 1 by omega]
          congr 1
          exact cnt_ext fun j _ => by rw [show p + n + 1 + j = p + (n + 1 + j) by omega]
theorem runsOf_in {s : Nat → Int} {h : Nat} {r : Rn} (hr : r ∈ runsOf s h) : 16 * h ≤ r.a ∧ 1 ≤ r.n ∧ r.a + r.n ≤ 16 * h + 16 ∧ ∀ j, j < r.n → s (r.a + j) = 2 := runsF_in s 16 _ 16 r hr
theorem runsOf_sum (s : Nat → Int) (h : Nat) : sumRn (runsOf s h) = ofS s h 2 := runsF_sum s 16 _ 16 (Nat.le_refl _)
theorem allR_in {s : Nat → Int} {N : Nat} {r : Rn} (hr : r ∈ allR s N) : ∃ h, h ∈ ordL s N ∧ r ∈ runsOf s h := List.mem_flatMap.1 hr
theorem allR_apart (s : Nat → Int) (N : Nat) : (allR s N).Pairwise apartR := by
  unfold allR
  rw [List.pairwise_flatMap]
  refine ⟨fun h _ => runsF_apart s 16 _ 16, (List.nodup_iff_pairwise_ne.1 (ordL_nodup s N)).imp ?_⟩
  intro g h hne x hx y hy
  have h1 := runsOf_in hx
  have h2 := runsOf_in hy
  unfold apartR
  omega
theorem sumRn_flatMap (f : Nat → List Rn) : ∀ l : List Nat, sumRn (l.flatMap f) = (l.map fun h => sumRn (f h)).sum
  | [] => rfl
  | h :: l => by
    rw [List.flatMap_cons, sumRn_append, sumRn_flatMap f l]
    rfl
end Go.Proofs.Ytjignbbdgoadjaa

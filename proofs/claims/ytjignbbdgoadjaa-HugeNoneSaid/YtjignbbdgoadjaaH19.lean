/-
  States that come about; which pages a plan takes: in numbers and lists alone.
-/
import Derived.Test.YtjignbbdgoadjaaH14
import Derived.Test.YtjignbbdgoadjaaH17
namespace Go.Proofs.Ytjignbbdgoadjaa
open Go.RowKit

/-- what is true of the states: each is one, and a huge page is absent as a whole -/
def okSt (N : Nat) (s : Nat → Int) : Prop := ∀ p, p < 16 * N → 0 ≤ s p ∧ s p ≤ 3 ∧ (s p = 0 ↔ s (16 * (p / 16)) = 0)
theorem okSt_zero (N : Nat) : okSt N fun _ => 0 := fun _ _ => ⟨Int.le_refl 0, (by omega : (0 : Int) ≤ 3), Iff.rfl⟩
theorem okSt_page {N : Nat} {s : Nat → Int} (h : okSt N s) (g : Nat) (v : Int) (hv : 0 ≤ v ∧ v ≤ 3) : okSt N (fillS s (16 * g) 16 v) := by
  intro p hp
  have h0 := h p hp
  unfold fillS
  by_cases hg : 16 * g ≤ p ∧ p < 16 * g + 16
  · rw [if_pos hg, if_pos (by omega)]
    exact ⟨hv.1, hv.2, Iff.rfl⟩
  · rw [if_neg hg, if_neg (by omega)]
    exact h0
theorem okSt_turn {N : Nat} {s : Nat → Int} {P : Int → Bool} {v a n : Int} (h : okSt N s) (hP : ∀ x, P x = true → x ≠ 0) (hv : 1 ≤ v ∧ v ≤ 3) : okSt N (turnF (16 * N) s P v a n) := by
  by_cases hE : turnE (16 * N) s P a n = 0
  · obtain ⟨_, h2⟩ := turnE_zero.1 hE
    rw [turnF_pos hE]
    have hz : ∀ p, (fillS s a.toNat n.toNat v p = 0 ↔ s p = 0) := by
      intro p
      by_cases hp : a.toNat ≤ p ∧ p < a.toNat + n.toNat
      · rw [fillS_in hp]
        have h3 := hP _ (badN_zero.1 h2 (p - a.toNat) (by omega))
        rw [show a.toNat + (p - a.toNat) = p by omega] at h3
        constructor
        · intro h; omega
        · intro h; exact absurd h h3
      · rw [fillS_out hp]
    intro p hp
    obtain ⟨h1, h2, h3⟩ := h p hp
    refine ⟨?_, ?_, by rw [hz, hz]; exact h3⟩
    · unfold fillS; split <;> omega
    · unfold fillS; split <;> omega
  · rw [turnF_neg hE]
    exact h
theorem okSt_act {N : Nat} {s : Nat → Int} (h : okSt N s) (x : ActV) : okSt N (actF N s x) := by
  unfold actF
  split
  · unfold addF
    split
    · exact okSt_page h _ 3 (by omega)
    · exact h
  · split
    · unfold removeF
      split
      · exact okSt_page h _ 0 (by omega)
      · exact h
    · split
      · exact okSt_turn h (fun x hx => by unfold free at hx; rw [Bool.or_eq_true, beq_iff_eq, beq_iff_eq] at hx; omega) (by omega)
      · split
        · exact okSt_turn h (fun x hx => by rw [beq_iff_eq] at hx; omega) (by omega)
        · split
          · exact okSt_turn h (fun x hx => by rw [beq_iff_eq] at hx; omega) (by omega)
          · exact h
theorem okSt_acts {N : Nat} : ∀ (l : List ActV) {s : Nat → Int}, okSt N s → okSt N (actsF N s l)
  | [], _, h => h
  | x :: l, _, h => okSt_acts l (okSt_act h x)

theorem thoseN_mem (s : Nat → Int) (i : Int) : ∀ {k h : Nat}, ((h : Int) ∈ thoseN s i k) ↔ h < k ∧ isKind s i h = true
  | 0, h => by simp [thoseN]
  | k + 1, h => by
    unfold thoseN
    split
    · rename_i hp
      rw [List.mem_append, thoseN_mem s i, List.mem_singleton]
      constructor
      · rintro (⟨h1, h2⟩ | h1)
        · exact ⟨by omega, h2⟩
        · have : h = k := by omega
          subst this
          exact ⟨by omega, hp⟩
      · rintro ⟨h1, h2⟩
        by_cases e : h = k
        · exact .inr (by omega)
        · exact .inl ⟨by omega, h2⟩
    · rename_i hp
      rw [thoseN_mem s i]
      constructor
      · rintro ⟨h1, h2⟩
        exact ⟨by omega, h2⟩
      · rintro ⟨h1, h2⟩
        refine ⟨?_, h2⟩
        by_cases e : h = k
        · subst e; exact absurd h2 hp
        · omega

/-- each backed page is in a run -/
theorem runsF_cov (s : Nat → Int) : ∀ (k p m : Nat), m ≤ k → ∀ q, p ≤ q → q < p + m → s q = 2 → ∃ r, r ∈ runsF s k p m ∧ r.a ≤ q ∧ q < r.a + r.n
  | 0, p, m, h, q, h1, h2, _ => by omega
  | k + 1, p, m, h, q, h1, h2, h3 => by
    have hl := rl_le s m p
    have he := rl_end s m p
    unfold runsF
    rw [if_neg (by omega)]
    by_cases h0 : rl s p m = 0
    · rw [if_pos h0]
      have : q ≠ p := by
        intro e
        subst e
        have := he (by omega)
        rw [h0, Nat.add_zero] at this
        exact this h3
      exact runsF_cov s k (p + 1) (m - 1) (by omega) q (by omega) (by omega) h3
    · rw [if_neg h0]
      by_cases hq : q < p + rl s p m
      · exact ⟨⟨p, rl s p m⟩, by simp, h1, hq⟩
      · have : q ≠ p + rl s p m := by
          intro e
          have := he (by omega)
          rw [← e] at this
          exact this h3
        obtain ⟨r, hr, h4⟩ := runsF_cov s k (p + rl s p m + 1) (m - rl s p m - 1) (by omega) q (by omega) (by omega) h3
        exact ⟨r, by simp [hr], h4⟩
theorem runsOf_cov {s : Nat → Int} {q : Nat} (h : s q = 2) : ∃ r, r ∈ runsOf s (q / 16) ∧ r.a ≤ q ∧ q < r.a + r.n := runsF_cov s 16 _ 16 (Nat.le_refl _) q (by omega) (by omega) h
theorem cnt_mono {P Q : Nat → Bool} : ∀ {n : Nat}, (∀ j, j < n → P j = true → Q j = true) → cnt n P ≤ cnt n Q
  | 0, _ => Nat.le_refl _
  | n + 1, h => by
    have ih := cnt_mono (P := P) (Q := Q) (n := n) fun j hj => h j (by omega)
    have hn := h n (by omega)
    show cnt n P + (if P n = true then 1 else 0) ≤ cnt n Q + (if Q n = true then 1 else 0)
    cases hp : P n
    · simp; omega
    · rw [hn hp]; simp; omega
theorem ofS_pos {s : Nat → Int} {q : Nat} {st : Int} (h : s q = st) : 0 < ofS s (q / 16) st :=
  cnt_pos_iff.2 ⟨q % 16, by omega, by rw [show 16 * (q / 16) + q % 16 = q by omega]; simp [h]⟩

/-- the backed pages of huge pages that are not whole -/
def restP (s : Nat → Int) (N q : Nat) : Bool := decide (q < 16 * N) && s q == 2 && !decide (((q / 16 : Nat) : Int) ∈ thoseN s 2 N)
theorem few_pure {s : Nat → Int} {N : Nat} {want : Int} (hok : okSt N s) {M : Nat} (hM : 16 * N ≤ M) {k : Nat} {r : Rn} (hr : (planL s N want)[k]? = some r) (hw : ((r.a / 16 : Nat) : Int) ∈ thoseN s 2 N) : ((cnt M (restP s N) : Nat) : Int) < want := by
  obtain ⟨m, hm⟩ := takeW_prefix (allR s N) want 0
  have hk := (List.getElem?_eq_some_iff.1 hr).1
  have hsplit : planL s N want = (planL s N want).take k ++ r :: (planL s N want).drop (k + 1) := by
    have e := List.getElem?_eq_some_iff.1 hr
    obtain ⟨_, e⟩ := e
    have h1 := List.take_append_drop k (planL s N want)
    rw [List.drop_eq_getElem_cons hk, e] at h1
    exact h1.symm
  have hbefore := takeW_before (allR s N) want 0 _ _ _ hsplit
  have hin : r ∈ allR s N := by rw [hm]; exact List.mem_append_left _ (List.mem_of_getElem? hr)
  obtain ⟨h, hh, hrh⟩ := allR_in hin
  have hr4 := runsOf_in hrh
  have hrh2 : r.a / 16 = h := by omega
  rw [hrh2] at hw
  have hwh := (thoseN_mem s 2).1 hw
  obtain ⟨u, v, huv⟩ := List.append_of_mem hh
  have hall : allR s N = u.flatMap (runsOf s) ++ (runsOf s h ++ v.flatMap (runsOf s)) := by
    unfold allR
    rw [huv, List.flatMap_append, List.flatMap_cons]
  have hnd := ordL_nodup s N
  have hsort := ordL_sorted s N
  rw [huv] at hnd hsort
  have hrU : ¬ r ∈ u.flatMap (runsOf s) := by
    intro hu
    obtain ⟨g, hg, hrg⟩ := List.mem_flatMap.1 hu
    have := runsOf_in hrg
    have : g = h := by omega
    subst this
    rw [List.nodup_append] at hnd
    exact hnd.2.2 g hg g (by simp) rfl
  have hx : ∃ x', (planL s N want).take k = u.flatMap (runsOf s) ++ x' := by
    have e : (planL s N want).take k ++ (r :: (planL s N want).drop (k + 1) ++ m) = u.flatMap (runsOf s) ++ (runsOf s h ++ v.flatMap (runsOf s)) := by
      rw [← hall, hm, ← List.append_assoc]
      congr 1
      exact hsplit.symm
    rcases List.append_eq_append_iff.1 e with ⟨z, h1, h2⟩ | ⟨z, h1, h2⟩
    · cases z with
      | nil => exact ⟨[], by rw [h1, List.append_nil, List.append_nil]⟩
      | cons y z =>
        rw [List.cons_append] at h2
        injection h2 with h3 h4
        exact absurd (by rw [h1, ← h3]; simp) hrU
    · exact ⟨z, h1⟩
  obtain ⟨x', hx'⟩ := hx
  have hUP : (u.flatMap (runsOf s)).Pairwise apartR := by
    have := allR_apart s N
    rw [hall, List.pairwise_append] at this
    exact this.1
  have hUM : ∀ r ∈ u.flatMap (runsOf s), r.a + r.n ≤ M := by
    intro r hr
    obtain ⟨g, hg, hrg⟩ := List.mem_flatMap.1 hr
    have h1 := runsOf_in hrg
    have h2 := (ordL_mem (s := s) (N := N)).1 (by rw [huv]; exact List.mem_append_left _ hg)
    omega
  have hcov := cnt_covR hUP hUM
  have hle : cnt M (restP s N) ≤ cnt M (covR (u.flatMap (runsOf s))) := by
    refine cnt_mono fun q _ hq => ?_
    unfold restP at hq
    simp only [Bool.and_eq_true, decide_eq_true_eq, beq_iff_eq, Bool.not_eq_true', decide_eq_false_iff_not] at hq
    obtain ⟨⟨hq1, hq2⟩, hq3⟩ := hq
    obtain ⟨rr, hrr, hc1, hc2⟩ := runsOf_cov hq2
    refine covR_iff.2 ⟨rr, List.mem_flatMap.2 ⟨q / 16, ?_, hrr⟩, hc1, hc2⟩
    have hgO : q / 16 ∈ u ++ h :: v := by rw [← huv]; exact ordL_mem.2 ⟨by omega, ofS_pos hq2⟩
    have hkg : kindS s (q / 16) ≠ 2 := by
      intro hk2
      refine hq3 ((thoseN_mem s 2).2 ⟨by omega, ?_⟩)
      unfold isKind
      have := (hok q hq1).2.2
      have h0 : s (16 * (q / 16)) ≠ 0 := fun h => by have := this.2 h; omega
      simp [h0, hk2]
    have hkh : kindS s h = 2 := by
      have := hwh.2
      unfold isKind at this
      simp at this
      exact this.2
    rcases List.mem_append.1 hgO with h1 | h1
    · exact h1
    · rcases List.mem_cons.1 h1 with h1 | h1
      · rw [h1] at hkg; exact absurd hkh hkg
      · rw [List.pairwise_append] at hsort
        have h2 := List.rel_of_pairwise_cons hsort.2.1 h1
        have h3 := kindG_range fun j => s (16 * (q / 16) + j)
        have h3' : 0 ≤ kindS s (q / 16) ∧ kindS s (q / 16) ≤ 2 := h3
        rw [bef_iff] at h2
        omega
  rw [hx', sumRn_append] at hbefore
  omega
end Go.Proofs.Ytjignbbdgoadjaa

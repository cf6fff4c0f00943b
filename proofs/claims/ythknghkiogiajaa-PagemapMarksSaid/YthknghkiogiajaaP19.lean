/-
  Marks are in order and maximal, and cover just the pages with numbers.
-/
import Derived.Test.YthknghkiogiajaaP16
namespace Go.Proofs.Ythknghkiogiajaa
open Go.RowKit

theorem mks_ind {f : Nat → Int} (P : Nat → List Mk → Prop) (h0 : P 0 []) (hz : ∀ n l, f n = 0 → P n l → P (n + 1) l) (hnil : ∀ n, f n ≠ 0 → P n [] → P (n + 1) [⟨n, 1, f n⟩])
    (hgrow : ∀ (n : Nat) (l : List Mk) (y : Mk), f n ≠ 0 → y.s + y.n = (n : Int) ∧ y.no = f n → P n (l ++ [y]) → P (n + 1) (l ++ [⟨y.s, y.n + 1, y.no⟩]))
    (hnew : ∀ (n : Nat) (l : List Mk) (y : Mk), f n ≠ 0 → ¬ (y.s + y.n = (n : Int) ∧ y.no = f n) → y ∈ mks f n → P n (l ++ [y]) → P (n + 1) (l ++ [y] ++ [⟨n, 1, f n⟩])) : ∀ n, P n (mks f n)
  | 0 => h0
  | n + 1 => by
    have ih := mks_ind P h0 hz hnil hgrow hnew n
    show P (n + 1) (addMk (mks f n) n (f n))
    by_cases e0 : f n = 0
    · rw [e0, addMk_zero]
      exact hz n _ e0 ih
    · rcases List.eq_nil_or_concat (mks f n) with e | ⟨l, y, e⟩
      · rw [e, addMk_nil _ e0]
        rw [e] at ih
        exact hnil n e0 ih
      · have e : mks f n = l ++ [y] := by simpa using e
        have hy : y ∈ mks f n := by rw [e]; simp
        rw [e] at ih
        by_cases h1 : y.s + y.n = n ∧ y.no = f n
        · rw [e, addMk_grow _ _ e0 h1]
          exact hgrow n l y e0 h1 ih
        · rw [e, addMk_new _ _ e0 h1]
          exact hnew n l y e0 h1 hy ih

theorem mks_no {f : Nat → Int} (hf : fOk f) (n : Nat) (hn : n ≤ 1024) : ∀ x ∈ mks f n, 1 ≤ x.no ∧ x.no ≤ 1073741824 := by
  have hb : ∀ m, m < 1024 → f m ≠ 0 → 1 ≤ f m ∧ f m ≤ 1073741824 := fun m hm h0 => by have := hf m hm; omega
  have H := mks_ind (f := f) (fun n l => n ≤ 1024 → ∀ x ∈ l, 1 ≤ x.no ∧ x.no ≤ 1073741824) (fun _ x h => by cases h) (fun n l _ h hn => h (by omega))
    (fun n h0 _ hn x hx => by rw [List.mem_singleton] at hx; subst hx; exact hb n (by omega) h0)
    (fun n l y h0 h1 h hn x hx => by
      rcases List.mem_append.1 hx with hx | hx
      · exact h (by omega) x (by simp [hx])
      · rw [List.mem_singleton] at hx; subst hx; exact h (by omega) y (by simp))
    (fun n l y h0 _ _ h hn x hx => by
      rcases List.mem_append.1 hx with hx | hx
      · exact h (by omega) x hx
      · rw [List.mem_singleton] at hx; subst hx; exact hb n (by omega) h0) n
  exact H hn

/-- y behind x: no page of both, and not one run -/
def apartMk (x y : Mk) : Prop := x.s + x.n ≤ y.s ∧ ¬ (x.s + x.n = y.s ∧ x.no = y.no)
def ordMk (l : List Mk) : Prop := ∀ i x y, l[i]? = some x → l[i + 1]? = some y → apartMk x y
theorem ordMk_snoc {l : List Mk} {z : Mk} : ordMk (l ++ [z]) ↔ ordMk l ∧ ∀ x, l.getLast? = some x → apartMk x z := by
  constructor
  · intro h
    refine ⟨fun i x y hx hy => h i x y ?_ ?_, fun x hx => ?_⟩
    · rw [List.getElem?_append_left (List.getElem?_eq_some_iff.1 hx).1]; exact hx
    · rw [List.getElem?_append_left (List.getElem?_eq_some_iff.1 hy).1]; exact hy
    · rw [List.getLast?_eq_getElem?] at hx
      have hl := (List.getElem?_eq_some_iff.1 hx).1
      refine h (l.length - 1) x z ?_ ?_
      · rw [List.getElem?_append_left hl]; exact hx
      · rw [show l.length - 1 + 1 = l.length by omega, List.getElem?_append_right (Nat.le_refl _)]; simp
  · rintro ⟨h1, h2⟩ i x y hx hy
    have hy1 := (List.getElem?_eq_some_iff.1 hy).1
    rw [List.length_append, List.length_singleton] at hy1
    rw [List.getElem?_append_left (by omega)] at hx
    by_cases h : i + 1 < l.length
    · rw [List.getElem?_append_left h] at hy
      exact h1 i x y hx hy
    · have e : i + 1 = l.length := by omega
      rw [e, List.getElem?_append_right (Nat.le_refl _), Nat.sub_self] at hy
      have e2 : z = y := by simpa using hy
      subst e2
      refine h2 x ?_
      rw [List.getLast?_eq_getElem?, show l.length - 1 = i by omega]
      exact hx
theorem mks_ord (f : Nat → Int) (n : Nat) : ordMk (mks f n) := by
  refine mks_ind (f := f) (fun n l => ordMk l) (fun i x y h => by simp at h) (fun n l _ h => h) (fun n _ _ i x y _ hy => by simp at hy)
    (fun n l y _ _ h => ?_) (fun n l y h0 h1 hy h => ?_) n
  · rw [ordMk_snoc] at h ⊢
    exact ⟨h.1, fun x hx => h.2 x hx⟩
  · rw [ordMk_snoc]
    refine ⟨h, fun x hx => ?_⟩
    rw [List.getLast?_append, List.getLast?_singleton, Option.some_or] at hx
    obtain rfl := Option.some.inj hx
    have := (mks_ok f n y hy).2.2
    exact ⟨this, h1⟩

def sumMk : List Mk → Int
  | [] => 0
  | x :: l => x.n + sumMk l
theorem sumMk_append : ∀ (l m : List Mk), sumMk (l ++ m) = sumMk l + sumMk m
  | [], m => (Int.zero_add _).symm
  | x :: l, m => by show x.n + sumMk (l ++ m) = x.n + sumMk l + sumMk m; rw [sumMk_append l m]; omega
theorem sumMk_one (x : Mk) : sumMk [x] = x.n := by show x.n + 0 = _; omega
def nz (f : Nat → Int) (p : Nat) : Bool := f p != 0
theorem mks_sum (f : Nat → Int) (n : Nat) : sumMk (mks f n) = cnt n (nz f) := by
  have hp : ∀ n, f n ≠ 0 → nz f n = true := fun n h => by unfold nz; simp [h]
  refine mks_ind (f := f) (fun n l => sumMk l = cnt n (nz f)) rfl (fun n l h0 h => ?_) (fun n h0 h => ?_) (fun n l y h0 _ h => ?_) (fun n l y h0 _ _ h => ?_) n
  · rw [cnt_false (by unfold nz; simp [h0])]; exact h
  · rw [cnt_true (hp n h0), sumMk_one]
    have : (0 : Int) = cnt n (nz f) := h
    show (1 : Int) = _
    omega
  · rw [cnt_true (hp n h0)]
    rw [sumMk_append, sumMk_one] at h ⊢
    show sumMk l + (y.n + 1) = _
    omega
  · rw [cnt_true (hp n h0), sumMk_append, sumMk_one, h]
    rfl
theorem sumMk_succ {l : List Mk} {k : Nat} {x : Mk} (h : l[k]? = some x) : sumMk (l.take (k + 1)) = sumMk (l.take k) + x.n := by
  rw [List.take_add_one, h, sumMk_append]
  show _ + sumMk [x] = _
  rw [sumMk_one]
theorem sumMk_le {l : List Mk} (h : ∀ x ∈ l, 1 ≤ x.n) (k : Nat) : 0 ≤ sumMk (l.take k) ∧ sumMk (l.take k) ≤ sumMk l := by
  have pos : ∀ m : List Mk, (∀ x ∈ m, 1 ≤ x.n) → 0 ≤ sumMk m := by
    intro m
    induction m with
    | nil => intro _; exact Int.le_refl 0
    | cons x m ih =>
      intro hm
      have h1 := hm x (by simp)
      have h2 := ih fun y hy => hm y (by simp [hy])
      show 0 ≤ x.n + sumMk m
      omega
  have e := sumMk_append (l.take k) (l.drop k)
  rw [List.take_append_drop] at e
  have h1 := pos (l.take k) fun x hx => h x (List.mem_of_mem_take hx)
  have h2 := pos (l.drop k) fun x hx => h x (List.mem_of_mem_drop hx)
  omega
end Go.Proofs.Ythknghkiogiajaa

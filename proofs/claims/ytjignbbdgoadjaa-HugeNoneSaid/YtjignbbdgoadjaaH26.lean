/-
  The reference's order of huge pages.
-/
import Derived.Test.YtjignbbdgoadjaaH25
import Derived.Test.YtjignbbdgoadjaaH9
namespace Go.Proofs.Ytjignbbdgoadjaa
open Go.RowKit

theorem take_while_is {p : Nat → Bool} : ∀ {l : List Nat} {k : Nat}, k ≤ l.length → (∀ j x, j < k → l[j]? = some x → p x = true) → (∀ x, l[k]? = some x → p x = false) → l.takeWhile p = l.take k ∧ l.dropWhile p = l.drop k
  | [], k, hk, _, _ => by
    have : k = 0 := by simpa using hk
    subst this
    exact ⟨rfl, rfl⟩
  | x :: l, 0, _, _, h => by
    have hx := h x rfl
    rw [List.takeWhile_cons, List.dropWhile_cons, hx]
    exact ⟨rfl, rfl⟩
  | x :: l, k + 1, hk, ha, h => by
    have hx := ha 0 x (by omega) rfl
    have ih := take_while_is (p := p) (l := l) (k := k) (by simpa using hk) (fun j y hj hy => ha (j + 1) y (by omega) (by simpa using hy)) (fun y hy => h y (by simpa using hy))
    rw [List.takeWhile_cons, List.dropWhile_cons, hx]
    exact ⟨by rw [if_pos rfl, ih.1]; rfl, by rw [if_pos rfl, ih.2]; rfl⟩
theorem mem_tw {p : Nat → Bool} : ∀ {l : List Nat} {x : Nat}, x ∈ l.takeWhile p → p x = true
  | [], x, h => by cases h
  | y :: l, x, h => by
    rw [List.takeWhile_cons] at h
    cases hy : p y with
    | true =>
      rw [hy, if_pos rfl] at h
      rcases List.mem_cons.1 h with rfl | h
      · exact hy
      · exact mem_tw h
    | false =>
      rw [hy] at h
      cases h
/-- the order, page by page -/
def ordN (s : Nat → Int) : Nat → List Nat
  | 0 => []
  | k + 1 => if 0 < ofS s k 2 then (ordN s k).takeWhile (fun g => bef s g k) ++ k :: (ordN s k).dropWhile (fun g => bef s g k) else ordN s k
theorem ordN_perm (s : Nat → Int) : ∀ k, (ordN s k).Perm (backN s k)
  | 0 => List.Perm.refl _
  | k + 1 => by
    have ih := ordN_perm s k
    unfold ordN backN
    split
    · have e := List.takeWhile_append_dropWhile (p := fun g => bef s g k) (l := ordN s k)
      refine (List.perm_middle).trans ?_
      rw [e]
      exact (List.Perm.cons k ih).trans (List.perm_append_singleton k _).symm
    · exact ih
theorem ordN_mem {s : Nat → Int} {k h : Nat} : h ∈ ordN s k ↔ h < k ∧ 0 < ofS s h 2 := by rw [(ordN_perm s k).mem_iff, backN_mem]
theorem ordN_len (s : Nat → Int) (k : Nat) : (ordN s k).length ≤ k := by rw [(ordN_perm s k).length_eq]; exact backN_len s k
theorem ordN_sorted (s : Nat → Int) : ∀ k, (ordN s k).Pairwise fun x y => bef s x y = true
  | 0 => List.Pairwise.nil
  | k + 1 => by
    have ih := ordN_sorted s k
    have hm := fun x => @ordN_mem s k x
    unfold ordN
    split
    · have e := List.takeWhile_append_dropWhile (p := fun g => bef s g k) (l := ordN s k)
      have htk : ∀ x, x ∈ (ordN s k).takeWhile (fun g => bef s g k) → bef s x k = true := fun x hx => mem_tw (p := fun g => bef s g k) hx
      generalize (ordN s k).takeWhile (fun g => bef s g k) = t at *
      have hd : ∀ y l, (ordN s k).dropWhile (fun g => bef s g k) = y :: l → bef s y k = false := by
        intro y l hy
        have := List.head?_dropWhile_not (p := fun g => bef s g k) (l := ordN s k)
        rw [hy] at this
        simpa using this
      generalize (ordN s k).dropWhile (fun g => bef s g k) = d at *
      rw [← e, List.pairwise_append] at ih
      obtain ⟨i1, i2, i3⟩ := ih
      rw [List.pairwise_append]
      have hkd : ∀ y, y ∈ d → bef s k y = true := by
        cases d with
        | nil => intro y hy; cases hy
        | cons y0 d =>
          have h0 := hd y0 d rfl
          have hy0 : y0 ≠ k := by
            intro e0
            have := (hm y0).1 (by rw [← e]; simp)
            omega
          have hk0 : bef s k y0 = true := by
            cases hb : bef s k y0
            · exact absurd (bef_total h0 hb) hy0
            · rfl
          intro y hy
          rcases List.mem_cons.1 hy with rfl | hy
          · exact hk0
          · exact bef_trans hk0 (List.rel_of_pairwise_cons i2 hy)
      refine ⟨i1, List.Pairwise.cons hkd i2, fun a ha b hb => ?_⟩
      rcases List.mem_cons.1 hb with rfl | hb
      · exact htk a ha
      · exact i3 a ha b hb
    · exact ih
theorem ordN_all (s : Nat → Int) (N : Nat) : ordN s N = ordL s N := ordL_one (ordN_perm s N) (ordN_sorted s N)
theorem present_of {N : Nat} {s : Nat → Int} (hok : okSt N s) {h : Nat} (hh : h < N) (hb : 0 < ofS s h 2) : s (16 * h) ≠ 0 := by
  obtain ⟨j, hj, h2⟩ := cnt_pos_iff.1 hb
  rw [beq_iff_eq] at h2
  intro hz
  have := (hok (16 * h + j) (by omega)).2.2.2 (by rw [show 16 * ((16 * h + j) / 16) = 16 * h by omega]; exact hz)
  omega

theorem rBefore_any (w : World) (c b off cap N : Nat) (s : Nat → Int) (hN : N ≤ 64) (hok : okSt N s) (ht : TrAt w c b off cap (16 * N) s) (x y : Nat) (hx : x < N) (hy : y < N) (hzx : s (16 * x) ≠ 0) (hzy : s (16 * y) ≠ 0) :
    Calls Try.prog 89 #[.pointer (some ⟨c, 0, none⟩), .int .i64 x, .int .i64 y] w fun e w' => e = .returned (.bool (bef s x y)) ∧ w = w' := by
  have KX := rkind_any w c b off cap N s hN ht x hx
  have KY := rkind_any w c b off cap N s hN ht y hy
  rw [rkind_pos hok hx hzx] at KX
  rw [rkind_pos hok hy hzy] at KY
  have KX := Lib.hid KX
  have KY := Lib.hid KY
  have CX := Lib.hid (rof_any w c b off cap N s hN ht x hx 1)
  have CY := Lib.hid (rof_any w c b off cap N s hN ht y hy 1)
  have HB := @bef_iff s x y
  clear ht hzx hzy hok
  generalize bef s x y = B at *
  generalize kindS s x = kx at *
  generalize kindS s y = ky at *
  generalize ofS s x 1 = ux at *
  generalize ofS s y 1 = uy at *
  by_cases hk : kx = ky
  · have d1 : (kx + 1 != ky + 1) = false := by rw [bne_eq_false_iff_eq]; omega
    by_cases hu : ux = uy
    · have d2 : ((ux : Int) != (uy : Int)) = false := by rw [bne_eq_false_iff_eq]; omega
      have hB : Hid (decide (y < x) = B) := Lib.hid (by rw [Bool.eq_iff_iff, decide_eq_true_eq, HB]; omega)
      have hB2 : Hid (decide ((y : Int) < (x : Int)) = B) := Lib.hid (by rw [Bool.eq_iff_iff, decide_eq_true_eq, HB]; omega)
      clear HB hk hu
      go_enter Try.func89, Try.ntmps89
      go_wp2_with fail
      refine KX.out.mono ?_
      rintro e w' ⟨rfl, rfl⟩
      go_wp2_with fail
      refine KY.out.mono ?_
      rintro e w' ⟨rfl, rfl⟩
      go_wp2_with fail
      refine CX.out.mono ?_
      rintro e w' ⟨rfl, rfl⟩
      go_wp2_with fail
      refine CY.out.mono ?_
      rintro e w' ⟨rfl, rfl⟩
      go_wp2_with fail
      go_ret
      exact ⟨by first | (rw [← hB.out]; rfl) | (rw [← hB2.out]; rfl), rfl⟩
    · have d2 : ((ux : Int) != (uy : Int)) = true := by rw [bne_iff_ne]; omega
      have hB : Hid (decide (ux < uy) = B) := Lib.hid (by rw [Bool.eq_iff_iff, decide_eq_true_eq, HB]; omega)
      have hB2 : Hid (decide ((ux : Int) < (uy : Int)) = B) := Lib.hid (by rw [Bool.eq_iff_iff, decide_eq_true_eq, HB]; omega)
      clear HB hk hu
      go_enter Try.func89, Try.ntmps89
      go_wp2_with fail
      refine KX.out.mono ?_
      rintro e w' ⟨rfl, rfl⟩
      go_wp2_with fail
      refine KY.out.mono ?_
      rintro e w' ⟨rfl, rfl⟩
      go_wp2_with fail
      refine CX.out.mono ?_
      rintro e w' ⟨rfl, rfl⟩
      go_wp2_with fail
      refine CY.out.mono ?_
      rintro e w' ⟨rfl, rfl⟩
      go_wp2_with fail
      refine CX.out.mono ?_
      rintro e w' ⟨rfl, rfl⟩
      go_wp2_with fail
      refine CY.out.mono ?_
      rintro e w' ⟨rfl, rfl⟩
      go_wp2_with fail
      go_ret
      exact ⟨by first | (rw [← hB.out]; rfl) | (rw [← hB2.out]; rfl), rfl⟩
  · have d1 : (kx + 1 != ky + 1) = true := by rw [bne_iff_ne]; omega
    have hB : Hid (decide (kx < ky) = B) := Lib.hid (by rw [Bool.eq_iff_iff, decide_eq_true_eq, HB]; omega)
    have hB2 : Hid (decide (kx + 1 < ky + 1) = B) := Lib.hid (by rw [Bool.eq_iff_iff, decide_eq_true_eq, HB]; omega)
    clear HB hk
    go_enter Try.func89, Try.ntmps89
    go_wp2_with fail
    refine KX.out.mono ?_
    rintro e w' ⟨rfl, rfl⟩
    go_wp2_with fail
    refine KY.out.mono ?_
    rintro e w' ⟨rfl, rfl⟩
    go_wp2_with fail
    refine KX.out.mono ?_
    rintro e w' ⟨rfl, rfl⟩
    go_wp2_with fail
    refine KY.out.mono ?_
    rintro e w' ⟨rfl, rfl⟩
    go_wp2_with fail
    go_ret
    exact ⟨by first | (rw [← hB.out]; rfl) | (rw [← hB2.out]; rfl), rfl⟩
end Go.Proofs.Ytjignbbdgoadjaa

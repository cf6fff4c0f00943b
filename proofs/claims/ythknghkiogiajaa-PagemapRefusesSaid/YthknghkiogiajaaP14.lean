/-
  The statement PagemapRefuses: its walk. (Printed by mkP14.py.)
-/
import Derived.Test.YthknghkiogiajaaP12
namespace Go.Proofs.Ythknghkiogiajaa
open Go.RowKit

theorem sameF_refl (f : Nat → Int) : sameF f f = true := sameF_iff.2 fun _ _ => rfl
set_option maxRecDepth 10000 in
set_option maxHeartbeats 2000000 in
theorem refuses_ok (a0 : Option Addr) (cap : Nat) (acts : List ActV) (k a b n : Int) (w : World) (h : ActsAt w (.slice a0 acts.length cap) acts) (hn : acts.length ≤ 60) (he : actE ⟨k, a, b, n⟩ = 0)  :
    Calls Try.prog 7 #[.slice a0 acts.length cap, .agg #[.int .i64 k, .int .i64 a, .int .i64 b, .int .i64 n]] w fun e w' => e = .returned (.bool true) ∧ Below w.heap.size w w' := by
  have H := Lib.hid h
  have HG := Lib.hid (decide_eq_false (show ¬ 60 < acts.length by omega))
  have HE := Lib.hid he
  clear h he
  have hs0 := (St.start w).allocRow #[.int .i64 k, .int .i64 a, .int .i64 b, .int .i64 n] 30
  go_enter Try.func7, Try.ntmps7
  go_wp2_with fail
  refine (great_any _ a0 _ cap (by omega)).mono ?_
  rintro e w' ⟨rfl, rfl⟩
  rw [HG.out]
  go_wp2_with fail
  refine (made_any w _ _ hs0 a0 cap acts H.out hn).mono ?_
  rintro e w1 ⟨c, rfl, h1⟩
  go_wp2_with fail
  refine (made_any w w1 _ h1 a0 cap acts H.out hn).mono ?_
  rintro e w2 ⟨c2, rfl, h2⟩
  obtain ⟨q0, q1, q2, q3⟩ := (h2.front 2).cells4
  go_wp2_with fail
  refine (do_any w w2 _ c _ (h2.front 1) ⟨k, a, b, n⟩).mono ?_
  rintro e w3 ⟨rfl, h3⟩
  rw [HE.out]
  go_wp2_with fail
  refine (alive_any w w3 _ h3).mono ?_
  rintro e w' ⟨rfl, hs⟩
  go_wp2_with fail
  go_ret
  exact ⟨rfl, hs.below⟩

set_option maxRecDepth 10000 in
set_option maxHeartbeats 2000000 in
theorem refuses_1 (a0 : Option Addr) (cap : Nat) (acts : List ActV) (k a b n : Int) (w : World) (h : ActsAt w (.slice a0 acts.length cap) acts) (hn : acts.length ≤ 60) (he : actE ⟨k, a, b, n⟩ = 1) (hf : ∀ f, actF f ⟨k, a, b, n⟩ = f) (x1 : a < 0) :
    Calls Try.prog 7 #[.slice a0 acts.length cap, .agg #[.int .i64 k, .int .i64 a, .int .i64 b, .int .i64 n]] w fun e w' => e = .returned (.bool true) ∧ Below w.heap.size w w' := by
  have H := Lib.hid h
  have HG := Lib.hid (decide_eq_false (show ¬ 60 < acts.length by omega))
  have HE := Lib.hid he
  clear h he
  have b0 : decide (a < 0) = true := by simp; omega
  have HF := Lib.hid hf
  clear hf
  have hs0 := (St.start w).allocRow #[.int .i64 k, .int .i64 a, .int .i64 b, .int .i64 n] 30
  go_enter Try.func7, Try.ntmps7
  go_wp2_with fail
  refine (great_any _ a0 _ cap (by omega)).mono ?_
  rintro e w' ⟨rfl, rfl⟩
  rw [HG.out]
  go_wp2_with fail
  refine (made_any w _ _ hs0 a0 cap acts H.out hn).mono ?_
  rintro e w1 ⟨c, rfl, h1⟩
  go_wp2_with fail
  refine (made_any w w1 _ h1 a0 cap acts H.out hn).mono ?_
  rintro e w2 ⟨c2, rfl, h2⟩
  obtain ⟨q0, q1, q2, q3⟩ := (h2.front 2).cells4
  go_wp2_with fail
  refine (do_any w w2 _ c _ (h2.front 1) ⟨k, a, b, n⟩).mono ?_
  rintro e w3 ⟨rfl, h3⟩
  rw [HE.out]
  rw [HF.out] at h3
  obtain ⟨r0, r1, r2, r3⟩ := (h3.front 2).cells4
  go_wp2_with fail
  refine (Same_any w3 _ _ _ _ (MapAt.of h3) (MapAt.of (h3.front 1))).mono ?_
  rintro e w' ⟨rfl, rfl⟩
  rw [sameF_refl]
  go_wp2_with fail
  refine (alive_any w w3 _ h3).mono ?_
  rintro e w' ⟨rfl, hs⟩
  go_wp2_with fail
  go_ret
  exact ⟨rfl, hs.below⟩

set_option maxRecDepth 10000 in
set_option maxHeartbeats 2000000 in
theorem refuses_2 (a0 : Option Addr) (cap : Nat) (acts : List ActV) (k a b n : Int) (w : World) (h : ActsAt w (.slice a0 acts.length cap) acts) (hn : acts.length ≤ 60) (he : actE ⟨k, a, b, n⟩ = 1) (hf : ∀ f, actF f ⟨k, a, b, n⟩ = f) (x1 : 0 ≤ a) (x2 : b < 1) :
    Calls Try.prog 7 #[.slice a0 acts.length cap, .agg #[.int .i64 k, .int .i64 a, .int .i64 b, .int .i64 n]] w fun e w' => e = .returned (.bool true) ∧ Below w.heap.size w w' := by
  have H := Lib.hid h
  have HG := Lib.hid (decide_eq_false (show ¬ 60 < acts.length by omega))
  have HE := Lib.hid he
  clear h he
  have b0 : decide (a < 0) = false := by simp; omega
  have b1 : decide (b < 1) = true := by simp; omega
  have HF := Lib.hid hf
  clear hf
  have hs0 := (St.start w).allocRow #[.int .i64 k, .int .i64 a, .int .i64 b, .int .i64 n] 30
  go_enter Try.func7, Try.ntmps7
  go_wp2_with fail
  refine (great_any _ a0 _ cap (by omega)).mono ?_
  rintro e w' ⟨rfl, rfl⟩
  rw [HG.out]
  go_wp2_with fail
  refine (made_any w _ _ hs0 a0 cap acts H.out hn).mono ?_
  rintro e w1 ⟨c, rfl, h1⟩
  go_wp2_with fail
  refine (made_any w w1 _ h1 a0 cap acts H.out hn).mono ?_
  rintro e w2 ⟨c2, rfl, h2⟩
  obtain ⟨q0, q1, q2, q3⟩ := (h2.front 2).cells4
  go_wp2_with fail
  refine (do_any w w2 _ c _ (h2.front 1) ⟨k, a, b, n⟩).mono ?_
  rintro e w3 ⟨rfl, h3⟩
  rw [HE.out]
  rw [HF.out] at h3
  obtain ⟨r0, r1, r2, r3⟩ := (h3.front 2).cells4
  go_wp2_with fail
  refine (Same_any w3 _ _ _ _ (MapAt.of h3) (MapAt.of (h3.front 1))).mono ?_
  rintro e w' ⟨rfl, rfl⟩
  rw [sameF_refl]
  go_wp2_with fail
  refine (alive_any w w3 _ h3).mono ?_
  rintro e w' ⟨rfl, hs⟩
  go_wp2_with fail
  go_ret
  exact ⟨rfl, hs.below⟩

set_option maxRecDepth 10000 in
set_option maxHeartbeats 2000000 in
theorem refuses_3 (a0 : Option Addr) (cap : Nat) (acts : List ActV) (k a b n : Int) (w : World) (h : ActsAt w (.slice a0 acts.length cap) acts) (hn : acts.length ≤ 60) (he : actE ⟨k, a, b, n⟩ = 1) (hf : ∀ f, actF f ⟨k, a, b, n⟩ = f) (x1 : 1024 ≤ a) (x2 : 1 ≤ b) :
    Calls Try.prog 7 #[.slice a0 acts.length cap, .agg #[.int .i64 k, .int .i64 a, .int .i64 b, .int .i64 n]] w fun e w' => e = .returned (.bool true) ∧ Below w.heap.size w w' := by
  have H := Lib.hid h
  have HG := Lib.hid (decide_eq_false (show ¬ 60 < acts.length by omega))
  have HE := Lib.hid he
  clear h he
  have b0 : decide (a < 0) = false := by simp; omega
  have b1 : decide (b < 1) = false := by simp; omega
  have b2 : decide (1024 ≤ a) = true := by simp; omega
  have HF := Lib.hid hf
  clear hf
  have hs0 := (St.start w).allocRow #[.int .i64 k, .int .i64 a, .int .i64 b, .int .i64 n] 30
  go_enter Try.func7, Try.ntmps7
  go_wp2_with fail
  refine (great_any _ a0 _ cap (by omega)).mono ?_
  rintro e w' ⟨rfl, rfl⟩
  rw [HG.out]
  go_wp2_with fail
  refine (made_any w _ _ hs0 a0 cap acts H.out hn).mono ?_
  rintro e w1 ⟨c, rfl, h1⟩
  go_wp2_with fail
  refine (made_any w w1 _ h1 a0 cap acts H.out hn).mono ?_
  rintro e w2 ⟨c2, rfl, h2⟩
  obtain ⟨q0, q1, q2, q3⟩ := (h2.front 2).cells4
  go_wp2_with fail
  refine (do_any w w2 _ c _ (h2.front 1) ⟨k, a, b, n⟩).mono ?_
  rintro e w3 ⟨rfl, h3⟩
  rw [HE.out]
  rw [HF.out] at h3
  obtain ⟨r0, r1, r2, r3⟩ := (h3.front 2).cells4
  go_wp2_with fail
  refine (Same_any w3 _ _ _ _ (MapAt.of h3) (MapAt.of (h3.front 1))).mono ?_
  rintro e w' ⟨rfl, rfl⟩
  rw [sameF_refl]
  go_wp2_with fail
  refine (alive_any w w3 _ h3).mono ?_
  rintro e w' ⟨rfl, hs⟩
  go_wp2_with fail
  go_ret
  exact ⟨rfl, hs.below⟩

set_option maxRecDepth 10000 in
set_option maxHeartbeats 2000000 in
theorem refuses_4 (a0 : Option Addr) (cap : Nat) (acts : List ActV) (k a b n : Int) (w : World) (h : ActsAt w (.slice a0 acts.length cap) acts) (hn : acts.length ≤ 60) (he : actE ⟨k, a, b, n⟩ = 1) (hf : ∀ f, actF f ⟨k, a, b, n⟩ = f) (x1 : 0 ≤ a) (x2 : 1 ≤ b) (x3 : a < 1024) (x4 : 1024 - a < b) :
    Calls Try.prog 7 #[.slice a0 acts.length cap, .agg #[.int .i64 k, .int .i64 a, .int .i64 b, .int .i64 n]] w fun e w' => e = .returned (.bool true) ∧ Below w.heap.size w w' := by
  have H := Lib.hid h
  have HG := Lib.hid (decide_eq_false (show ¬ 60 < acts.length by omega))
  have HE := Lib.hid he
  clear h he
  have b0 : decide (a < 0) = false := by simp; omega
  have b1 : decide (b < 1) = false := by simp; omega
  have b2 : decide (1024 ≤ a) = false := by simp; omega
  have b3 : decide (1024 - a < b) = true := by simp; omega
  have HF := Lib.hid hf
  clear hf
  have hs0 := (St.start w).allocRow #[.int .i64 k, .int .i64 a, .int .i64 b, .int .i64 n] 30
  go_enter Try.func7, Try.ntmps7
  go_wp2_with fail
  refine (great_any _ a0 _ cap (by omega)).mono ?_
  rintro e w' ⟨rfl, rfl⟩
  rw [HG.out]
  go_wp2_with fail
  refine (made_any w _ _ hs0 a0 cap acts H.out hn).mono ?_
  rintro e w1 ⟨c, rfl, h1⟩
  go_wp2_with fail
  refine (made_any w w1 _ h1 a0 cap acts H.out hn).mono ?_
  rintro e w2 ⟨c2, rfl, h2⟩
  obtain ⟨q0, q1, q2, q3⟩ := (h2.front 2).cells4
  go_wp2_with fail
  refine (do_any w w2 _ c _ (h2.front 1) ⟨k, a, b, n⟩).mono ?_
  rintro e w3 ⟨rfl, h3⟩
  rw [HE.out]
  rw [HF.out] at h3
  obtain ⟨r0, r1, r2, r3⟩ := (h3.front 2).cells4
  go_wp2_with fail
  refine (Same_any w3 _ _ _ _ (MapAt.of h3) (MapAt.of (h3.front 1))).mono ?_
  rintro e w' ⟨rfl, rfl⟩
  rw [sameF_refl]
  go_wp2_with fail
  refine (alive_any w w3 _ h3).mono ?_
  rintro e w' ⟨rfl, hs⟩
  go_wp2_with fail
  go_ret
  exact ⟨rfl, hs.below⟩

set_option maxRecDepth 10000 in
set_option maxHeartbeats 2000000 in
theorem refuses_5 (a0 : Option Addr) (cap : Nat) (acts : List ActV) (k a b n : Int) (w : World) (h : ActsAt w (.slice a0 acts.length cap) acts) (hn : acts.length ≤ 60) (he : actE ⟨k, a, b, n⟩ = 1) (hf : ∀ f, actF f ⟨k, a, b, n⟩ = f) (x1 : 0 ≤ a) (x2 : 1 ≤ b) (x3 : a < 1024) (x4 : b ≤ 1024 - a) (x5 : k = 0) (x6 : n < 1) :
    Calls Try.prog 7 #[.slice a0 acts.length cap, .agg #[.int .i64 k, .int .i64 a, .int .i64 b, .int .i64 n]] w fun e w' => e = .returned (.bool true) ∧ Below w.heap.size w w' := by
  have H := Lib.hid h
  have HG := Lib.hid (decide_eq_false (show ¬ 60 < acts.length by omega))
  have HE := Lib.hid he
  clear h he
  have b0 : decide (a < 0) = false := by simp; omega
  have b1 : decide (b < 1) = false := by simp; omega
  have b2 : decide (1024 ≤ a) = false := by simp; omega
  have b3 : decide (1024 - a < b) = false := by simp; omega
  have b5 : (k == 0) = true := by simp [x5]
  have b6 : decide (n < 1) = true := by simp; omega
  have X5 := Lib.hid x5
  clear x5
  have HF := Lib.hid hf
  clear hf
  have hs0 := (St.start w).allocRow #[.int .i64 k, .int .i64 a, .int .i64 b, .int .i64 n] 30
  go_enter Try.func7, Try.ntmps7
  go_wp2_with fail
  refine (great_any _ a0 _ cap (by omega)).mono ?_
  rintro e w' ⟨rfl, rfl⟩
  rw [HG.out]
  go_wp2_with fail
  refine (made_any w _ _ hs0 a0 cap acts H.out hn).mono ?_
  rintro e w1 ⟨c, rfl, h1⟩
  go_wp2_with fail
  refine (made_any w w1 _ h1 a0 cap acts H.out hn).mono ?_
  rintro e w2 ⟨c2, rfl, h2⟩
  obtain ⟨q0, q1, q2, q3⟩ := (h2.front 2).cells4
  go_wp2_with fail
  refine (do_any w w2 _ c _ (h2.front 1) ⟨k, a, b, n⟩).mono ?_
  rintro e w3 ⟨rfl, h3⟩
  rw [HE.out]
  rw [HF.out] at h3
  obtain ⟨r0, r1, r2, r3⟩ := (h3.front 2).cells4
  go_wp2_with fail
  refine (Same_any w3 _ _ _ _ (MapAt.of h3) (MapAt.of (h3.front 1))).mono ?_
  rintro e w' ⟨rfl, rfl⟩
  rw [sameF_refl]
  go_wp2_with fail
  refine (alive_any w w3 _ h3).mono ?_
  rintro e w' ⟨rfl, hs⟩
  go_wp2_with fail
  go_ret
  exact ⟨rfl, hs.below⟩

set_option maxRecDepth 10000 in
set_option maxHeartbeats 2000000 in
theorem refuses_6 (a0 : Option Addr) (cap : Nat) (acts : List ActV) (k a b n : Int) (w : World) (h : ActsAt w (.slice a0 acts.length cap) acts) (hn : acts.length ≤ 60) (he : actE ⟨k, a, b, n⟩ = 1) (hf : ∀ f, actF f ⟨k, a, b, n⟩ = f) (x1 : 0 ≤ a) (x2 : 1 ≤ b) (x3 : a < 1024) (x4 : b ≤ 1024 - a) (x5 : k = 0) (x6 : 1073741824 < n) :
    Calls Try.prog 7 #[.slice a0 acts.length cap, .agg #[.int .i64 k, .int .i64 a, .int .i64 b, .int .i64 n]] w fun e w' => e = .returned (.bool true) ∧ Below w.heap.size w w' := by
  have H := Lib.hid h
  have HG := Lib.hid (decide_eq_false (show ¬ 60 < acts.length by omega))
  have HE := Lib.hid he
  clear h he
  have b0 : decide (a < 0) = false := by simp; omega
  have b1 : decide (b < 1) = false := by simp; omega
  have b2 : decide (1024 ≤ a) = false := by simp; omega
  have b3 : decide (1024 - a < b) = false := by simp; omega
  have b5 : (k == 0) = true := by simp [x5]
  have b6 : decide (n < 1) = false := by simp; omega
  have b7 : decide (1073741824 < n) = true := by simp; omega
  have X5 := Lib.hid x5
  clear x5
  have HF := Lib.hid hf
  clear hf
  have hs0 := (St.start w).allocRow #[.int .i64 k, .int .i64 a, .int .i64 b, .int .i64 n] 30
  go_enter Try.func7, Try.ntmps7
  go_wp2_with fail
  refine (great_any _ a0 _ cap (by omega)).mono ?_
  rintro e w' ⟨rfl, rfl⟩
  rw [HG.out]
  go_wp2_with fail
  refine (made_any w _ _ hs0 a0 cap acts H.out hn).mono ?_
  rintro e w1 ⟨c, rfl, h1⟩
  go_wp2_with fail
  refine (made_any w w1 _ h1 a0 cap acts H.out hn).mono ?_
  rintro e w2 ⟨c2, rfl, h2⟩
  obtain ⟨q0, q1, q2, q3⟩ := (h2.front 2).cells4
  go_wp2_with fail
  refine (do_any w w2 _ c _ (h2.front 1) ⟨k, a, b, n⟩).mono ?_
  rintro e w3 ⟨rfl, h3⟩
  rw [HE.out]
  rw [HF.out] at h3
  obtain ⟨r0, r1, r2, r3⟩ := (h3.front 2).cells4
  go_wp2_with fail
  refine (Same_any w3 _ _ _ _ (MapAt.of h3) (MapAt.of (h3.front 1))).mono ?_
  rintro e w' ⟨rfl, rfl⟩
  rw [sameF_refl]
  go_wp2_with fail
  refine (alive_any w w3 _ h3).mono ?_
  rintro e w' ⟨rfl, hs⟩
  go_wp2_with fail
  go_ret
  exact ⟨rfl, hs.below⟩

theorem refuses_walk (a0 : Option Addr) (cap : Nat) (acts : List ActV) (x : ActV) (w : World) (h : ActsAt w (.slice a0 acts.length cap) acts) (hn : acts.length ≤ 9223372036854775807) (_hx : True) :
    Calls Try.prog 7 #[.slice a0 acts.length cap, .agg #[.int .i64 x.kind, .int .i64 x.a, .int .i64 x.b, .int .i64 x.c]] w fun e w' => e = .returned (.bool true) ∧ Below w.heap.size w w' := by
  obtain ⟨k, a, b, n⟩ := x
  by_cases hg : 60 < acts.length
  · have HG := Lib.hid (decide_eq_true hg)
    have hs0 := (St.start w).allocRow #[.int .i64 k, .int .i64 a, .int .i64 b, .int .i64 n] 30
    clear hg h
    go_enter Try.func7, Try.ntmps7
    go_wp2_with fail
    refine (great_any _ a0 _ cap hn).mono ?_
    rintro e w' ⟨rfl, rfl⟩
    rw [HG.out]
    go_wp2_with fail
    refine (alive_any w _ _ hs0).mono ?_
    rintro e w' ⟨rfl, hs⟩
    go_wp2_with fail
    go_ret
    exact ⟨rfl, hs.below⟩
  have hn60 : acts.length ≤ 60 := by omega
  by_cases h0 : actE ⟨k, a, b, n⟩ = 0
  · exact refuses_ok a0 cap acts k a b n w h hn60 h0
  have bad : actE ⟨k, a, b, n⟩ = 1 ∧ (∀ f, actF f ⟨k, a, b, n⟩ = f) ∧ (¬ okRun a b ∨ (k = 0 ∧ okRun a b ∧ (n < 1 ∨ 1073741824 < n))) := by
    unfold actE at h0 ⊢
    unfold actF
    dsimp only at h0 ⊢
    by_cases k0 : k = 0
    · simp only [if_pos k0] at h0 ⊢
      unfold SetE at h0 ⊢
      unfold Mset
      by_cases hs : okSet a b n
      · rw [if_pos hs] at h0; exact absurd rfl h0
      · simp only [if_neg hs]
        refine ⟨trivial, fun _ => trivial, ?_⟩
        by_cases hr : okRun a b
        · refine .inr ⟨k0, hr, ?_⟩
          by_cases h1 : n < 1
          · exact .inl h1
          · exact .inr (by
              by_cases h2 : 1073741824 < n
              · exact h2
              · exact absurd ⟨⟨by omega, by omega⟩, hr⟩ hs)
        · exact .inl hr
    · simp only [if_neg k0] at h0 ⊢
      by_cases k1 : k = 1
      · simp only [if_pos k1] at h0 ⊢
        unfold setE at h0 ⊢
        unfold mset
        by_cases hr : okRun a b
        · rw [if_pos hr] at h0; exact absurd rfl h0
        · simp only [if_neg hr]
          exact ⟨trivial, fun _ => trivial, .inl (by trivial)⟩
      · simp only [if_neg k1] at h0
        exact absurd trivial h0
  obtain ⟨he, hf, hc⟩ := bad
  rcases hc with hr | ⟨k0, hr, hc⟩
  · unfold okRun at hr
    by_cases y1 : a < 0
    · exact refuses_1 a0 cap acts k a b n w h hn60 he hf y1
    by_cases y2 : b < 1
    · exact refuses_2 a0 cap acts k a b n w h hn60 he hf (by omega) y2
    by_cases y3 : 1024 ≤ a
    · exact refuses_3 a0 cap acts k a b n w h hn60 he hf y3 (by omega)
    exact refuses_4 a0 cap acts k a b n w h hn60 he hf (by omega) (by omega) (by omega) (by omega)
  · unfold okRun at hr
    rcases hc with hc | hc
    · exact refuses_5 a0 cap acts k a b n w h hn60 he hf (by omega) (by omega) (by omega) (by omega) k0 hc
    · exact refuses_6 a0 cap acts k a b n w h hn60 he hf (by omega) (by omega) (by omega) (by omega) k0 hc
end Go.Proofs.Ythknghkiogiajaa

/-
  A class of a table: what is right. (Printed by mkC3.py.)
-/
import Derived.Test.YtaejojbdkgccpaaC2
namespace Go.Proofs.Ytaejojbdkgccpaa
open Go.RowKit

/-- a class: its size, pages and batch -/
structure Cls where
  size : Int
  pages : Int
  batch : Int
def okCls (s p b : Int) : Prop := 8 ≤ s ∧ s ≤ 512 ∧ s % 8 = 0 ∧ 1 ≤ p ∧ p ≤ 4 ∧ s ≤ p * 256 ∧ 1 ≤ b ∧ b ≤ 32
instance (s p b : Int) : Decidable (okCls s p b) := inferInstanceAs (Decidable (_ ∧ _))
set_option maxRecDepth 10000 in
set_option maxHeartbeats 2000000 in
theorem one_any (w : World) (s p b : Int) :
    Calls Try.prog 68 #[.agg #[.int .i64 s, .int .i64 p, .int .i64 b]] w fun e w' => e = .returned (.bool (decide (okCls s p b))) ∧ w' = w.alloc (.cells #[.int .i64 s, .int .i64 p, .int .i64 b] 43) := by
  by_cases h0 : 8 ≤ s
  rotate_left
  · have E := Lib.hid (decide_eq_false (show ¬ okCls s p b from fun hc => h0 (by unfold okCls at hc; omega)))
    have d0a : decide ((8 : Int) ≤ s) = false := decide_eq_false h0
    go_enter Try.func68, Try.ntmps68
    go_wp2_with fail
    go_ret
    exact ⟨by rw [E.out]; rfl, rfl⟩
  by_cases h1 : s ≤ 512
  rotate_left
  · have E := Lib.hid (decide_eq_false (show ¬ okCls s p b from fun hc => h1 (by unfold okCls at hc; omega)))
    have d0a : decide ((8 : Int) ≤ s) = true := decide_eq_true h0
    have d1a : decide (s ≤ 512) = false := decide_eq_false h1
    go_enter Try.func68, Try.ntmps68
    go_wp2_with fail
    go_ret
    exact ⟨by rw [E.out]; rfl, rfl⟩
  by_cases h2 : s % 8 = 0
  rotate_left
  · have E := Lib.hid (decide_eq_false (show ¬ okCls s p b from fun hc => h2 (by unfold okCls at hc; omega)))
    have d0a : decide ((8 : Int) ≤ s) = true := decide_eq_true h0
    have d1a : decide (s ≤ 512) = true := decide_eq_true h1
    have d2a : (s % 8 == 0) = false := by simp [h2]
    have d2b : (s.tmod 8 == 0) = false := by rw [Int.tmod_eq_emod_of_nonneg (by omega)]; simp [h2]
    go_enter Try.func68, Try.ntmps68
    go_wp2_with fail
    go_ret
    exact ⟨by rw [E.out]; rfl, rfl⟩
  by_cases h3 : 1 ≤ p
  rotate_left
  · have E := Lib.hid (decide_eq_false (show ¬ okCls s p b from fun hc => h3 (by unfold okCls at hc; omega)))
    have d0a : decide ((8 : Int) ≤ s) = true := decide_eq_true h0
    have d1a : decide (s ≤ 512) = true := decide_eq_true h1
    have d2a : (s % 8 == 0) = true := by simp [h2]
    have d2b : (s.tmod 8 == 0) = true := by rw [Int.tmod_eq_emod_of_nonneg (by omega)]; simp [h2]
    have d3a : decide ((1 : Int) ≤ p) = false := decide_eq_false h3
    go_enter Try.func68, Try.ntmps68
    go_wp2_with fail
    go_ret
    exact ⟨by rw [E.out]; rfl, rfl⟩
  by_cases h4 : p ≤ 4
  rotate_left
  · have E := Lib.hid (decide_eq_false (show ¬ okCls s p b from fun hc => h4 (by unfold okCls at hc; omega)))
    have d0a : decide ((8 : Int) ≤ s) = true := decide_eq_true h0
    have d1a : decide (s ≤ 512) = true := decide_eq_true h1
    have d2a : (s % 8 == 0) = true := by simp [h2]
    have d2b : (s.tmod 8 == 0) = true := by rw [Int.tmod_eq_emod_of_nonneg (by omega)]; simp [h2]
    have d3a : decide ((1 : Int) ≤ p) = true := decide_eq_true h3
    have d4a : decide (p ≤ 4) = false := decide_eq_false h4
    go_enter Try.func68, Try.ntmps68
    go_wp2_with fail
    go_ret
    exact ⟨by rw [E.out]; rfl, rfl⟩
  by_cases h5 : s ≤ p * 256
  rotate_left
  · have E := Lib.hid (decide_eq_false (show ¬ okCls s p b from fun hc => h5 (by unfold okCls at hc; omega)))
    have d0a : decide ((8 : Int) ≤ s) = true := decide_eq_true h0
    have d1a : decide (s ≤ 512) = true := decide_eq_true h1
    have d2a : (s % 8 == 0) = true := by simp [h2]
    have d2b : (s.tmod 8 == 0) = true := by rw [Int.tmod_eq_emod_of_nonneg (by omega)]; simp [h2]
    have d3a : decide ((1 : Int) ≤ p) = true := decide_eq_true h3
    have d4a : decide (p ≤ 4) = true := decide_eq_true h4
    have d5a : decide (s ≤ p * 256) = false := decide_eq_false h5
    go_enter Try.func68, Try.ntmps68
    go_wp2_with fail
    go_ret
    exact ⟨by rw [E.out]; rfl, rfl⟩
  by_cases h6 : 1 ≤ b
  rotate_left
  · have E := Lib.hid (decide_eq_false (show ¬ okCls s p b from fun hc => h6 (by unfold okCls at hc; omega)))
    have d0a : decide ((8 : Int) ≤ s) = true := decide_eq_true h0
    have d1a : decide (s ≤ 512) = true := decide_eq_true h1
    have d2a : (s % 8 == 0) = true := by simp [h2]
    have d2b : (s.tmod 8 == 0) = true := by rw [Int.tmod_eq_emod_of_nonneg (by omega)]; simp [h2]
    have d3a : decide ((1 : Int) ≤ p) = true := decide_eq_true h3
    have d4a : decide (p ≤ 4) = true := decide_eq_true h4
    have d5a : decide (s ≤ p * 256) = true := decide_eq_true h5
    have d6a : decide ((1 : Int) ≤ b) = false := decide_eq_false h6
    go_enter Try.func68, Try.ntmps68
    go_wp2_with fail
    go_ret
    exact ⟨by rw [E.out]; rfl, rfl⟩
  by_cases h7 : b ≤ 32
  rotate_left
  · have E := Lib.hid (decide_eq_false (show ¬ okCls s p b from fun hc => h7 (by unfold okCls at hc; omega)))
    have d0a : decide ((8 : Int) ≤ s) = true := decide_eq_true h0
    have d1a : decide (s ≤ 512) = true := decide_eq_true h1
    have d2a : (s % 8 == 0) = true := by simp [h2]
    have d2b : (s.tmod 8 == 0) = true := by rw [Int.tmod_eq_emod_of_nonneg (by omega)]; simp [h2]
    have d3a : decide ((1 : Int) ≤ p) = true := decide_eq_true h3
    have d4a : decide (p ≤ 4) = true := decide_eq_true h4
    have d5a : decide (s ≤ p * 256) = true := decide_eq_true h5
    have d6a : decide ((1 : Int) ≤ b) = true := decide_eq_true h6
    have d7a : decide (b ≤ 32) = false := decide_eq_false h7
    go_enter Try.func68, Try.ntmps68
    go_wp2_with fail
    go_ret
    exact ⟨by rw [E.out]; rfl, rfl⟩
  have E := Lib.hid (decide_eq_true (show okCls s p b from ⟨h0, h1, h2, h3, h4, h5, h6, h7⟩))
  have d0a : decide ((8 : Int) ≤ s) = true := decide_eq_true h0
  have d1a : decide (s ≤ 512) = true := decide_eq_true h1
  have d2a : (s % 8 == 0) = true := by simp [h2]
  have d2b : (s.tmod 8 == 0) = true := by rw [Int.tmod_eq_emod_of_nonneg (by omega)]; simp [h2]
  have d3a : decide ((1 : Int) ≤ p) = true := decide_eq_true h3
  have d4a : decide (p ≤ 4) = true := decide_eq_true h4
  have d5a : decide (s ≤ p * 256) = true := decide_eq_true h5
  have d6a : decide ((1 : Int) ≤ b) = true := decide_eq_true h6
  have d7a : decide (b ≤ 32) = true := decide_eq_true h7
  go_enter Try.func68, Try.ntmps68
  go_wp2_with fail
  go_ret
  exact ⟨by rw [E.out]; rfl, rfl⟩
set_option maxRecDepth 10000 in
set_option maxHeartbeats 2000000 in
theorem right_any (w : World) (s p b : Int) :
    Calls Try.prog 69 #[.agg #[.int .i64 s, .int .i64 p, .int .i64 b]] w fun e w' => e = .returned (.bool (decide (okCls s p b))) ∧ w' = w.alloc (.cells #[.int .i64 s, .int .i64 p, .int .i64 b] 43) := by
  by_cases h0 : 8 ≤ s
  rotate_left
  · have E := Lib.hid (decide_eq_false (show ¬ okCls s p b from fun hc => h0 (by unfold okCls at hc; omega)))
    have d0a : decide ((8 : Int) ≤ s) = false := decide_eq_false h0
    go_enter Try.func69, Try.ntmps69
    go_wp2_with fail
    go_ret
    exact ⟨by rw [E.out]; rfl, rfl⟩
  by_cases h1 : s ≤ 512
  rotate_left
  · have E := Lib.hid (decide_eq_false (show ¬ okCls s p b from fun hc => h1 (by unfold okCls at hc; omega)))
    have d0a : decide ((8 : Int) ≤ s) = true := decide_eq_true h0
    have d1a : decide (s ≤ 512) = false := decide_eq_false h1
    go_enter Try.func69, Try.ntmps69
    go_wp2_with fail
    go_ret
    exact ⟨by rw [E.out]; rfl, rfl⟩
  by_cases h2 : s % 8 = 0
  rotate_left
  · have E := Lib.hid (decide_eq_false (show ¬ okCls s p b from fun hc => h2 (by unfold okCls at hc; omega)))
    have d0a : decide ((8 : Int) ≤ s) = true := decide_eq_true h0
    have d1a : decide (s ≤ 512) = true := decide_eq_true h1
    have d2a : (s % 8 == 0) = false := by simp [h2]
    have d2b : (s.tmod 8 == 0) = false := by rw [Int.tmod_eq_emod_of_nonneg (by omega)]; simp [h2]
    go_enter Try.func69, Try.ntmps69
    go_wp2_with fail
    go_ret
    exact ⟨by rw [E.out]; rfl, rfl⟩
  by_cases h3 : 1 ≤ p
  rotate_left
  · have E := Lib.hid (decide_eq_false (show ¬ okCls s p b from fun hc => h3 (by unfold okCls at hc; omega)))
    have d0a : decide ((8 : Int) ≤ s) = true := decide_eq_true h0
    have d1a : decide (s ≤ 512) = true := decide_eq_true h1
    have d2a : (s % 8 == 0) = true := by simp [h2]
    have d2b : (s.tmod 8 == 0) = true := by rw [Int.tmod_eq_emod_of_nonneg (by omega)]; simp [h2]
    have d3a : decide ((1 : Int) ≤ p) = false := decide_eq_false h3
    go_enter Try.func69, Try.ntmps69
    go_wp2_with fail
    go_ret
    exact ⟨by rw [E.out]; rfl, rfl⟩
  by_cases h4 : p ≤ 4
  rotate_left
  · have E := Lib.hid (decide_eq_false (show ¬ okCls s p b from fun hc => h4 (by unfold okCls at hc; omega)))
    have d0a : decide ((8 : Int) ≤ s) = true := decide_eq_true h0
    have d1a : decide (s ≤ 512) = true := decide_eq_true h1
    have d2a : (s % 8 == 0) = true := by simp [h2]
    have d2b : (s.tmod 8 == 0) = true := by rw [Int.tmod_eq_emod_of_nonneg (by omega)]; simp [h2]
    have d3a : decide ((1 : Int) ≤ p) = true := decide_eq_true h3
    have d4a : decide (p ≤ 4) = false := decide_eq_false h4
    go_enter Try.func69, Try.ntmps69
    go_wp2_with fail
    go_ret
    exact ⟨by rw [E.out]; rfl, rfl⟩
  by_cases h5 : s ≤ p * 256
  rotate_left
  · have E := Lib.hid (decide_eq_false (show ¬ okCls s p b from fun hc => h5 (by unfold okCls at hc; omega)))
    have d0a : decide ((8 : Int) ≤ s) = true := decide_eq_true h0
    have d1a : decide (s ≤ 512) = true := decide_eq_true h1
    have d2a : (s % 8 == 0) = true := by simp [h2]
    have d2b : (s.tmod 8 == 0) = true := by rw [Int.tmod_eq_emod_of_nonneg (by omega)]; simp [h2]
    have d3a : decide ((1 : Int) ≤ p) = true := decide_eq_true h3
    have d4a : decide (p ≤ 4) = true := decide_eq_true h4
    have d5a : decide (s ≤ p * 256) = false := decide_eq_false h5
    go_enter Try.func69, Try.ntmps69
    go_wp2_with fail
    go_ret
    exact ⟨by rw [E.out]; rfl, rfl⟩
  by_cases h6 : 1 ≤ b
  rotate_left
  · have E := Lib.hid (decide_eq_false (show ¬ okCls s p b from fun hc => h6 (by unfold okCls at hc; omega)))
    have d0a : decide ((8 : Int) ≤ s) = true := decide_eq_true h0
    have d1a : decide (s ≤ 512) = true := decide_eq_true h1
    have d2a : (s % 8 == 0) = true := by simp [h2]
    have d2b : (s.tmod 8 == 0) = true := by rw [Int.tmod_eq_emod_of_nonneg (by omega)]; simp [h2]
    have d3a : decide ((1 : Int) ≤ p) = true := decide_eq_true h3
    have d4a : decide (p ≤ 4) = true := decide_eq_true h4
    have d5a : decide (s ≤ p * 256) = true := decide_eq_true h5
    have d6a : decide ((1 : Int) ≤ b) = false := decide_eq_false h6
    go_enter Try.func69, Try.ntmps69
    go_wp2_with fail
    go_ret
    exact ⟨by rw [E.out]; rfl, rfl⟩
  by_cases h7 : b ≤ 32
  rotate_left
  · have E := Lib.hid (decide_eq_false (show ¬ okCls s p b from fun hc => h7 (by unfold okCls at hc; omega)))
    have d0a : decide ((8 : Int) ≤ s) = true := decide_eq_true h0
    have d1a : decide (s ≤ 512) = true := decide_eq_true h1
    have d2a : (s % 8 == 0) = true := by simp [h2]
    have d2b : (s.tmod 8 == 0) = true := by rw [Int.tmod_eq_emod_of_nonneg (by omega)]; simp [h2]
    have d3a : decide ((1 : Int) ≤ p) = true := decide_eq_true h3
    have d4a : decide (p ≤ 4) = true := decide_eq_true h4
    have d5a : decide (s ≤ p * 256) = true := decide_eq_true h5
    have d6a : decide ((1 : Int) ≤ b) = true := decide_eq_true h6
    have d7a : decide (b ≤ 32) = false := decide_eq_false h7
    go_enter Try.func69, Try.ntmps69
    go_wp2_with fail
    go_ret
    exact ⟨by rw [E.out]; rfl, rfl⟩
  have E := Lib.hid (decide_eq_true (show okCls s p b from ⟨h0, h1, h2, h3, h4, h5, h6, h7⟩))
  have d0a : decide ((8 : Int) ≤ s) = true := decide_eq_true h0
  have d1a : decide (s ≤ 512) = true := decide_eq_true h1
  have d2a : (s % 8 == 0) = true := by simp [h2]
  have d2b : (s.tmod 8 == 0) = true := by rw [Int.tmod_eq_emod_of_nonneg (by omega)]; simp [h2]
  have d3a : decide ((1 : Int) ≤ p) = true := decide_eq_true h3
  have d4a : decide (p ≤ 4) = true := decide_eq_true h4
  have d5a : decide (s ≤ p * 256) = true := decide_eq_true h5
  have d6a : decide ((1 : Int) ≤ b) = true := decide_eq_true h6
  have d7a : decide (b ≤ 32) = true := decide_eq_true h7
  go_enter Try.func69, Try.ntmps69
  go_wp2_with fail
  go_ret
  exact ⟨by rw [E.out]; rfl, rfl⟩
end Go.Proofs.Ytaejojbdkgccpaa

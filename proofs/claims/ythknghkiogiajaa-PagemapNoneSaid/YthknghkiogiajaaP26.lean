/-
  The law's own Same; a map that nobody made.
-/
import Derived.Test.YthknghkiogiajaaP25
namespace Go.Proofs.Ythknghkiogiajaa
open Go.RowKit

set_option maxRecDepth 10000 in
set_option maxHeartbeats 4000000 in
theorem lsame_any (w0 w : World) (F : List HP) (c r : Nat) (f : Nat → Int) (hs : St w0 (mapP c f :: refP r f :: F) w) :
    Calls Try.prog 29 #[.pointer (some ⟨c, 0, none⟩), .pointer (some ⟨r, 0, none⟩)] w fun e w' => e = .returned (.bool true) ∧ St w0 (mapP c f :: refP r f :: F) w' := by
  have hll := mks_len f 1024
  go_enter Try.func29, Try.ntmps29
  go_wp2_with fail
  refine (nodes_any w0 w _ c f hs).mono ?_
  rintro e w' ⟨rfl, rfl⟩
  go_wp2_with fail
  obtain ⟨rb, roff, rcap, hr⟩ := RefAt.of hs.swap
  refine (rnodes_any w r rb roff rcap f hr).mono ?_
  rintro e w' ⟨rfl, rfl⟩
  clear hr
  go_wp2_with fail
  refine (Marks_any w0 w _ c f hs).mono ?_
  rintro e w1 ⟨a1, p1, rfl, h1⟩
  go_wp2_with fail
  refine (rMarks_any w0 w1 _ r f (h1.pick 3 [2, 0, 1])).mono ?_
  rintro e w2 ⟨a2, p2, rfl, h2⟩
  have i2 := marks_at h2
  have i1 := marks_at (h2.front 2)
  go_wp2_with fail
  refine (marks_any w2 a1 a2 p1 p2 _ _ i1 i2 (by omega)).mono ?_
  rintro e w' ⟨rfl, n, rfl⟩
  rw [decide_eq_true (rfl : mks f 1024 = mks f 1024)]
  have h3 : St w0 (mapP c f :: refP r f :: F) (w2.drewN n) := (h2.drewN n).pick 4 [3, 1]
  clear h2 i1 i2 h1 hs
  obtain ⟨rb, roff, rcap, hr⟩ := RefAt.of h3.swap
  have H3 := Lib.hid h3
  have HR := Lib.hid hr
  clear h3 hr
  generalize w2.drewN n = w3 at *
  go_wp2_with fail
  go_loop [9] (fun i => ∃ k : Nat, k ≤ 1026 ∧ i = .int .i64 ((k : Int) - 1)) (fun i => 1026 - (intOf i + 1).toNat)
  case atStart => exact ⟨0, by omega, rfl⟩
  case round =>
    obtain ⟨k, hk, rfl⟩ := hrel
    by_cases hlt : k < 1026
    · have b1 : decide ((k : Int) - 1 ≤ 1024) = true := by simp; omega
      go_wp2_with fail
      refine (get_any w0 w3 _ c f H3.out ((k : Int) - 1)).mono ?_
      rintro e w' ⟨rfl, rfl⟩
      go_wp2_with fail
      refine (rget_any w3 r rb roff rcap f HR.out ((k : Int) - 1)).mono ?_
      rintro e w' ⟨rfl, rfl⟩
      go_wp2_with fail
      go_round
      case rel => exact ⟨k + 1, hlt, by go_num⟩
      case measure => simp [intOf]; omega
    · have b1 : decide ((k : Int) - 1 ≤ 1024) = false := by simp; omega
      go_wp2_with fail
      go_ret
      exact ⟨rfl, H3.out⟩

theorem nodes_not (w : World) (q : Option Addr) (h : NotMade w q) : Calls Try.prog 19 #[.pointer q] w fun e w' => e = .returned (.tuple #[.int .i64 0, .int .i64 0]) ∧ w = w' := by
  have H := Lib.hid (good_not w q h)
  clear h
  go_enter Try.func19, Try.ntmps19
  go_wp2_with fail
  refine H.out.mono ?_
  rintro e w' ⟨rfl, rfl⟩
  go_wp2_with fail
  go_ret2
  exact ⟨rfl, rfl⟩
theorem next_not (w : World) (q : Option Addr) (h : NotMade w q) (p : Int) : Calls Try.prog 18 #[.pointer q, .int .i64 p] w fun e w' => e = .returned (.tuple #[.int .i64 0, .int .i64 0, .int .i64 5]) ∧ w = w' := by
  have H := Lib.hid (good_not w q h)
  clear h
  go_enter Try.func18, Try.ntmps18
  go_wp2_with fail
  refine H.out.mono ?_
  rintro e w' ⟨rfl, rfl⟩
  go_wp2_with fail
  go_ret3
  exact ⟨rfl, rfl⟩
theorem clone_not (w : World) (q : Option Addr) (h : NotMade w q) : Calls Try.prog 25 #[.pointer q] w fun e w' => e = .returned (.pointer none) ∧ w = w' := by
  have H := Lib.hid (good_not w q h)
  clear h
  go_enter Try.func25, Try.ntmps25
  go_wp2_with fail
  refine H.out.mono ?_
  rintro e w' ⟨rfl, rfl⟩
  go_wp2_with fail
  go_ret
  exact ⟨rfl, rfl⟩
set_option maxRecDepth 10000 in
set_option maxHeartbeats 1000000 in
theorem Marks_not (w : World) (q : Option Addr) (h : NotMade w q) : Calls Try.prog 20 #[.pointer q] w fun e w' => e = .returned (.slice none 0 0) ∧ w = w' := by
  have H := Lib.hid fun p => get_not w q h p
  clear h
  go_enter Try.func20, Try.ntmps20
  go_wp2_with fail
  go_loop [3, 7] (fun v i => ∃ k : Nat, k ≤ 1024 ∧ i = .int .i64 k ∧ v = .slice none 0 0) (fun _ i => 1024 - (intOf i).toNat)
  case atStart => exact ⟨0, by omega, rfl, rfl⟩
  case round =>
    obtain ⟨k, hk, rfl, rfl⟩ := hrel
    by_cases hlt : k < 1024
    · go_wp2_with fail
      refine (H.out k).mono ?_
      rintro e w' ⟨rfl, rfl⟩
      go_wp2_with fail
      go_round
      case rel => exact ⟨k + 1, hlt, by go_num, rfl⟩
      case measure => simp [intOf]; omega
    · go_wp2_with fail
      go_ret
      exact ⟨rfl, rfl⟩
theorem nilMarks (w : World) : MarksAt w (.slice none 0 0) [] := Reads.nil w 3
set_option maxRecDepth 10000 in
set_option maxHeartbeats 4000000 in
theorem lsame_not (w : World) (q : Option Addr) (h : NotMade w q) :
    Calls Try.prog 29 #[.pointer q, .pointer none] w fun e w' => e = .returned (.bool true) ∧ ∃ n, w' = w.drewN n := by
  have H1 := Lib.hid (nodes_not w q h)
  have H2 := Lib.hid (Marks_not w q h)
  have H3 := Lib.hid h
  clear h
  go_enter Try.func29, Try.ntmps29
  go_wp2_with fail
  refine H1.out.mono ?_
  rintro e w' ⟨rfl, rfl⟩
  go_wp2_with fail
  refine (rnodes_nil w).mono ?_
  rintro e w' ⟨rfl, rfl⟩
  go_wp2_with fail
  refine H2.out.mono ?_
  rintro e w' ⟨rfl, rfl⟩
  go_wp2_with fail
  refine (rmarks_nil w).mono ?_
  rintro e w' ⟨rfl, rfl⟩
  go_wp2_with fail
  refine (marks_any w none none 0 0 [] [] (nilMarks w) (nilMarks w) (by decide)).mono ?_
  rintro e w' ⟨rfl, n, rfl⟩
  have h3 : NotMade (w.drewN n) q := H3.out
  rw [decide_eq_true (rfl : ([] : List Mk) = [])]
  have HQ := Lib.hid fun p => get_not _ q h3 p
  have HW : Hid (∃ m, w.drewN n = w.drewN m) := Lib.hid ⟨n, rfl⟩
  generalize w.drewN n = w3 at *
  clear h3
  go_wp2_with fail
  go_loop [9] (fun i => ∃ k : Nat, k ≤ 1026 ∧ i = .int .i64 ((k : Int) - 1)) (fun i => 1026 - (intOf i + 1).toNat)
  case atStart => exact ⟨0, by omega, rfl⟩
  case round =>
    obtain ⟨k, hk, rfl⟩ := hrel
    by_cases hlt : k < 1026
    · have b1 : decide ((k : Int) - 1 ≤ 1024) = true := by simp; omega
      go_wp2_with fail
      refine (HQ.out ((k : Int) - 1)).mono ?_
      rintro e w' ⟨rfl, rfl⟩
      go_wp2_with fail
      refine (rget_nil w3 ((k : Int) - 1)).mono ?_
      rintro e w' ⟨rfl, rfl⟩
      go_wp2_with fail
      go_round
      case rel => exact ⟨k + 1, hlt, by go_num⟩
      case measure => simp [intOf]; omega
    · have b1 : decide ((k : Int) - 1 ≤ 1024) = false := by simp; omega
      go_wp2_with fail
      go_ret
      exact ⟨rfl, HW.out⟩
end Go.Proofs.Ythknghkiogiajaa

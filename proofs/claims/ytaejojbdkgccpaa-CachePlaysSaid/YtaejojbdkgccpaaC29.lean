/-
  Same on caches that were not made and the nil reference; the law CacheNone. (Printed by mkC29.py.)
-/
import Derived.Test.YtaejojbdkgccpaaC28
namespace Go.Proofs.Ytaejojbdkgccpaa
open Go.RowKit Go.Maps Go.ChangeMaps

theorem overS_bare {w0 w : World} {L : List HP} {p : Value} (hb : BareS w0 L p) (h : St w0 L w) : Calls Try.prog 28 #[p] w fun e w' => e = .returned (.bool false) ∧ St w0 L w' := by
  refine (over_bare (hb w h)).mono ?_
  rintro e w' ⟨rfl, n, rfl⟩
  exact ⟨rfl, h.drewN n⟩
theorem overS_nil {w0 w : World} {L : List HP} (h : St w0 L w) : Calls Try.prog 64 #[.pointer none] w fun e w' => e = .returned (.bool false) ∧ St w0 L w' := by
  refine (rover_nil w).mono ?_
  rintro e w' ⟨rfl, n, rfl⟩
  exact ⟨rfl, h.drewN n⟩

set_option maxRecDepth 10000 in
set_option maxHeartbeats 4000000 in
theorem Same_bare (w0 w : World) (L : List HP) (p : Value) (hb : BareS w0 L p) (hs : St w0 L w) (m : Nat) (hm : m ≤ 100) :
    Calls Try.prog 36 #[p, .pointer none, .int .i64 m] w fun e w' => e = .returned (.bool true) ∧ St w0 L w' := by
  have B := Lib.hid hb
  have H1 := Lib.hid hs
  clear hb hs
  go_enter Try.func36, Try.ntmps36
  go_wp2_with fail
  go_loopw [7] (fun i wr => ∃ k : Int, -1 ≤ k ∧ k ≤ m + 1 ∧ i = .int .i64 k ∧ Hid (St w0 L wr)) (fun i _ => (m + 1 - intOf i).toNat)
  case atStart => exact ⟨-1, by omega, by omega, rfl, H1⟩
  case round =>
    clear H1
    obtain ⟨k, k1, k2, rfl, HS⟩ := hrel
    by_cases hlt : k ≤ m
    · have d0 : decide (k ≤ (m : Int)) = true := decide_eq_true hlt
      have q0 : IntKind.i64.wrap (k + 1) = k + 1 := by rw [IntWalk.i64_in _ (by omega)]
      go_wp2_with fail
      refine (len_bare (B.out _ HS.out) k).mono ?_
      rintro e w' ⟨rfl, rfl⟩
      go_wp2_with fail
      refine (rlen_nil _ k).mono ?_
      rintro e w' ⟨rfl, rfl⟩
      go_wp2_with fail
      refine (limit_bare (B.out _ HS.out) k).mono ?_
      rintro e w' ⟨rfl, rfl⟩
      go_wp2_with fail
      refine (rlimit_nil _ k).mono ?_
      rintro e w' ⟨rfl, rfl⟩
      go_wp2_with fail
      refine (low_bare (B.out _ HS.out) k).mono ?_
      rintro e w' ⟨rfl, rfl⟩
      go_wp2_with fail
      refine (rlow_nil _ k).mono ?_
      rintro e w' ⟨rfl, rfl⟩
      go_wp2_with fail
      refine (objects_bare (B.out _ HS.out) k).mono ?_
      rintro e w' ⟨rfl, rfl⟩
      go_wp2_with fail
      refine (robjects_nil _ k).mono ?_
      rintro e w' ⟨rfl, rfl⟩
      go_wp2_with fail
      refine (ints_none HS.out).mono ?_
      rintro e w' ⟨rfl, h9⟩
      have H9 := Lib.hid h9
      clear h9
      go_wp2_with fail
      go_roundw
      case rel => exact ⟨k + 1, by omega, by omega, rfl, H9⟩
      case measure => simp [intOf]; omega
    · have d0 : decide (k ≤ (m : Int)) = false := decide_eq_false hlt
      go_wp2_with fail
      refine (bytes_bare (B.out _ HS.out)).mono ?_
      rintro e w' ⟨rfl, rfl⟩
      go_wp2_with fail
      refine (rbytes_nil _).mono ?_
      rintro e w' ⟨rfl, rfl⟩
      go_wp2_with fail
      refine (overS_bare B.out HS.out).mono ?_
      rintro e w' ⟨rfl, h9⟩
      have H9 := Lib.hid h9
      clear h9
      go_wp2_with fail
      refine (overS_nil H9.out).mono ?_
      rintro e w' ⟨rfl, h8⟩
      go_wp2_with fail
      go_ret
      exact ⟨rfl, h8⟩
end Go.Proofs.Ytaejojbdkgccpaa

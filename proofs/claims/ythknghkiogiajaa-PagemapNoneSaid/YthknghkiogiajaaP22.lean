/-
  The reference's map: Next, Nodes. (Printed by mkP22.py.)
-/
import Derived.Test.YthknghkiogiajaaP21
namespace Go.Proofs.Ythknghkiogiajaa
open Go.RowKit

set_option maxRecDepth 10000 in
set_option maxHeartbeats 1000000 in
theorem rnext_nat (w : World) (c b off cap : Nat) (f : Nat → Int) (hr : RefAt w c b off cap f) (a : Nat) :
    Calls Try.prog 28 #[.pointer (some ⟨c, 0, none⟩), .int .i64 a] w fun e w' => ∃ v, e = .returned v ∧ isNext f a v ∧ ∃ n, w' = w.drewN n := by
  obtain ⟨c0, hc⟩ := hr
  have HC := Lib.hid hc
  clear hc
  have ha2 : ∀ r : Nat, (a : Int) ≤ r ↔ a ≤ r := fun r => by omega
  have HA := Lib.hid ha2
  clear ha2
  go_enter Try.func28, Try.ntmps28
  go_wp2_with (go_at_call 35; refine (rmade_true _ _ _ _ _ c0).mono ?_; rintro e w' ⟨rfl, rfl⟩)
  go_loop [7] (fun i => ∃ k : Nat, i = .int .i64 k ∧ a ≤ k ∧ Hid (∀ r : Nat, r < k → a ≤ r → r < 1024 → f r = 0)) (fun i => 1024 - (intOf i).toNat)
  case atStart => exact ⟨a, rfl, Nat.le_refl _, Lib.hid fun r h1 h2 => by omega⟩
  case round =>
    obtain ⟨k, rfl, hak, hz⟩ := hrel
    by_cases hlt : k < 1024
    · have hk := HC.out k hlt
      by_cases hfk : f k = 0
      · have b1 : (f k != 0) = false := by simp; omega
        have HK := Lib.hid hfk
        clear hfk
        go_wp2_with fail
        go_round
        case rel =>
          refine ⟨k + 1, by go_num, by omega, Lib.hid fun r h1 h2 h3 => ?_⟩
          by_cases e : r = k
          · rw [e]; exact HK.out
          · exact hz.out r (by omega) h2 h3
        case measure => simp [intOf]; omega
      · have b1 : (f k != 0) = true := by simp; omega
        have HK := Lib.hid hfk
        have hk0 : (0 : Int) ≤ (k : Int) := by omega
        have hk1 : (k : Int) < 1024 := by omega
        clear hfk
        go_wp2_with fail
        go_quiet (fail)
        go_wp2_with fail
        go_ret3
        exact ⟨_, rfl, .inl ⟨k, hlt, (HA.out k).2 hak, HK.out, fun r h1 h2 => hz.out r h1 ((HA.out r).1 h2) (by omega), rfl⟩, _, rfl⟩
    · go_wp2_with fail
      go_ret3
      exact ⟨_, rfl, .inr ⟨fun r h1 h2 => hz.out r (by omega) ((HA.out r).1 h2) h1, rfl⟩, 0, rfl⟩

set_option maxRecDepth 10000 in
set_option maxHeartbeats 1000000 in
theorem rnext_neg (w : World) (c b off cap : Nat) (f : Nat → Int) (hr : RefAt w c b off cap f) (page : Int) (hp : page < 0) :
    Calls Try.prog 28 #[.pointer (some ⟨c, 0, none⟩), .int .i64 page] w fun e w' => ∃ v, e = .returned v ∧ isNext f page v ∧ ∃ n, w' = w.drewN n := by
  obtain ⟨c0, hc⟩ := hr
  have HC := Lib.hid hc
  clear hc
  have ha2 : ∀ r : Nat, page ≤ r ↔ 0 ≤ r := fun r => by omega
  have HA := Lib.hid ha2
  clear ha2
  go_enter Try.func28, Try.ntmps28
  go_wp2_with (go_at_call 35; refine (rmade_true _ _ _ _ _ c0).mono ?_; rintro e w' ⟨rfl, rfl⟩)
  go_loop [7] (fun i => ∃ k : Nat, i = .int .i64 k ∧ 0 ≤ k ∧ Hid (∀ r : Nat, r < k → 0 ≤ r → r < 1024 → f r = 0)) (fun i => 1024 - (intOf i).toNat)
  case atStart => exact ⟨0, rfl, Nat.le_refl _, Lib.hid fun r h1 h2 => by omega⟩
  case round =>
    obtain ⟨k, rfl, hak, hz⟩ := hrel
    by_cases hlt : k < 1024
    · have hk := HC.out k hlt
      by_cases hfk : f k = 0
      · have b1 : (f k != 0) = false := by simp; omega
        have HK := Lib.hid hfk
        clear hfk
        go_wp2_with fail
        go_round
        case rel =>
          refine ⟨k + 1, by go_num, by omega, Lib.hid fun r h1 h2 h3 => ?_⟩
          by_cases e : r = k
          · rw [e]; exact HK.out
          · exact hz.out r (by omega) h2 h3
        case measure => simp [intOf]; omega
      · have b1 : (f k != 0) = true := by simp; omega
        have HK := Lib.hid hfk
        have hk0 : (0 : Int) ≤ (k : Int) := by omega
        have hk1 : (k : Int) < 1024 := by omega
        clear hfk
        go_wp2_with fail
        go_quiet (fail)
        go_wp2_with fail
        go_ret3
        exact ⟨_, rfl, .inl ⟨k, hlt, (HA.out k).2 hak, HK.out, fun r h1 h2 => hz.out r h1 ((HA.out r).1 h2) (by omega), rfl⟩, _, rfl⟩
    · go_wp2_with fail
      go_ret3
      exact ⟨_, rfl, .inr ⟨fun r h1 h2 => hz.out r (by omega) ((HA.out r).1 h2) h1, rfl⟩, 0, rfl⟩

theorem rnext_any (w : World) (c b off cap : Nat) (f : Nat → Int) (hr : RefAt w c b off cap f) (page : Int) :
    Calls Try.prog 28 #[.pointer (some ⟨c, 0, none⟩), .int .i64 page] w fun e w' => ∃ v, e = .returned v ∧ isNext f page v ∧ ∃ n, w' = w.drewN n := by
  by_cases hp : page < 0
  · exact rnext_neg w c b off cap f hr page hp
  · obtain ⟨a, rfl⟩ : ∃ a : Nat, page = a := ⟨page.toNat, by omega⟩
    exact rnext_nat w c b off cap f hr a

theorem zeroTo_succ (n : Nat) (g : Nat → Int) : zeroTo (n + 1) g = (zeroTo n g && g n == 0) := by
  unfold zeroTo
  rw [List.range_succ, List.all_append]
  simp

set_option maxRecDepth 10000 in
set_option maxHeartbeats 1000000 in
theorem groups8 (w : World) (c b off cap : Nat) (f : Nat → Int) (hr : RefAt w c b off cap f) :
    Calls Try.prog 41 #[.pointer (some ⟨c, 0, none⟩), .int .i64 8] w fun e w' => e = .returned (.int .i64 (cnt 128 (leafB f))) ∧ w = w' := by
  obtain ⟨c0, hc⟩ := hr
  have HC := Lib.hid hc
  clear hc
  go_enter Try.func41, Try.ntmps41
  go_wp2_with fail
  go_loop [5, 6, 7, 8] (fun n p _ _ => ∃ j P : Nat, Hid (P = 8 * j) ∧ P ≤ 1024 ∧ p = .int .i64 P ∧ n = .int .i64 (cnt j (leafB f))) (fun _ p _ _ => 1024 - (intOf p).toNat)
  case atStart => exact ⟨0, 0, Lib.hid rfl, by omega, rfl, rfl⟩
  case round =>
    obtain ⟨j, P, hP, hP2, rfl, rfl⟩ := hrel
    have l1 := cnt_le j (leafB f)
    by_cases hlt : P < 1024
    · have hP3 : P + 8 ≤ 1024 := by have := hP.out; omega
      have l2 : j ≤ 128 := by have := hP.out; omega
      go_wp2_with fail
      go_loop [7, 8] (fun s q => ∃ i : Nat, i ≤ 8 ∧ q = .int .i64 ((P + i : Nat) : Int) ∧ s = .bool (!zeroTo i fun k => f (P + k))) (fun _ q => P + 8 - (intOf q).toNat)
      case atStart => exact ⟨0, by omega, rfl, rfl⟩
      case round =>
        obtain ⟨i, hi, rfl, rfl⟩ := hrel
        by_cases hil : i < 8
        · have hz := zeroTo_succ i fun k => f (P + k)
          have HZ := Lib.hid hz
          have hk := HC.out (P + i) (by omega)
          clear hz
          cases hzt : zeroTo i (fun k => f (P + k)) with
          | false =>
            have HT := Lib.hid hzt
            clear hzt
            go_wp2_with fail
            go_round
            case rel => exact ⟨i + 1, hil, by go_num, by rw [HZ.out, HT.out]; rfl⟩
            case measure => simp [intOf]; omega
          | true =>
            have HT := Lib.hid hzt
            clear hzt
            by_cases hf : f (P + i) = 0
            · have b1 : (f (P + i) != 0) = false := by simp [hf]
              have HF := Lib.hid hf
              clear hf
              go_wp2_with fail
              go_round
              case rel => exact ⟨i + 1, hil, by go_num, by rw [HZ.out, HT.out, HF.out]; rfl⟩
              case measure => simp [intOf]; omega
            · have b1 : (f (P + i) != 0) = true := by simp [hf]
              have b2 : (f (P + i) == 0) = false := by simp [hf]
              have HF := Lib.hid b2
              clear hf b2
              go_wp2_with fail
              go_round
              case rel => exact ⟨i + 1, hil, by go_num, by rw [HZ.out, HT.out, HF.out]; rfl⟩
              case measure => simp [intOf]; omega
        · have e : i = 8 := by omega
          subst e
          cases hzt : zeroTo 8 (fun k => f (P + k)) with
          | false =>
            have HB := Lib.hid (cnt_true (n := j) (P := leafB f) (by unfold leafB; rw [hP.out] at hzt; rw [hzt]; rfl))
            clear hzt
            go_wp2_with fail
            go_round
            case rel => exact ⟨j + 1, P + 8, Lib.hid (by have := hP.out; omega), by have := hP.out; omega, by go_num, by rw [HB.out]; go_num⟩
            case measure => simp [intOf]; omega
          | true =>
            have HB := Lib.hid (cnt_false (n := j) (P := leafB f) (by unfold leafB; rw [hP.out] at hzt; rw [hzt]; rfl))
            clear hzt
            go_wp2_with fail
            go_round
            case rel => exact ⟨j + 1, P + 8, Lib.hid (by have := hP.out; omega), by have := hP.out; omega, by go_num, by rw [HB.out]⟩
            case measure => simp [intOf]; omega
    · have e : j = 128 := by have := hP.out; omega
      subst e
      go_wp2_with fail
      go_ret
      exact ⟨rfl, rfl⟩

set_option maxRecDepth 10000 in
set_option maxHeartbeats 1000000 in
theorem groups64 (w : World) (c b off cap : Nat) (f : Nat → Int) (hr : RefAt w c b off cap f) :
    Calls Try.prog 41 #[.pointer (some ⟨c, 0, none⟩), .int .i64 64] w fun e w' => e = .returned (.int .i64 (cnt 16 (midB f))) ∧ w = w' := by
  obtain ⟨c0, hc⟩ := hr
  have HC := Lib.hid hc
  clear hc
  go_enter Try.func41, Try.ntmps41
  go_wp2_with fail
  go_loop [5, 6, 7, 8] (fun n p _ _ => ∃ j P : Nat, Hid (P = 64 * j) ∧ P ≤ 1024 ∧ p = .int .i64 P ∧ n = .int .i64 (cnt j (midB f))) (fun _ p _ _ => 1024 - (intOf p).toNat)
  case atStart => exact ⟨0, 0, Lib.hid rfl, by omega, rfl, rfl⟩
  case round =>
    obtain ⟨j, P, hP, hP2, rfl, rfl⟩ := hrel
    have l1 := cnt_le j (midB f)
    by_cases hlt : P < 1024
    · have hP3 : P + 64 ≤ 1024 := by have := hP.out; omega
      have l2 : j ≤ 16 := by have := hP.out; omega
      go_wp2_with fail
      go_loop [7, 8] (fun s q => ∃ i : Nat, i ≤ 64 ∧ q = .int .i64 ((P + i : Nat) : Int) ∧ s = .bool (!zeroTo i fun k => f (P + k))) (fun _ q => P + 64 - (intOf q).toNat)
      case atStart => exact ⟨0, by omega, rfl, rfl⟩
      case round =>
        obtain ⟨i, hi, rfl, rfl⟩ := hrel
        by_cases hil : i < 64
        · have hz := zeroTo_succ i fun k => f (P + k)
          have HZ := Lib.hid hz
          have hk := HC.out (P + i) (by omega)
          clear hz
          cases hzt : zeroTo i (fun k => f (P + k)) with
          | false =>
            have HT := Lib.hid hzt
            clear hzt
            go_wp2_with fail
            go_round
            case rel => exact ⟨i + 1, hil, by go_num, by rw [HZ.out, HT.out]; rfl⟩
            case measure => simp [intOf]; omega
          | true =>
            have HT := Lib.hid hzt
            clear hzt
            by_cases hf : f (P + i) = 0
            · have b1 : (f (P + i) != 0) = false := by simp [hf]
              have HF := Lib.hid hf
              clear hf
              go_wp2_with fail
              go_round
              case rel => exact ⟨i + 1, hil, by go_num, by rw [HZ.out, HT.out, HF.out]; rfl⟩
              case measure => simp [intOf]; omega
            · have b1 : (f (P + i) != 0) = true := by simp [hf]
              have b2 : (f (P + i) == 0) = false := by simp [hf]
              have HF := Lib.hid b2
              clear hf b2
              go_wp2_with fail
              go_round
              case rel => exact ⟨i + 1, hil, by go_num, by rw [HZ.out, HT.out, HF.out]; rfl⟩
              case measure => simp [intOf]; omega
        · have e : i = 64 := by omega
          subst e
          cases hzt : zeroTo 64 (fun k => f (P + k)) with
          | false =>
            have HB := Lib.hid (cnt_true (n := j) (P := midB f) (by unfold midB; rw [hP.out] at hzt; rw [hzt]; rfl))
            clear hzt
            go_wp2_with fail
            go_round
            case rel => exact ⟨j + 1, P + 64, Lib.hid (by have := hP.out; omega), by have := hP.out; omega, by go_num, by rw [HB.out]; go_num⟩
            case measure => simp [intOf]; omega
          | true =>
            have HB := Lib.hid (cnt_false (n := j) (P := midB f) (by unfold midB; rw [hP.out] at hzt; rw [hzt]; rfl))
            clear hzt
            go_wp2_with fail
            go_round
            case rel => exact ⟨j + 1, P + 64, Lib.hid (by have := hP.out; omega), by have := hP.out; omega, by go_num, by rw [HB.out]⟩
            case measure => simp [intOf]; omega
    · have e : j = 16 := by have := hP.out; omega
      subst e
      go_wp2_with fail
      go_ret
      exact ⟨rfl, rfl⟩

theorem rnodes_any (w : World) (c b off cap : Nat) (f : Nat → Int) (hr : RefAt w c b off cap f) :
    Calls Try.prog 38 #[.pointer (some ⟨c, 0, none⟩)] w fun e w' => e = .returned (.tuple #[.int .i64 (cnt 16 (midB f)), .int .i64 (cnt 128 (leafB f))]) ∧ w = w' := by
  have c0 := hr.1
  have HR := Lib.hid hr
  clear hr
  go_enter Try.func38, Try.ntmps38
  go_wp2_with (go_at_call 35; refine (rmade_true _ _ _ _ _ c0).mono ?_; rintro e w' ⟨rfl, rfl⟩)
  refine (groups64 w c b off cap f HR.out).mono ?_
  rintro e w' ⟨rfl, rfl⟩
  go_wp2_with fail
  refine (groups8 w c b off cap f HR.out).mono ?_
  rintro e w' ⟨rfl, rfl⟩
  go_wp2_with fail
  go_ret2
  exact ⟨rfl, rfl⟩
end Go.Proofs.Ythknghkiogiajaa

/-
  The law's own Same: both sides answer alike. (Printed by mkH30.py.)
-/
import Derived.Test.YtjignbbdgoadjaaH29
namespace Go.Proofs.Ytjignbbdgoadjaa
open Go.RowKit

/-- the same number comes back on both sides -/
def Both (w : World) (f g : Nat) (p q : Option Addr) (x : Int) : Prop := ∃ y : Int,
  Calls Try.prog f #[.pointer p, .int .i64 x] w (fun e w' => e = .returned (.int .i64 y) ∧ w = w') ∧
  Calls Try.prog g #[.pointer q, .int .i64 x] w (fun e w' => e = .returned (.int .i64 y) ∧ w = w')
/-- the same numbers come back on both sides -/
def BothL (w0 : World) (F : List HP) (f g : Nat) (p q : Option Addr) : Prop := ∃ l : List Int, l.length ≤ 64 ∧ ∀ w, St w0 F w →
  Calls Try.prog f #[.pointer p] w (fun e w1 => ∃ a1 c1, e = .returned (.slice a1 l.length c1) ∧
    Calls Try.prog g #[.pointer q] w1 (fun e w2 => ∃ a2 c2, e = .returned (.slice a2 l.length c2) ∧ IntsAt w2 (.slice a1 l.length c1) l ∧ IntsAt w2 (.slice a2 l.length c2) l ∧ St w0 F w2))
theorem ints_same (w0 w : World) (F : List HP) (a1 a2 : Option Addr) (c1 c2 : Nat) (l : List Int) (hl : l.length ≤ 64) (h1 : IntsAt w (.slice a1 l.length c1) l) (h2 : IntsAt w (.slice a2 l.length c2) l) (hs : St w0 F w) :
    Calls Try.prog 36 #[.slice a1 l.length c1, .slice a2 l.length c2] w fun e w' => e = .returned (.bool true) ∧ St w0 F w' := by
  refine (ints_any w a1 a2 c1 c2 l l h1 h2 (by omega)).mono ?_
  rintro e w' ⟨rfl, m, rfl⟩
  exact ⟨by rw [decide_eq_true rfl], hs.drewN m⟩

set_option maxRecDepth 10000 in
set_option maxHeartbeats 4000000 in
theorem same_of (w0 w : World) (F : List HP) (p q : Option Addr) (pg : Nat) (hpg : pg ≤ 1024) (hs : St w0 F w)
    (HC : ∀ x, Both w 22 57 p q x) (HP' : ∀ x, Both w 16 58 p q x) (HU : ∀ x, Both w 21 59 p q x)
    (HI : BothL w0 F 19 60 p q) (HB : BothL w0 F 20 61 p q) (HW : BothL w0 F 18 62 p q) :
    Calls Try.prog 34 #[.pointer p, .pointer q, .int .i64 pg] w fun e w' => e = .returned (.bool true) ∧ St w0 F w' := by
  obtain ⟨d, hd⟩ : ∃ d, d = pg / 16 := ⟨_, rfl⟩
  have HD := Lib.hid (show (pg : Int) / 16 = (d : Int) by omega)
  have HT := Lib.hid (show (pg : Int).tdiv 16 = (d : Int) by rw [Int.tdiv_eq_ediv_of_nonneg (by omega)]; omega)
  have hd64 : d ≤ 64 := by omega
  have HC := Lib.hid HC
  have HP' := Lib.hid HP'
  have HU := Lib.hid HU
  have HI := Lib.hid HI
  have HB := Lib.hid HB
  have HW := Lib.hid HW
  clear hd
  go_enter Try.func34, Try.ntmps34
  go_wp2_with fail
  go_loop [7] (fun i => ∃ k : Nat, k ≤ 6 ∧ i = .int .i64 ((k : Int) - 1)) (fun i => 7 - (intOf i + 1).toNat)
  case atStart => exact ⟨0, by omega, rfl⟩
  case round =>
    obtain ⟨k, hk, rfl⟩ := hrel
    by_cases hlt : k < 6
    · have b0 : decide ((k : Int) - 1 ≤ 4) = true := decide_eq_true (by omega)
      obtain ⟨y, C1, C2⟩ := HC.out ((k : Int) - 1)
      have C1 := Lib.hid C1
      have C2 := Lib.hid C2
      go_wp2_with fail
      refine C1.out.mono ?_
      rintro e w' ⟨rfl, rfl⟩
      go_wp2_with fail
      refine C2.out.mono ?_
      rintro e w' ⟨rfl, rfl⟩
      go_wp2_with fail
      go_round
      case rel => exact ⟨k + 1, hlt, by go_num⟩
      case measure => simp [intOf]; omega
    · have b0 : decide ((k : Int) - 1 ≤ 4) = false := decide_eq_false (by omega)
      clear hlt hk
      go_wp2_with fail
      go_loop [8] (fun i => ∃ k : Nat, k ≤ pg + 2 ∧ i = .int .i64 ((k : Int) - 1)) (fun i => pg + 3 - (intOf i + 1).toNat)
      case atStart => exact ⟨0, by omega, rfl⟩
      case round =>
        clear b0
        obtain ⟨k, hk, rfl⟩ := hrel
        by_cases hlt : k < pg + 2
        · have b0 : decide ((k : Int) - 1 ≤ (pg : Int)) = true := decide_eq_true (by omega)
          obtain ⟨y, C1, C2⟩ := HP'.out ((k : Int) - 1)
          have C1 := Lib.hid C1
          have C2 := Lib.hid C2
          go_wp2_with fail
          refine C1.out.mono ?_
          rintro e w' ⟨rfl, rfl⟩
          go_wp2_with fail
          refine C2.out.mono ?_
          rintro e w' ⟨rfl, rfl⟩
          go_wp2_with fail
          go_round
          case rel => exact ⟨k + 1, hlt, by go_num⟩
          case measure => simp [intOf]; omega
        · have b0 : decide ((k : Int) - 1 ≤ (pg : Int)) = false := decide_eq_false (by omega)
          clear hlt hk
          go_wp2_with fail
          go_loop [9] (fun i => ∃ k : Nat, k ≤ d + 2 ∧ i = .int .i64 ((k : Int) - 1)) (fun i => d + 3 - (intOf i + 1).toNat)
          case atStart => exact ⟨0, by omega, rfl⟩
          case round =>
            clear b0
            obtain ⟨k, hk, rfl⟩ := hrel
            have hD := HD.out
            have hT := HT.out
            by_cases hlt : k < d + 2
            · have b0 : decide ((k : Int) - 1 ≤ (pg : Int) / 16) = true := decide_eq_true (by omega)
              have b1 : decide ((k : Int) - 1 ≤ (pg : Int).tdiv 16) = true := decide_eq_true (by omega)
              obtain ⟨y, C1, C2⟩ := HU.out ((k : Int) - 1)
              have C1 := Lib.hid C1
              have C2 := Lib.hid C2
              clear hD hT
              go_wp2_with fail
              refine C1.out.mono ?_
              rintro e w' ⟨rfl, rfl⟩
              go_wp2_with fail
              refine C2.out.mono ?_
              rintro e w' ⟨rfl, rfl⟩
              go_wp2_with fail
              go_round
              case rel => exact ⟨k + 1, hlt, by go_num⟩
              case measure => simp [intOf]; omega
            · have b0 : decide ((k : Int) - 1 ≤ (pg : Int) / 16) = false := decide_eq_false (by omega)
              have b1 : decide ((k : Int) - 1 ≤ (pg : Int).tdiv 16) = false := decide_eq_false (by omega)
              clear hlt hk hD hT HD HT HC HP' HU
              obtain ⟨l1, hl1, I1⟩ := HI.out
              have I1 := Lib.hid (I1 w hs)
              obtain ⟨l2, hl2, I2⟩ := HB.out
              have I2 := Lib.hid I2
              obtain ⟨l3, hl3, I3⟩ := HW.out
              have I3 := Lib.hid I3
              clear HI HB HW
              go_wp2_with fail
              refine I1.out.mono ?_
              rintro e w1 ⟨a1, c1, rfl, J1⟩
              have J1 := Lib.hid J1
              go_wp2_with fail
              refine J1.out.mono ?_
              rintro e w2 ⟨a2, c2, rfl, i1, i2, s2⟩
              have E1 := Lib.hid (ints_same w0 w2 F a1 a2 c1 c2 l1 hl1 i1 i2 s2)
              clear i1 i2 s2
              go_wp2_with fail
              refine E1.out.mono ?_
              rintro e w3 ⟨rfl, s3⟩
              have I2 := Lib.hid (I2.out w3 s3)
              go_wp2_with fail
              refine I2.out.mono ?_
              rintro e w4 ⟨a3, c3, rfl, J2⟩
              have J2 := Lib.hid J2
              go_wp2_with fail
              refine J2.out.mono ?_
              rintro e w5 ⟨a4, c4, rfl, i1, i2, s5⟩
              have E2 := Lib.hid (ints_same w0 w5 F a3 a4 c3 c4 l2 hl2 i1 i2 s5)
              clear i1 i2 s5
              go_wp2_with fail
              refine E2.out.mono ?_
              rintro e w6 ⟨rfl, s6⟩
              have I3 := Lib.hid (I3.out w6 s6)
              go_wp2_with fail
              refine I3.out.mono ?_
              rintro e w7 ⟨a5, c5, rfl, J3⟩
              have J3 := Lib.hid J3
              go_wp2_with fail
              refine J3.out.mono ?_
              rintro e w8 ⟨a6, c6, rfl, i1, i2, s8⟩
              have E3 := Lib.hid (ints_same w0 w8 F a5 a6 c5 c6 l3 hl3 i1 i2 s8)
              clear i1 i2 s8
              go_wp2_with fail
              refine E3.out.mono ?_
              rintro e w9 ⟨rfl, s9⟩
              go_wp2_with fail
              go_ret
              exact ⟨rfl, s9⟩

theorem same_any (w0 w : World) (F : List HP) (c r N : Nat) (s : Nat → Int) (hN : N ≤ 64) (hN0 : 0 < N) (hok : okSt N s) (hs : St w0 (trk 61 c (16 * N) s :: trk 77 r (16 * N) s :: F) w) (pg : Nat) (hpg : pg ≤ 1024) :
    Calls Try.prog 34 #[.pointer (some ⟨c, 0, none⟩), .pointer (some ⟨r, 0, none⟩), .int .i64 pg] w fun e w' => e = .returned (.bool true) ∧ St w0 (trk 61 c (16 * N) s :: trk 77 r (16 * N) s :: F) w' := by
  obtain ⟨b1, o1, p1, h1⟩ := TrAt.of (by omega) hs
  obtain ⟨b2, o2, p2, h2⟩ := TrAt.of (by omega) (hs.front 1)
  refine same_of w0 w _ _ _ pg hpg hs ?_ ?_ ?_ ?_ ?_ ?_
  · exact fun x => ⟨_, Count_any w c b1 o1 p1 (16 * N) s (by omega) (by omega) h1 x, rCount_any w r b2 o2 p2 (16 * N) s (by omega) (by omega) h2 x⟩
  · exact fun x => ⟨_, state_any w c b1 o1 p1 (16 * N) s (by omega) h1 x, rState_any w r b2 o2 p2 (16 * N) s (by omega) h2 x⟩
  · exact fun x => ⟨_, used_any w c b1 o1 p1 N s hN hN0 h1 x, rUsed_any w r b2 o2 p2 N s hN hN0 h2 x⟩
  · refine ⟨thoseN s 0 N, Nat.le_trans (thoseN_len s 0 N) hN, fun w g => ?_⟩
    refine (idles_any w0 w _ c N s hN hN0 g).mono ?_
    rintro e w1 ⟨a1, c1, rfl, g1⟩
    refine ⟨a1, c1, rfl, ?_⟩
    refine (rIdle_any w0 w1 _ r N s hN hN0 hok (g1.pick 3 [2, 0, 1])).mono ?_
    rintro e w2 ⟨a2, c2, rfl, g2⟩
    exact ⟨a2, c2, rfl, ints_at (g2.front 2), ints_at g2, g2.pick 4 [3, 1]⟩
  · refine ⟨thoseN s 1 N, Nat.le_trans (thoseN_len s 1 N) hN, fun w g => ?_⟩
    refine (brokens_any w0 w _ c N s hN hN0 g).mono ?_
    rintro e w1 ⟨a1, c1, rfl, g1⟩
    refine ⟨a1, c1, rfl, ?_⟩
    refine (rBroken_any w0 w1 _ r N s hN hN0 hok (g1.pick 3 [2, 0, 1])).mono ?_
    rintro e w2 ⟨a2, c2, rfl, g2⟩
    exact ⟨a2, c2, rfl, ints_at (g2.front 2), ints_at g2, g2.pick 4 [3, 1]⟩
  · refine ⟨thoseN s 2 N, Nat.le_trans (thoseN_len s 2 N) hN, fun w g => ?_⟩
    refine (wholes_any w0 w _ c N s hN hN0 g).mono ?_
    rintro e w1 ⟨a1, c1, rfl, g1⟩
    refine ⟨a1, c1, rfl, ?_⟩
    refine (rWhole_any w0 w1 _ r N s hN hN0 hok (g1.pick 3 [2, 0, 1])).mono ?_
    rintro e w2 ⟨a2, c2, rfl, g2⟩
    exact ⟨a2, c2, rfl, ints_at (g2.front 2), ints_at g2, g2.pick 4 [3, 1]⟩
end Go.Proofs.Ytjignbbdgoadjaa

/-
  The statement HugeStates: its walk. (Printed by mkH22.py.)
-/
import Derived.Test.YtjignbbdgoadjaaH15
import Derived.Test.YtjignbbdgoadjaaH19
namespace Go.Proofs.Ytjignbbdgoadjaa
open Go.RowKit

/-- a huge page's counts, by states, as an array of four -/
def n4 (s : Nat → Int) (h k : Nat) (i : Nat) : Nat := cnt k fun j => s (16 * h + j) == (i : Int)
theorem n4_succ {s : Nat → Int} {h k i : Nat} (hs : s (16 * h + k) = (i : Int)) : n4 s h (k + 1) = upd (n4 s h k) i (n4 s h k i + 1) := by
  funext x
  unfold upd n4
  by_cases hx : x = i
  · subst hx
    rw [if_pos rfl, cnt_true (by rw [beq_iff_eq]; exact hs)]
  · rw [if_neg hx, cnt_false (by rw [beq_eq_false_iff_ne, hs]; omega)]
theorem n4_all (s : Nat → Int) (h i : Nat) : n4 s h 16 i = ofS s h i := rfl
theorem info38 : (Try.prog.info? 38).map (fun i => (i.zero, i.size, i.bytes)) = some (some (.agg #[.int .i64 0, .int .i64 0, .int .i64 0, .int .i64 0]), 4, 32) := by kernel_rfl
def arr4 (b : Nat) (n : Nat → Nat) : HP := HP.blk b #[.int .i64 (n 0), .int .i64 (n 1), .int .i64 (n 2), .int .i64 (n 3)] 38
theorem arr4_cell {w0 w : World} {F : List HP} {b : Nat} {n : Nat → Nat} (h : St w0 (arr4 b n :: F) w) {i : Nat} (hi : i < 4) : w.cell? ⟨b, i, none⟩ = some (.int .i64 (n i)) := by
  obtain ⟨c0, c1, c2, c3⟩ := h.cells4
  have : i = 0 ∨ i = 1 ∨ i = 2 ∨ i = 3 := by omega
  rcases this with rfl | rfl | rfl | rfl
  · exact c0
  · exact c1
  · exact c2
  · exact c3
theorem arr4_set {w0 w : World} {F : List HP} {b : Nat} {n : Nat → Nat} (h : St w0 (arr4 b n :: F) w) {i : Nat} (hi : i < 4) (v : Nat) : St w0 (arr4 b (upd n i v) :: F) (w.setCell ⟨b, i, none⟩ (.int .i64 v)) := by
  have h1 := h.set i (.int .i64 v)
  have : i = 0 ∨ i = 1 ∨ i = 2 ∨ i = 3 := by omega
  rcases this with rfl | rfl | rfl | rfl <;> exact h1
theorem kind_parts (s : Nat → Int) (h : Nat) : (isKind s 0 h = true ↔ s (16 * h) ≠ 0 ∧ ofS s h 1 = 0) ∧ (isKind s 1 h = true ↔ s (16 * h) ≠ 0 ∧ ofS s h 1 ≠ 0 ∧ ofS s h 3 ≠ 0) ∧ (isKind s 2 h = true ↔ s (16 * h) ≠ 0 ∧ ofS s h 1 ≠ 0 ∧ ofS s h 3 = 0) := by
  have hk : kindS s h = if ofS s h 1 = 0 then 0 else if 0 < ofS s h 3 then 1 else 2 := rfl
  unfold isKind
  rw [hk]
  generalize ofS s h 1 = x
  generalize ofS s h 3 = y
  by_cases hx : x = 0
  · subst hx; simp
  · by_cases hy : 0 < y
    · simp [hx, hy]; omega
    · have : y = 0 := by omega
      subst this
      simp [hx]
theorem absent_all {N : Nat} {s : Nat → Int} (hok : okSt N s) {h : Nat} (hh : h < N) : (s (16 * h) = 0 → ofS s h 0 = 16 ∧ ofS s h 1 = 0 ∧ ofS s h 3 = 0) ∧ (s (16 * h) ≠ 0 → ofS s h 0 = 0) := by
  constructor
  · intro h0
    have hz : ∀ j, j < 16 → s (16 * h + j) = 0 := fun j hj => (hok (16 * h + j) (by omega)).2.2.2 (by rw [show 16 * ((16 * h + j) / 16) = 16 * h by omega]; exact h0)
    exact ⟨cnt_all_iff.2 fun j hj => by simp [hz j hj], cnt_zero_iff.2 fun j hj => by simp [hz j hj], cnt_zero_iff.2 fun j hj => by simp [hz j hj]⟩
  · intro h0
    refine cnt_zero_iff.2 fun j hj => ?_
    rw [beq_eq_false_iff_ne]
    intro hc
    have := (hok (16 * h + j) (by omega)).2.2.1 hc
    rw [show 16 * ((16 * h + j) / 16) = 16 * h by omega] at this
    exact h0 this
theorem four_sum {s : Nat → Int} : ∀ {m : Nat}, (∀ p, p < m → 0 ≤ s p ∧ s p ≤ 3) → (cnt m fun j => s j == 0) + (cnt m fun j => s j == 1) + (cnt m fun j => s j == 2) + (cnt m fun j => s j == 3) = m
  | 0, _ => rfl
  | m + 1, h => by
    have ih := four_sum (s := s) (m := m) fun p hp => h p (by omega)
    have hm := h m (by omega)
    have hv : s m = 0 ∨ s m = 1 ∨ s m = 2 ∨ s m = 3 := by omega
    have e : ∀ v : Int, cnt (m + 1) (fun j => s j == v) = (cnt m fun j => s j == v) + if (s m == v) = true then 1 else 0 := fun _ => rfl
    rw [e 0, e 1, e 2, e 3]
    rcases hv with hv | hv | hv | hv <;> rw [hv] <;> simp <;> omega
theorem idles_z (w0 w : World) (B : HP) (F : List HP) (c N : Nat) (s : Nat → Int) (hN : N ≤ 64) (hN0 : 0 < N) (hs : St w0 (B :: trk 61 c (16 * N) s :: F) w) :
    Calls Try.prog 19 #[.pointer (some ⟨c, 0, none⟩)] w fun e w' => ∃ a cap, e = .returned (.slice a (thoseN s 0 N).length cap) ∧ IntsAt w' (.slice a (thoseN s 0 N).length cap) (thoseN s 0 N) ∧ St w0 (B :: trk 61 c (16 * N) s :: F) w' := by
  refine (idles_any w0 w _ c N s hN hN0 hs.swap).mono ?_
  rintro e w' ⟨a, cap, rfl, h⟩
  exact ⟨a, cap, rfl, ints_at h, h.pick 3 [2, 1]⟩
theorem brokens_z (w0 w : World) (B : HP) (F : List HP) (c N : Nat) (s : Nat → Int) (hN : N ≤ 64) (hN0 : 0 < N) (hs : St w0 (B :: trk 61 c (16 * N) s :: F) w) :
    Calls Try.prog 20 #[.pointer (some ⟨c, 0, none⟩)] w fun e w' => ∃ a cap, e = .returned (.slice a (thoseN s 1 N).length cap) ∧ IntsAt w' (.slice a (thoseN s 1 N).length cap) (thoseN s 1 N) ∧ St w0 (B :: trk 61 c (16 * N) s :: F) w' := by
  refine (brokens_any w0 w _ c N s hN hN0 hs.swap).mono ?_
  rintro e w' ⟨a, cap, rfl, h⟩
  exact ⟨a, cap, rfl, ints_at h, h.pick 3 [2, 1]⟩
theorem wholes_z (w0 w : World) (B : HP) (F : List HP) (c N : Nat) (s : Nat → Int) (hN : N ≤ 64) (hN0 : 0 < N) (hs : St w0 (B :: trk 61 c (16 * N) s :: F) w) :
    Calls Try.prog 18 #[.pointer (some ⟨c, 0, none⟩)] w fun e w' => ∃ a cap, e = .returned (.slice a (thoseN s 2 N).length cap) ∧ IntsAt w' (.slice a (thoseN s 2 N).length cap) (thoseN s 2 N) ∧ St w0 (B :: trk 61 c (16 * N) s :: F) w' := by
  refine (wholes_any w0 w _ c N s hN hN0 hs.swap).mono ?_
  rintro e w' ⟨a, cap, rfl, h⟩
  exact ⟨a, cap, rfl, ints_at h, h.pick 3 [2, 1]⟩
theorem has_kind (w : World) (s : Nat → Int) (i : Int) (N : Nat) (hN : N ≤ 64) (a : Option Addr) (cap : Nat) (hl : IntsAt w (.slice a (thoseN s i N).length cap) (thoseN s i N)) (h : Nat) (hh : h < N) :
    Calls Try.prog 17 #[.slice a (thoseN s i N).length cap, .int .i64 h] w fun e w' => e = .returned (.bool (isKind s i h)) ∧ w = w' := by
  have h1 := has_any w a cap (thoseN s i N) hl (by have := thoseN_len s i N; omega) h
  have e : decide ((h : Int) ∈ thoseN s i N) = isKind s i h := by
    rw [Bool.eq_iff_iff, decide_eq_true_eq, thoseN_mem]
    exact ⟨fun h => h.2, fun h => ⟨hh, h⟩⟩
  rw [e] at h1
  exact h1
theorem states_end {w0 w : World} {A B : HP} {F : List HP} (h : St w0 (A :: B :: F) w) : St w0 (B :: F) w := h.drop

set_option maxRecDepth 10000 in
set_option maxHeartbeats 8000000 in
theorem states_walk (m : Nat) (hm : m < 256) (a : Option Addr) (cap : Nat) (acts : List ActV) (w : World) (h : ActsAt w (.slice a acts.length cap) acts) (hn : acts.length ≤ 9223372036854775807) :
    Calls Try.prog 4 #[.int .u8 m, .slice a acts.length cap] w fun e w' => e = .returned (.bool true) ∧ Below w.heap.size w w' := by
  have H := Lib.hid h
  clear h
  by_cases hg : 40 < acts.length
  · have HG := Lib.hid (decide_eq_true hg)
    clear hg
    go_enter Try.func4, Try.ntmps4
    go_wp2_with fail
    refine (great_any _ a _ cap hn).mono ?_
    rintro e w' ⟨rfl, rfl⟩
    rw [HG.out]
    go_wp2_with fail
    refine (alive_any w _ _ (St.start w)).mono ?_
    rintro e w' ⟨rfl, hs⟩
    go_wp2_with fail
    go_ret
    exact ⟨rfl, hs.below⟩
  have hn60 : acts.length ≤ 60 := by omega
  have HG := Lib.hid (decide_eq_false hg)
  clear hg
  have hN0 : 0 < sizeN m := by unfold sizeN; omega
  have hN8 : sizeN m ≤ 8 := by unfold sizeN; omega
  have hN : sizeN m ≤ 64 := by omega
  have HOKS := Lib.hid (okSt_acts acts (okSt_zero (sizeN m)))
  have HM := Lib.hid (show (m : Int) % 8 = (sizeN m : Int) - 1 by unfold sizeN; omega)
  go_enter Try.func4, Try.ntmps4
  go_wp2_with fail
  refine (great_any _ a _ cap hn).mono ?_
  rintro e w' ⟨rfl, rfl⟩
  rw [HG.out]
  go_wp2_with fail
  refine (made_any w _ _ (St.start w) m hm a cap acts H.out hn60).mono ?_
  rintro e w1 ⟨c, rfl, h1⟩
  generalize actsF (sizeN m) (fun _ => 0) acts = s at *
  generalize sizeN m = N at *
  obtain ⟨i38, hi38, hz38, hs38, hb38⟩ := info_parts info38
  go_wp2_with fail
  go_loopw [6] (fun i wr => ∃ h : Nat, h ≤ N ∧ i = .int .i64 h ∧ St w (trk 61 c (16 * N) s :: []) wr) (fun i _ => N - (intOf i).toNat)
  case atStart => exact ⟨0, by omega, rfl, h1⟩
  case round =>
    clear h1
    obtain ⟨h, hh, rfl, hs1⟩ := hrel
    by_cases hlt : h < N
    · have dh : decide ((h : Int) ≤ (m : Int) % 8) = true := decide_eq_true (by rw [HM.out]; omega)
      have ha := hs1.allocRow #[.int .i64 0, .int .i64 0, .int .i64 0, .int .i64 0] 38
      have ha2 : St w (arr4 wr.heap.size (n4 s h 0) :: trk 61 c (16 * N) s :: []) _ := ha
      clear ha hs1
      go_wp2_with fail
      generalize wr.heap.size = tb at *
      go_loopw [8] (fun p' wr => ∃ j : Nat, j ≤ 16 ∧ p' = .int .i64 ((16 * h + j : Nat) : Int) ∧ St w (arr4 tb (n4 s h j) :: trk 61 c (16 * N) s :: []) wr) (fun p' _ => 16 * h + 16 - (intOf p').toNat)
      case atStart => exact ⟨0, by omega, by rw [show ((16 * h + 0 : Nat) : Int) = (h : Int) * 16 by omega], ha2⟩
      case round =>
        clear ha2
        obtain ⟨j, hj, rfl, hs1⟩ := hrel
        by_cases hjl : j < 16
        · have dj : decide (((16 * h + j : Nat) : Int) < ((h : Int) + 1) * 16) = true := decide_eq_true (by omega)
          have hpq := HOKS.out (16 * h + j) (by omega)
          obtain ⟨i, hi4, hsi⟩ : ∃ i : Nat, i < 4 ∧ s (16 * h + j) = i := ⟨(s (16 * h + j)).toNat, by omega, by omega⟩
          obtain ⟨tb1, to1, tp1, ht1⟩ := TrAt.of (by omega) (hs1.front 1)
          have H1 := state_any _ c tb1 to1 tp1 (16 * N) _ (by omega) ht1 ((16 * h + j : Nat) : Int)
          have hst : stateV (16 * N) s ((16 * h + j : Nat) : Int) = i := by
            unfold stateV
            rw [if_pos (by omega), Int.toNat_natCast, hsi]
          rw [hst] at H1
          have HS1 := Lib.hid H1
          have cc := arr4_cell hs1 hi4
          have hset := arr4_set hs1 hi4 (n4 s h j i + 1)
          rw [← n4_succ hsi] at hset
          have hfz := hs1.frozen i
          have ln : n4 s h j i ≤ j := cnt_le _ _
          have li0 : (0 : Int) ≤ (i : Int) := by omega
          have li1 : (i : Int) < 4 := by omega
          have d1 : decide ((i : Int) < 0) = false := decide_eq_false (by omega)
          have d2 : decide ((3 : Int) < (i : Int)) = false := decide_eq_false (by omega)
          have hcast : ((n4 s h j i + 1 : Nat) : Int) = (n4 s h j i : Int) + 1 := by omega
          rw [hcast] at hset
          clear ht1 H1 hst hs1 hpq hcast
          generalize n4 s h j i = x at *
          go_wp2_with fail
          refine HS1.out.mono ?_
          rintro e w' ⟨rfl, rfl⟩
          go_wp2_with fail
          go_roundw
          case rel => exact ⟨j + 1, hjl, by go_num, hset⟩
          case measure => simp [intOf]; omega
        · have dj : decide (((16 * h + j : Nat) : Int) < ((h : Int) + 1) * 16) = false := decide_eq_false (by omega)
          have ej : n4 s h j = fun i : Nat => ofS s h i := by
            have : j = 16 := by omega
            subst this
            funext i
            exact n4_all s h i
          rw [ej] at hs1
          have h5 : St w (HP.blk tb #[.int .i64 (ofS s h 0), .int .i64 (ofS s h 1), .int .i64 (ofS s h 2), .int .i64 (ofS s h 3)] 38 :: trk 61 c (16 * N) s :: []) _ := hs1
          obtain ⟨k0, k1, k2⟩ := kind_parts s h
          obtain ⟨ab1, ab2⟩ := absent_all HOKS.out hlt
          have UV : Hid (usedV N s (h : Int) = (ofS s h 1 : Nat)) := Lib.hid (by
            unfold usedV
            rw [if_pos (show inH N (h : Int) from ⟨by omega, by omega⟩), Int.toNat_natCast])
          clear ej hs1
          by_cases hz : s (16 * h) = 0
          · obtain ⟨z0, z1, z3⟩ := ab1 hz
            have HK0 : Hid (isKind s 0 h = false) := Lib.hid (by rw [← Bool.not_eq_true, k0]; exact fun hc => hc.1 hz)
            have HK1 : Hid (isKind s 1 h = false) := Lib.hid (by rw [← Bool.not_eq_true, k1]; exact fun hc => hc.1 hz)
            have HK2 : Hid (isKind s 2 h = false) := Lib.hid (by rw [← Bool.not_eq_true, k2]; exact fun hc => hc.1 hz)
            rw [z0, z1, z3] at h5
            rw [z1] at UV
            generalize ofS s h 2 = x2 at *
            clear k0 k1 k2 ab1 ab2 z0 z1 z3 hz
            go_wp2_with fail
            refine (idles_z w _ _ [] c N s hN hN0 h5).mono ?_
            rintro e w6 ⟨a6, p6, rfl, i6, h6⟩
            go_wp2_with fail
            refine (has_kind w6 s 0 N hN a6 p6 i6 h hlt).mono ?_
            rintro e w' ⟨rfl, rfl⟩
            rw [HK0.out]
            obtain ⟨c0, c1, c2, c3⟩ := h6.cells4
            go_wp2_with fail
            refine (brokens_z w _ _ [] c N s hN hN0 h6).mono ?_
            rintro e w7 ⟨a7, p7, rfl, i7, h7⟩
            clear c0 c1 c2 c3
            obtain ⟨c0, c1, c2, c3⟩ := h7.cells4
            go_wp2_with fail
            refine (has_kind w7 s 1 N hN a7 p7 i7 h hlt).mono ?_
            rintro e w' ⟨rfl, rfl⟩
            rw [HK1.out]
            go_wp2_with fail
            refine (wholes_z w _ _ [] c N s hN hN0 h7).mono ?_
            rintro e w8 ⟨a8, p8, rfl, i8, h8⟩
            clear c0 c1 c2 c3
            obtain ⟨c0, c1, c2, c3⟩ := h8.cells4
            go_wp2_with fail
            refine (has_kind w8 s 2 N hN a8 p8 i8 h hlt).mono ?_
            rintro e w' ⟨rfl, rfl⟩
            rw [HK2.out]
            obtain ⟨tb1, to1, tp1, ht1⟩ := TrAt.of (by omega) (h8.front 1)
            have HU := Lib.hid fun q => used_any (w8.drewN q) c tb1 to1 tp1 N s hN hN0 (ht1.drewN q) h
            rw [UV.out] at HU
            have h9 := fun q => (h8.pick 2 [1]).drewN q
            clear ht1 i6 i7 i8 h6 h7 h8 h5
            go_wp2_with fail
            go_quiet (exact quiet_same (HU.out _))
            go_wp2_with fail
            go_roundw
            case rel => exact ⟨h + 1, hlt, by go_num, h9 nq⟩
            case measure => simp [intOf]; omega
          · have z0 := ab2 hz
            rw [z0] at h5
            by_cases h1 : ofS s h 1 = 0
            · have HK0 : Hid (isKind s 0 h = true) := Lib.hid (k0.2 ⟨hz, h1⟩)
              have HK1 : Hid (isKind s 1 h = false) := Lib.hid (by rw [← Bool.not_eq_true, k1]; exact fun hc => hc.2.1 h1)
              have HK2 : Hid (isKind s 2 h = false) := Lib.hid (by rw [← Bool.not_eq_true, k2]; exact fun hc => hc.2.1 h1)
              rw [h1] at h5 UV
              generalize ofS s h 2 = x2 at *
              generalize ofS s h 3 = x3 at *
              clear k0 k1 k2 ab1 ab2 z0 h1 hz
              go_wp2_with fail
              refine (idles_z w _ _ [] c N s hN hN0 h5).mono ?_
              rintro e w6 ⟨a6, p6, rfl, i6, h6⟩
              go_wp2_with fail
              refine (has_kind w6 s 0 N hN a6 p6 i6 h hlt).mono ?_
              rintro e w' ⟨rfl, rfl⟩
              rw [HK0.out]
              obtain ⟨c0, c1, c2, c3⟩ := h6.cells4
              go_wp2_with fail
              refine (brokens_z w _ _ [] c N s hN hN0 h6).mono ?_
              rintro e w7 ⟨a7, p7, rfl, i7, h7⟩
              clear c0 c1 c2 c3
              obtain ⟨c0, c1, c2, c3⟩ := h7.cells4
              go_wp2_with fail
              refine (has_kind w7 s 1 N hN a7 p7 i7 h hlt).mono ?_
              rintro e w' ⟨rfl, rfl⟩
              rw [HK1.out]
              go_wp2_with fail
              refine (wholes_z w _ _ [] c N s hN hN0 h7).mono ?_
              rintro e w8 ⟨a8, p8, rfl, i8, h8⟩
              clear c0 c1 c2 c3
              obtain ⟨c0, c1, c2, c3⟩ := h8.cells4
              go_wp2_with fail
              refine (has_kind w8 s 2 N hN a8 p8 i8 h hlt).mono ?_
              rintro e w' ⟨rfl, rfl⟩
              rw [HK2.out]
              obtain ⟨tb1, to1, tp1, ht1⟩ := TrAt.of (by omega) (h8.front 1)
              have HU := Lib.hid fun q => used_any (w8.drewN q) c tb1 to1 tp1 N s hN hN0 (ht1.drewN q) h
              rw [UV.out] at HU
              have h9 := fun q => (h8.pick 2 [1]).drewN q
              clear ht1 i6 i7 i8 h6 h7 h8 h5
              go_wp2_with fail
              go_quiet (exact quiet_same (HU.out _))
              go_wp2_with fail
              go_roundw
              case rel => exact ⟨h + 1, hlt, by go_num, h9 nq⟩
              case measure => simp [intOf]; omega
            · have q1 : (((ofS s h 1 : Nat) : Int) == 0) = false := by rw [beq_eq_false_iff_ne]; omega
              by_cases h3 : ofS s h 3 = 0
              · have HK0 : Hid (isKind s 0 h = false) := Lib.hid (by rw [← Bool.not_eq_true, k0]; exact fun hc => h1 hc.2)
                have HK1 : Hid (isKind s 1 h = false) := Lib.hid (by rw [← Bool.not_eq_true, k1]; exact fun hc => hc.2.2 h3)
                have HK2 : Hid (isKind s 2 h = true) := Lib.hid (k2.2 ⟨hz, h1, h3⟩)
                rw [h3] at h5
                generalize ofS s h 1 = x1 at *
                generalize ofS s h 2 = x2 at *
                clear k0 k1 k2 ab1 ab2 z0 h3 hz
                go_wp2_with fail
                refine (idles_z w _ _ [] c N s hN hN0 h5).mono ?_
                rintro e w6 ⟨a6, p6, rfl, i6, h6⟩
                go_wp2_with fail
                refine (has_kind w6 s 0 N hN a6 p6 i6 h hlt).mono ?_
                rintro e w' ⟨rfl, rfl⟩
                rw [HK0.out]
                obtain ⟨c0, c1, c2, c3⟩ := h6.cells4
                go_wp2_with fail
                refine (brokens_z w _ _ [] c N s hN hN0 h6).mono ?_
                rintro e w7 ⟨a7, p7, rfl, i7, h7⟩
                clear c0 c1 c2 c3
                obtain ⟨c0, c1, c2, c3⟩ := h7.cells4
                go_wp2_with fail
                refine (has_kind w7 s 1 N hN a7 p7 i7 h hlt).mono ?_
                rintro e w' ⟨rfl, rfl⟩
                rw [HK1.out]
                go_wp2_with fail
                refine (wholes_z w _ _ [] c N s hN hN0 h7).mono ?_
                rintro e w8 ⟨a8, p8, rfl, i8, h8⟩
                clear c0 c1 c2 c3
                obtain ⟨c0, c1, c2, c3⟩ := h8.cells4
                go_wp2_with fail
                refine (has_kind w8 s 2 N hN a8 p8 i8 h hlt).mono ?_
                rintro e w' ⟨rfl, rfl⟩
                rw [HK2.out]
                obtain ⟨tb1, to1, tp1, ht1⟩ := TrAt.of (by omega) (h8.front 1)
                have HU := Lib.hid fun q => used_any (w8.drewN q) c tb1 to1 tp1 N s hN hN0 (ht1.drewN q) h
                rw [UV.out] at HU
                have h9 := fun q => (h8.pick 2 [1]).drewN q
                clear ht1 i6 i7 i8 h6 h7 h8 h5
                go_wp2_with fail
                go_quiet (exact quiet_same (HU.out _))
                go_wp2_with fail
                go_roundw
                case rel => exact ⟨h + 1, hlt, by go_num, h9 nq⟩
                case measure => simp [intOf]; omega
              · have q3 : (((ofS s h 3 : Nat) : Int) == 0) = false := by rw [beq_eq_false_iff_ne]; omega
                have HK0 : Hid (isKind s 0 h = false) := Lib.hid (by rw [← Bool.not_eq_true, k0]; exact fun hc => h1 hc.2)
                have HK1 : Hid (isKind s 1 h = true) := Lib.hid (k1.2 ⟨hz, h1, h3⟩)
                have HK2 : Hid (isKind s 2 h = false) := Lib.hid (by rw [← Bool.not_eq_true, k2]; exact fun hc => h3 hc.2.2)
                generalize ofS s h 1 = x1 at *
                generalize ofS s h 2 = x2 at *
                generalize ofS s h 3 = x3 at *
                clear k0 k1 k2 ab1 ab2 z0 hz
                go_wp2_with fail
                refine (idles_z w _ _ [] c N s hN hN0 h5).mono ?_
                rintro e w6 ⟨a6, p6, rfl, i6, h6⟩
                go_wp2_with fail
                refine (has_kind w6 s 0 N hN a6 p6 i6 h hlt).mono ?_
                rintro e w' ⟨rfl, rfl⟩
                rw [HK0.out]
                obtain ⟨c0, c1, c2, c3⟩ := h6.cells4
                go_wp2_with fail
                refine (brokens_z w _ _ [] c N s hN hN0 h6).mono ?_
                rintro e w7 ⟨a7, p7, rfl, i7, h7⟩
                clear c0 c1 c2 c3
                obtain ⟨c0, c1, c2, c3⟩ := h7.cells4
                go_wp2_with fail
                refine (has_kind w7 s 1 N hN a7 p7 i7 h hlt).mono ?_
                rintro e w' ⟨rfl, rfl⟩
                rw [HK1.out]
                go_wp2_with fail
                refine (wholes_z w _ _ [] c N s hN hN0 h7).mono ?_
                rintro e w8 ⟨a8, p8, rfl, i8, h8⟩
                clear c0 c1 c2 c3
                obtain ⟨c0, c1, c2, c3⟩ := h8.cells4
                go_wp2_with fail
                refine (has_kind w8 s 2 N hN a8 p8 i8 h hlt).mono ?_
                rintro e w' ⟨rfl, rfl⟩
                rw [HK2.out]
                obtain ⟨tb1, to1, tp1, ht1⟩ := TrAt.of (by omega) (h8.front 1)
                have HU := Lib.hid fun q => used_any (w8.drewN q) c tb1 to1 tp1 N s hN hN0 (ht1.drewN q) h
                rw [UV.out] at HU
                have h9 := fun q => (h8.pick 2 [1]).drewN q
                clear ht1 i6 i7 i8 h6 h7 h8 h5
                go_wp2_with fail
                go_quiet (exact quiet_same (HU.out _))
                go_wp2_with fail
                go_roundw
                case rel => exact ⟨h + 1, hlt, by go_num, h9 nq⟩
                case measure => simp [intOf]; omega
    · have dh : decide ((h : Int) ≤ (m : Int) % 8) = false := decide_eq_false (by rw [HM.out]; omega)
      obtain ⟨tb1, to1, tp1, ht1⟩ := TrAt.of (by omega) hs1
      have HC := Lib.hid fun st => Count_any wr c tb1 to1 tp1 (16 * N) s (by omega) (by omega) ht1 st
      have hsum := four_sum (s := s) (m := 16 * N) fun p hp => ⟨(HOKS.out p hp).1, (HOKS.out p hp).2.1⟩
      have G0 := Lib.hid (HC.out 0)
      have G1 := Lib.hid (HC.out 1)
      have G2 := Lib.hid (HC.out 2)
      have G3 := Lib.hid (HC.out 3)
      clear ht1 HC
      generalize (cnt (16 * N) fun j => s j == 0) = y0 at *
      generalize (cnt (16 * N) fun j => s j == 1) = y1 at *
      generalize (cnt (16 * N) fun j => s j == 2) = y2 at *
      generalize (cnt (16 * N) fun j => s j == 3) = y3 at *
      have hq : ((y0 : Int) + (y1 : Int) + (y2 : Int) + (y3 : Int) == ((m : Int) % 8 + 1) * 16) = true := by rw [beq_iff_eq, HM.out]; omega
      go_wp2_with fail
      refine G0.out.mono ?_
      rintro e w' ⟨rfl, rfl⟩
      go_wp2_with fail
      refine G1.out.mono ?_
      rintro e w' ⟨rfl, rfl⟩
      go_wp2_with fail
      refine G2.out.mono ?_
      rintro e w' ⟨rfl, rfl⟩
      go_wp2_with fail
      refine G3.out.mono ?_
      rintro e w' ⟨rfl, rfl⟩
      go_wp2_with fail
      refine (alive_any w _ _ hs1).mono ?_
      rintro e w' ⟨rfl, hs⟩
      go_wp2_with fail
      go_ret
      exact ⟨rfl, hs.below⟩
theorem states_row (m : Int) (hw : (Lit.int .u8 m).wf = true) (a : Option Addr) (cap : Nat) (acts : List ActV) (w : World) (h : ActsAt w (.slice a acts.length cap) acts) (hn : acts.length ≤ 9223372036854775807) :
    Calls Try.prog 4 #[.int .u8 m, .slice a acts.length cap] w fun e w' => e = .returned (.bool true) ∧ Below w.heap.size w w' := by
  obtain ⟨k, hk, rfl⟩ := u8_nat hw
  exact states_walk k hk a cap acts w h hn
end Go.Proofs.Ytjignbbdgoadjaa

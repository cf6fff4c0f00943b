/-
  The reference's tracker: of nil; Count, State, Used, Idle, Broken, Whole. (Printed by mkH25.py.)
-/
import Derived.Test.YtjignbbdgoadjaaH24
namespace Go.Proofs.Ytjignbbdgoadjaa
open Go.RowKit

theorem rAdd_nil (w : World) (h : Int) : Calls Try.prog 51 #[.pointer none, .int .i64 h] w fun e w' => e = .returned (.int .i64 5) ∧ w = w' := by
  go_enter Try.func51, Try.ntmps51
  go_wp2_with (go_at_call 50; refine (rmade_nil _).mono ?_; rintro e w' ⟨rfl, rfl⟩)
  go_ret
  exact ⟨rfl, rfl⟩
theorem rRemove_nil (w : World) (h : Int) : Calls Try.prog 52 #[.pointer none, .int .i64 h] w fun e w' => e = .returned (.int .i64 5) ∧ w = w' := by
  go_enter Try.func52, Try.ntmps52
  go_wp2_with (go_at_call 50; refine (rmade_nil _).mono ?_; rintro e w' ⟨rfl, rfl⟩)
  go_ret
  exact ⟨rfl, rfl⟩
theorem rturn_nil (w : World) (a n x y v : Int) : Calls Try.prog 73 #[.pointer none, .int .i64 a, .int .i64 n, .int .i64 x, .int .i64 y, .int .i64 v] w fun e w' => e = .returned (.int .i64 5) ∧ w = w' := by
  go_enter Try.func73, Try.ntmps73
  go_wp2_with (go_at_call 50; refine (rmade_nil _).mono ?_; rintro e w' ⟨rfl, rfl⟩)
  go_ret
  exact ⟨rfl, rfl⟩
theorem rUse_nil (w : World) (a n : Int) : Calls Try.prog 53 #[.pointer none, .int .i64 a, .int .i64 n] w fun e w' => e = .returned (.int .i64 5) ∧ w = w' := by
  go_enter Try.func53, Try.ntmps53
  go_wp2_with (go_at_call 73; refine (rturn_nil _ _ _ _ _ _).mono ?_; rintro e w' ⟨rfl, rfl⟩)
  go_ret
  exact ⟨rfl, rfl⟩
theorem rUnuse_nil (w : World) (a n : Int) : Calls Try.prog 54 #[.pointer none, .int .i64 a, .int .i64 n] w fun e w' => e = .returned (.int .i64 5) ∧ w = w' := by
  go_enter Try.func54, Try.ntmps54
  go_wp2_with (go_at_call 73; refine (rturn_nil _ _ _ _ _ _).mono ?_; rintro e w' ⟨rfl, rfl⟩)
  go_ret
  exact ⟨rfl, rfl⟩
theorem rRelease_nil (w : World) (a n : Int) : Calls Try.prog 55 #[.pointer none, .int .i64 a, .int .i64 n] w fun e w' => e = .returned (.int .i64 5) ∧ w = w' := by
  go_enter Try.func55, Try.ntmps55
  go_wp2_with (go_at_call 73; refine (rturn_nil _ _ _ _ _ _).mono ?_; rintro e w' ⟨rfl, rfl⟩)
  go_ret
  exact ⟨rfl, rfl⟩
theorem rPlan_nil (w : World) (h : Int) : Calls Try.prog 56 #[.pointer none, .int .i64 h] w fun e w' => e = .returned (.tuple #[.slice none 0 0, .int .i64 5]) ∧ w = w' := by
  go_enter Try.func56, Try.ntmps56
  go_wp2_with (go_at_call 50; refine (rmade_nil _).mono ?_; rintro e w' ⟨rfl, rfl⟩)
  go_ret2
  exact ⟨rfl, rfl⟩
theorem rCount_nil (w : World) (h : Int) : Calls Try.prog 57 #[.pointer none, .int .i64 h] w fun e w' => e = .returned (.int .i64 0) ∧ w = w' := by
  go_enter Try.func57, Try.ntmps57
  go_wp2_with (go_at_call 50; refine (rmade_nil _).mono ?_; rintro e w' ⟨rfl, rfl⟩)
  go_ret
  exact ⟨rfl, rfl⟩
theorem rState_nil (w : World) (h : Int) : Calls Try.prog 58 #[.pointer none, .int .i64 h] w fun e w' => e = .returned (.int .i64 (-1)) ∧ w = w' := by
  go_enter Try.func58, Try.ntmps58
  go_wp2_with (go_at_call 50; refine (rmade_nil _).mono ?_; rintro e w' ⟨rfl, rfl⟩)
  go_ret
  exact ⟨rfl, rfl⟩
theorem rUsed_nil (w : World) (h : Int) : Calls Try.prog 59 #[.pointer none, .int .i64 h] w fun e w' => e = .returned (.int .i64 0) ∧ w = w' := by
  go_enter Try.func59, Try.ntmps59
  go_wp2_with (go_at_call 50; refine (rmade_nil _).mono ?_; rintro e w' ⟨rfl, rfl⟩)
  go_ret
  exact ⟨rfl, rfl⟩
theorem rkinds_nil (w : World) (h : Int) : Calls Try.prog 76 #[.pointer none, .int .i64 h] w fun e w' => e = .returned (.slice none 0 0) ∧ w = w' := by
  go_enter Try.func76, Try.ntmps76
  go_wp2_with (go_at_call 50; refine (rmade_nil _).mono ?_; rintro e w' ⟨rfl, rfl⟩)
  go_ret
  exact ⟨rfl, rfl⟩
theorem rIdle_nil (w : World) : Calls Try.prog 60 #[.pointer none] w fun e w' => e = .returned (.slice none 0 0) ∧ w = w' := by
  go_enter Try.func60, Try.ntmps60
  go_wp2_with (go_at_call 76; refine (rkinds_nil _ _).mono ?_; rintro e w' ⟨rfl, rfl⟩)
  go_ret
  exact ⟨rfl, rfl⟩
theorem rBroken_nil (w : World) : Calls Try.prog 61 #[.pointer none] w fun e w' => e = .returned (.slice none 0 0) ∧ w = w' := by
  go_enter Try.func61, Try.ntmps61
  go_wp2_with (go_at_call 76; refine (rkinds_nil _ _).mono ?_; rintro e w' ⟨rfl, rfl⟩)
  go_ret
  exact ⟨rfl, rfl⟩
theorem rWhole_nil (w : World) : Calls Try.prog 62 #[.pointer none] w fun e w' => e = .returned (.slice none 0 0) ∧ w = w' := by
  go_enter Try.func62, Try.ntmps62
  go_wp2_with (go_at_call 76; refine (rkinds_nil _ _).mono ?_; rintro e w' ⟨rfl, rfl⟩)
  go_ret
  exact ⟨rfl, rfl⟩
theorem rClone_nil (w : World) : Calls Try.prog 32 #[.pointer none] w fun e w' => e = .returned (.pointer none) ∧ w = w' := by
  go_enter Try.func32, Try.ntmps32
  go_wp2_with (go_at_call 50; refine (rmade_nil _).mono ?_; rintro e w' ⟨rfl, rfl⟩)
  go_ret
  exact ⟨rfl, rfl⟩

theorem rCount_any (w : World) (c b off cap m : Nat) (s : Nat → Int) (hm : 0 < m) (hm2 : m ≤ 1024) (ht : TrAt w c b off cap m s) (st : Int) :
    Calls Try.prog 57 #[.pointer (some ⟨c, 0, none⟩), .int .i64 st] w fun e w' => e = .returned (.int .i64 (cnt m fun j => s j == st)) ∧ w = w' := by
  obtain ⟨c0, _, hr⟩ := ht
  have HR := Lib.hid hr
  clear hr
  go_enter Try.func57, Try.ntmps57
  go_wp2_with (go_at_call 50; refine (rmade_true _ _ _ _ _ _ hm c0).mono ?_; rintro e w' ⟨rfl, rfl⟩)
  go_loop [5, 6] (fun k i => ∃ j : Nat, j ≤ m ∧ i = .int .i64 j ∧ k = .int .i64 (cnt j fun j => s j == st)) (fun _ i => m - (intOf i).toNat)
  case atStart => exact ⟨0, Nat.zero_le _, rfl, rfl⟩
  case round =>
    obtain ⟨j, hj, rfl, rfl⟩ := hrel
    have l1 := cnt_le j fun j => s j == st
    by_cases hlt : j < m
    · have c1 := HR.out j hlt
      cases hg : s j == st with
      | true =>
        have E := Lib.hid (cnt_true (n := j) (P := fun j => s j == st) hg)
        go_wp2_with fail
        go_round
        case rel => exact ⟨j + 1, hlt, by go_num, by rw [E.out]; go_num⟩
        case measure => simp [intOf]; omega
      | false =>
        have E := Lib.hid (cnt_false (n := j) (P := fun j => s j == st) hg)
        go_wp2_with fail
        go_round
        case rel => exact ⟨j + 1, hlt, by go_num, by rw [E.out]⟩
        case measure => simp [intOf]; omega
    · have e : j = m := by omega
      subst e
      go_wp2_with fail
      go_ret
      exact ⟨rfl, rfl⟩
theorem rState_in (w : World) (c b off cap m : Nat) (s : Nat → Int) (ht : TrAt w c b off cap m s) (p : Nat) (hp : p < m) :
    Calls Try.prog 58 #[.pointer (some ⟨c, 0, none⟩), .int .i64 p] w fun e w' => e = .returned (.int .i64 (s p)) ∧ w = w' := by
  obtain ⟨c0, hcap, hr⟩ := ht
  have c1 := hr p hp
  clear hr
  have b0 : decide ((p : Int) < 0) = false := by simp
  have b1 : decide ((m : Int) ≤ (p : Int)) = false := decide_eq_false (by omega)
  go_enter Try.func58, Try.ntmps58
  go_wp2_with (go_at_call 50; refine (rmade_true _ _ _ _ _ _ (by omega) c0).mono ?_; rintro e w' ⟨rfl, rfl⟩)
  go_ret
  exact ⟨rfl, rfl⟩
theorem rState_any (w : World) (c b off cap m : Nat) (s : Nat → Int) (hm : 0 < m) (ht : TrAt w c b off cap m s) (p : Int) :
    Calls Try.prog 58 #[.pointer (some ⟨c, 0, none⟩), .int .i64 p] w fun e w' => e = .returned (.int .i64 (stateV m s p)) ∧ w = w' := by
  unfold stateV
  have c0 := ht.1
  by_cases h0 : p < 0
  · rw [if_neg (by omega)]
    have b0 : decide (p < 0) = true := decide_eq_true h0
    clear ht
    go_enter Try.func58, Try.ntmps58
    go_wp2_with (go_at_call 50; refine (rmade_true _ _ _ _ _ _ hm c0).mono ?_; rintro e w' ⟨rfl, rfl⟩)
    go_ret
    exact ⟨rfl, rfl⟩
  by_cases h1 : (m : Int) ≤ p
  · rw [if_neg (by omega)]
    have b0 : decide (p < 0) = false := decide_eq_false h0
    have b1 : decide ((m : Int) ≤ p) = true := decide_eq_true h1
    clear ht
    go_enter Try.func58, Try.ntmps58
    go_wp2_with (go_at_call 50; refine (rmade_true _ _ _ _ _ _ hm c0).mono ?_; rintro e w' ⟨rfl, rfl⟩)
    go_ret
    exact ⟨rfl, rfl⟩
  rw [if_pos (by omega)]
  have e : p = ((p.toNat : Nat) : Int) := by omega
  have h := rState_in w c b off cap m s ht p.toNat (by omega)
  rw [← e] at h
  exact h
theorem rUsed_any (w : World) (c b off cap N : Nat) (s : Nat → Int) (hN : N ≤ 64) (hN0 : 0 < N) (ht : TrAt w c b off cap (16 * N) s) (h : Int) :
    Calls Try.prog 59 #[.pointer (some ⟨c, 0, none⟩), .int .i64 h] w fun e w' => e = .returned (.int .i64 (usedV N s h)) ∧ w = w' := by
  unfold usedV
  have c0 := ht.1
  have HT := Lib.hid (rthere_any w c b off cap N c0 hN h)
  by_cases hh : inH N h
  · rw [decide_eq_true hh] at HT
    rw [if_pos hh]
    unfold inH at hh
    obtain ⟨k, rfl⟩ : ∃ k : Nat, h = k := ⟨h.toNat, by omega⟩
    have HO := Lib.hid (rof_any w c b off cap N s hN ht k (by omega) 1)
    rw [Int.toNat_natCast]
    clear ht hh
    go_enter Try.func59, Try.ntmps59
    go_wp2_with (go_at_call 50; refine (rmade_true _ _ _ _ _ _ (by omega) c0).mono ?_; rintro e w' ⟨rfl, rfl⟩)
    refine HT.out.mono ?_
    rintro e w' ⟨rfl, rfl⟩
    go_wp2_with fail
    refine HO.out.mono ?_
    rintro e w' ⟨rfl, rfl⟩
    go_wp2_with fail
    go_ret
    exact ⟨rfl, rfl⟩
  · rw [decide_eq_false hh] at HT
    rw [if_neg hh]
    clear ht hh
    go_enter Try.func59, Try.ntmps59
    go_wp2_with (go_at_call 50; refine (rmade_true _ _ _ _ _ _ (by omega) c0).mono ?_; rintro e w' ⟨rfl, rfl⟩)
    refine HT.out.mono ?_
    rintro e w' ⟨rfl, rfl⟩
    go_wp2_with fail
    go_ret
    exact ⟨rfl, rfl⟩
set_option maxRecDepth 10000 in
set_option maxHeartbeats 2000000 in
theorem rkinds_any (w0 w : World) (F : List HP) (c N : Nat) (s : Nat → Int) (hN : N ≤ 64) (hN0 : 0 < N) (hok : okSt N s) (hs : St w0 (trk 77 c (16 * N) s :: F) w) (i : Int) (hi0 : 0 ≤ i) (_ : i ≤ 2) :
    Calls Try.prog 76 #[.pointer (some ⟨c, 0, none⟩), .int .i64 (i + 1)] w fun e w' => ∃ a cap, e = .returned (.slice a (thoseN s i N).length cap) ∧ St w0 (intsP (.slice a (thoseN s i N).length cap) (thoseN s i N) :: trk 77 c (16 * N) s :: F) w' := by
  obtain ⟨i0, hi, hz0, hz1, hz2⟩ := info_parts info3
  obtain ⟨b, off, cap, c0, hcap, _⟩ := TrAt.of (by omega) hs
  have HOK := Lib.hid fun h hh => rkind_kind hok (h := h) hh i hi0
  clear hok
  go_enter Try.func76, Try.ntmps76
  go_wp2_with (first | (go_at_call 50; refine (rmade_true _ _ _ _ _ _ (by omega) c0).mono ?_; rintro e w' ⟨rfl, rfl⟩))
  clear c0 hcap
  go_loopw [5, 6] (fun v i' wr => ∃ (k : Nat) (l : List Int) (a : Option Addr) (cap : Nat), k ≤ N ∧ i' = .int .i64 k ∧ Hid (thoseN s i k = l) ∧ v = .slice a l.length cap ∧ St w0 (intsP v l :: trk 77 c (16 * N) s :: F) wr) (fun _ i' _ => N - (intOf i').toNat)
  case atStart => exact ⟨0, [], none, 0, Nat.zero_le _, rfl, Lib.hid rfl, rfl, hs.arr_nil 3 1⟩
  case round =>
    obtain ⟨k, l, a, cap, hk, rfl, hl, rfl, hs1⟩ := hrel
    obtain ⟨b, off, tcap, ht⟩ := TrAt.of (by omega) (hs1.front 1)
    have c0 := ht.1
    by_cases hlt : k < N
    · have hll : l.length ≤ k := by have := thoseN_len s i k; rw [hl.out] at this; exact this
      have hstep : Hid (thoseN s i (k + 1) = if isKind s i k = true then l ++ [(k : Int)] else l) := Lib.hid (by show (if _ then _ else _) = _; rw [hl.out])
      have HK := Lib.hid (rkind_any wr c b off tcap N s hN ht k hlt)
      have hkk := HOK.out k hlt
      have dk : decide ((k : Int) < (N : Int)) = true := decide_eq_true (by omega)
      clear ht
      generalize rkindS s k = rk at *
      cases hki : isKind s i k with
      | false =>
        rw [hki] at hkk hstep
        go_wp2_with fail
        refine HK.out.mono ?_
        rintro e w' ⟨rfl, rfl⟩
        go_wp2_with fail
        go_roundw
        case rel => exact ⟨k + 1, l, a, cap, hlt, by go_num, Lib.hid (by rw [hstep.out]; rfl), rfl, hs1⟩
        case measure => simp [intOf]; omega
      | true =>
        rw [hki] at hkk hstep
        have h4 := St.newArr hs1 3 1 1 [.int .i64 k] rfl (by decide)
        have r4 := HP.arr_reads h4
        have h5 := h4.swap
        go_wp2_with fail
        refine HK.out.mono ?_
        rintro e w' ⟨rfl, rfl⟩
        go_wp2_with (at_builtin; refine wpList_append_st rfl _ _ 33 rfl 3 i0 _ 1 8 Try.underlying33 hi hz0 hz1 hz2 rfl (.slice a l.length cap) _ rfl rfl l.length (l.map (Value.int .i64)) (by exact h5) 1 [.int .i64 k] (by exact r4) (oneCell_ints [(k : Int)]) (by unfold maxLen; omega) (by omega) ?_; intro v5 w5 hs5 hv5; clear hv5; obtain ⟨a5, p5, rfl⟩ := (HP.arr_reads hs5).form)
        go_roundw
        case rel =>
          refine ⟨k + 1, l ++ [(k : Int)], a5, p5, hlt, by go_num, Lib.hid (by rw [hstep.out]; rfl), by simp, ?_⟩
          unfold intsP
          rw [List.map_append, List.length_append]
          exact hs5.pick 3 [0, 2]
        case measure => simp [intOf]; omega
    · have e : k = N := by omega
      subst e
      have e := hl.out
      subst e
      clear ht
      go_wp2_with fail
      go_ret
      exact ⟨_, _, rfl, hs1⟩
theorem rIdle_any (w0 w : World) (F : List HP) (c N : Nat) (s : Nat → Int) (hN : N ≤ 64) (hN0 : 0 < N) (hok : okSt N s) (hs : St w0 (trk 77 c (16 * N) s :: F) w) :
    Calls Try.prog 60 #[.pointer (some ⟨c, 0, none⟩)] w fun e w' => ∃ a cap, e = .returned (.slice a (thoseN s 0 N).length cap) ∧ St w0 (intsP (.slice a (thoseN s 0 N).length cap) (thoseN s 0 N) :: trk 77 c (16 * N) s :: F) w' := by
  have HK := Lib.hid (rkinds_any w0 w F c N s hN hN0 hok hs 0 (by omega) (by omega))
  clear hok
  go_enter Try.func60, Try.ntmps60
  go_wp2_with fail
  refine HK.out.mono ?_
  rintro e w' ⟨a, cap, rfl, h⟩
  go_wp2_with fail
  go_ret
  exact ⟨_, _, rfl, h⟩
theorem rBroken_any (w0 w : World) (F : List HP) (c N : Nat) (s : Nat → Int) (hN : N ≤ 64) (hN0 : 0 < N) (hok : okSt N s) (hs : St w0 (trk 77 c (16 * N) s :: F) w) :
    Calls Try.prog 61 #[.pointer (some ⟨c, 0, none⟩)] w fun e w' => ∃ a cap, e = .returned (.slice a (thoseN s 1 N).length cap) ∧ St w0 (intsP (.slice a (thoseN s 1 N).length cap) (thoseN s 1 N) :: trk 77 c (16 * N) s :: F) w' := by
  have HK := Lib.hid (rkinds_any w0 w F c N s hN hN0 hok hs 1 (by omega) (by omega))
  clear hok
  go_enter Try.func61, Try.ntmps61
  go_wp2_with fail
  refine HK.out.mono ?_
  rintro e w' ⟨a, cap, rfl, h⟩
  go_wp2_with fail
  go_ret
  exact ⟨_, _, rfl, h⟩
theorem rWhole_any (w0 w : World) (F : List HP) (c N : Nat) (s : Nat → Int) (hN : N ≤ 64) (hN0 : 0 < N) (hok : okSt N s) (hs : St w0 (trk 77 c (16 * N) s :: F) w) :
    Calls Try.prog 62 #[.pointer (some ⟨c, 0, none⟩)] w fun e w' => ∃ a cap, e = .returned (.slice a (thoseN s 2 N).length cap) ∧ St w0 (intsP (.slice a (thoseN s 2 N).length cap) (thoseN s 2 N) :: trk 77 c (16 * N) s :: F) w' := by
  have HK := Lib.hid (rkinds_any w0 w F c N s hN hN0 hok hs 2 (by omega) (by omega))
  clear hok
  go_enter Try.func62, Try.ntmps62
  go_wp2_with fail
  refine HK.out.mono ?_
  rintro e w' ⟨a, cap, rfl, h⟩
  go_wp2_with fail
  go_ret
  exact ⟨_, _, rfl, h⟩
end Go.Proofs.Ytjignbbdgoadjaa

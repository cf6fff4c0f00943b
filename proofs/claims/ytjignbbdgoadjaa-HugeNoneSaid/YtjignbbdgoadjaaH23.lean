/-
  The reference's tracker: made, of, there, Kind, set, New, Clone, Count, State, Used.
-/
import Derived.Test.YtjignbbdgoadjaaH19
namespace Go.Proofs.Ytjignbbdgoadjaa
open Go.RowKit

theorem rmade_true (w : World) (c b off cap m : Nat) (hm : 0 < m) (c0 : w.cell? ⟨c, 0, none⟩ = some (.slice (some ⟨b, off, none⟩) m cap)) :
    Calls Try.prog 50 #[.pointer (some ⟨c, 0, none⟩)] w fun e w' => e = .returned (.bool true) ∧ w = w' := by
  have h0 : decide ((0 : Int) < (m : Int)) = true := decide_eq_true (by omega)
  go_enter Try.func50, Try.ntmps50
  go_wp2
  go_ret
  exact ⟨by simp, rfl⟩
theorem rmade_nil (w : World) : Calls Try.prog 50 #[.pointer none] w fun e w' => e = .returned (.bool false) ∧ w = w' := by
  go_enter Try.func50, Try.ntmps50
  go_wp2
  go_ret
  exact ⟨rfl, rfl⟩
theorem rof_any (w : World) (c b off cap N : Nat) (s : Nat → Int) (hN : N ≤ 64) (ht : TrAt w c b off cap (16 * N) s) (h : Nat) (hh : h < N) (st : Int) :
    Calls Try.prog 75 #[.pointer (some ⟨c, 0, none⟩), .int .i64 h, .int .i64 st] w fun e w' => e = .returned (.int .i64 (ofS s h st)) ∧ w = w' := by
  obtain ⟨c0, _, hr⟩ := ht
  have HR := Lib.hid hr
  clear hr
  have e0 : ofS s h st = cnt 16 fun j => s (16 * h + j) == st := rfl
  rw [e0]
  clear e0
  go_enter Try.func75, Try.ntmps75
  go_wp2_with fail
  go_loop [7, 8] (fun n p => ∃ j : Nat, j ≤ 16 ∧ p = .int .i64 ((16 * h + j : Nat) : Int) ∧ n = .int .i64 (cnt j fun j => s (16 * h + j) == st)) (fun _ p => 16 * h + 16 - (intOf p).toNat)
  case atStart => exact ⟨0, Nat.zero_le _, by rw [show ((16 * h + 0 : Nat) : Int) = (h : Int) * 16 by omega], rfl⟩
  case round =>
    obtain ⟨j, hj, rfl, rfl⟩ := hrel
    have l1 := cnt_le j fun j => s (16 * h + j) == st
    by_cases hlt : j < 16
    · have dj : decide (((16 * h + j : Nat) : Int) < ((h : Int) + 1) * 16) = true := decide_eq_true (by omega)
      have c1 := HR.out (16 * h + j) (by omega)
      have hi1 : 16 * h + j < 16 * N := by omega
      have hi2 : (16 : Int) * (h : Int) + (j : Int) < 16 * (N : Int) := by omega
      have hi0 : (0 : Int) ≤ 16 * (h : Int) + (j : Int) := by omega
      cases hg : s (16 * h + j) == st with
      | true =>
        have E := Lib.hid (cnt_true (n := j) (P := fun j => s (16 * h + j) == st) hg)
        go_wp2_with fail
        go_round
        case rel => exact ⟨j + 1, hlt, by go_num, by rw [E.out]; go_num⟩
        case measure => simp [intOf]; omega
      | false =>
        have E := Lib.hid (cnt_false (n := j) (P := fun j => s (16 * h + j) == st) hg)
        go_wp2_with fail
        go_round
        case rel => exact ⟨j + 1, hlt, by go_num, by rw [E.out]⟩
        case measure => simp [intOf]; omega
    · have dj : decide (((16 * h + j : Nat) : Int) < ((h : Int) + 1) * 16) = false := decide_eq_false (by omega)
      have e : cnt j (fun j => s (16 * h + j) == st) = cnt 16 fun j => s (16 * h + j) == st := by rw [show j = 16 by omega]
      rw [e]
      clear e l1
      go_wp2_with fail
      go_ret
      exact ⟨rfl, rfl⟩
def rkindS (s : Nat → Int) (h : Nat) : Int := if 0 < ofS s h 0 then 0 else if ofS s h 1 = 0 then 1 else if 0 < ofS s h 3 then 2 else 3
theorem rkind_any (w : World) (c b off cap N : Nat) (s : Nat → Int) (hN : N ≤ 64) (ht : TrAt w c b off cap (16 * N) s) (h : Nat) (hh : h < N) :
    Calls Try.prog 71 #[.pointer (some ⟨c, 0, none⟩), .int .i64 h] w fun e w' => e = .returned (.int .i64 (rkindS s h)) ∧ w = w' := by
  have K0 := Lib.hid (rof_any w c b off cap N s hN ht h hh 0)
  have K1 := Lib.hid (rof_any w c b off cap N s hN ht h hh 1)
  have K3 := Lib.hid (rof_any w c b off cap N s hN ht h hh 3)
  clear ht
  unfold rkindS
  generalize ofS s h 0 = x0 at *
  generalize ofS s h 1 = x1 at *
  generalize ofS s h 3 = x3 at *
  by_cases h0 : 0 < x0
  · rw [if_pos h0]
    have d0 : decide (0 < (x0 : Int)) = true := decide_eq_true (by omega)
    go_enter Try.func71, Try.ntmps71
    go_wp2_with fail
    refine K0.out.mono ?_
    rintro e w' ⟨rfl, rfl⟩
    go_wp2_with fail
    go_ret
    exact ⟨rfl, rfl⟩
  rw [if_neg h0]
  have d0 : decide (0 < (x0 : Int)) = false := decide_eq_false (by omega)
  by_cases h1 : x1 = 0
  · rw [if_pos h1]
    have d1 : ((x1 : Int) == 0) = true := by rw [beq_iff_eq]; omega
    clear h1
    go_enter Try.func71, Try.ntmps71
    go_wp2_with fail
    refine K0.out.mono ?_
    rintro e w' ⟨rfl, rfl⟩
    go_wp2_with fail
    refine K1.out.mono ?_
    rintro e w' ⟨rfl, rfl⟩
    go_wp2_with fail
    go_ret
    exact ⟨rfl, rfl⟩
  rw [if_neg h1]
  have d1 : ((x1 : Int) == 0) = false := by rw [beq_eq_false_iff_ne]; omega
  by_cases h3 : 0 < x3
  · rw [if_pos h3]
    have d3 : decide (0 < (x3 : Int)) = true := decide_eq_true (by omega)
    go_enter Try.func71, Try.ntmps71
    go_wp2_with fail
    refine K0.out.mono ?_
    rintro e w' ⟨rfl, rfl⟩
    go_wp2_with fail
    refine K1.out.mono ?_
    rintro e w' ⟨rfl, rfl⟩
    go_wp2_with fail
    refine K3.out.mono ?_
    rintro e w' ⟨rfl, rfl⟩
    go_wp2_with fail
    go_ret
    exact ⟨rfl, rfl⟩
  · rw [if_neg h3]
    have d3 : decide (0 < (x3 : Int)) = false := decide_eq_false (by omega)
    go_enter Try.func71, Try.ntmps71
    go_wp2_with fail
    refine K0.out.mono ?_
    rintro e w' ⟨rfl, rfl⟩
    go_wp2_with fail
    refine K1.out.mono ?_
    rintro e w' ⟨rfl, rfl⟩
    go_wp2_with fail
    refine K3.out.mono ?_
    rintro e w' ⟨rfl, rfl⟩
    go_wp2_with fail
    go_ret
    exact ⟨rfl, rfl⟩
theorem rthere_any (w : World) (c b off cap N : Nat) (c0 : w.cell? ⟨c, 0, none⟩ = some (.slice (some ⟨b, off, none⟩) (16 * N) cap)) (hN : N ≤ 64) (h : Int) :
    Calls Try.prog 70 #[.pointer (some ⟨c, 0, none⟩), .int .i64 h] w fun e w' => e = .returned (.bool (decide (inH N h))) ∧ w = w' := by
  by_cases h0 : 0 ≤ h
  · have d0 : decide (0 ≤ h) = true := decide_eq_true h0
    by_cases h1 : h < N
    · have d1 : decide (h < (N : Int)) = true := decide_eq_true h1
      have D := Lib.hid (decide_eq_true (show inH N h from ⟨h0, h1⟩))
      clear h0 h1
      go_enter Try.func70, Try.ntmps70
      go_wp2
      go_ret
      exact ⟨by rw [D.out]; simp, rfl⟩
    · have d1 : decide (h < (N : Int)) = false := decide_eq_false h1
      have D := Lib.hid (decide_eq_false (show ¬ inH N h from fun hc => h1 hc.2))
      clear h0 h1
      go_enter Try.func70, Try.ntmps70
      go_wp2
      go_ret
      exact ⟨by rw [D.out]; simp, rfl⟩
  · have d0 : decide (0 ≤ h) = false := decide_eq_false h0
    have D := Lib.hid (decide_eq_false (show ¬ inH N h from fun hc => h0 hc.1))
    clear h0
    go_enter Try.func70, Try.ntmps70
    go_wp2
    go_ret
    exact ⟨by rw [D.out]; rfl, rfl⟩
theorem rset_any (w0 w : World) (F : List HP) (c m : Nat) (s : Nat → Int) (hs : St w0 (trk 77 c m s :: F) w) (hm0 : 0 < m) (hm : m ≤ 1024) (a n : Nat) (h : a + n ≤ m) (v : Int) :
    Calls Try.prog 72 #[.pointer (some ⟨c, 0, none⟩), .int .i64 a, .int .i64 n, .int .i64 v] w fun e w' => e = .returned (.tuple #[]) ∧ St w0 (trk 77 c m (fillS s a n v) :: F) w' := by
  go_enter Try.func72, Try.ntmps72
  go_wp2_with fail
  go_loopw [8] (fun i wr => ∃ j : Nat, j ≤ n ∧ i = .int .i64 ((a + j : Nat) : Int) ∧ St w0 (trk 77 c m (fillS s a j v) :: F) wr) (fun i _ => a + n - (intOf i).toNat)
  case atStart => exact ⟨0, Nat.zero_le _, rfl, by rw [fillS_zero]; exact hs⟩
  case round =>
    obtain ⟨j, hj, rfl, hs1⟩ := hrel
    by_cases hlt : j < n
    · obtain ⟨b, off, cap, hcap, h3⟩ := trk_open hm0 hs1
      have c0 := h3.cells1
      obtain ⟨hset, hfz⟩ := HP.arr_set (a + j) (.int .i64 v) (by omega) h3.swap
      have c1 := HP.arr_cell h3.swap (numsF_get (show a + j < m by omega))
      rw [numsF_set, fillS_succ] at hset
      have h4 := trk_shut hset.swap
      have dj : decide (((a + j : Nat) : Int) < (a : Int) + (n : Int)) = true := decide_eq_true (by omega)
      have i1 : (a : Int) + (j : Int) < (m : Int) := by omega
      have i0 : (0 : Int) ≤ (a : Int) + (j : Int) := by omega
      clear h3 hset hs1
      go_wp2_with fail
      go_roundw
      case rel => exact ⟨j + 1, hlt, by go_num, h4⟩
      case measure => simp [intOf]; omega
    · have dj : decide (((a + j : Nat) : Int) < (a : Int) + (n : Int)) = false := decide_eq_false (by omega)
      have hs2 : St w0 (trk 77 c m (fillS s a n v) :: F) wr := by rw [show n = j by omega]; exact hs1
      clear hs1
      go_wp2_with fail
      go_end0
      exact ⟨rfl, hs2⟩
theorem rnew_in (w0 w : World) (F : List HP) (hs : St w0 F w) (N : Nat) (h0 : 0 < N) (hN : N ≤ 64) :
    Calls Try.prog 31 #[.int .i64 ((16 * N : Nat) : Int)] w fun e w' => ∃ c, e = .returned (.tuple #[.pointer (some ⟨c, 0, none⟩), .int .i64 0]) ∧ St w0 (trk 77 c (16 * N) (fun _ => 0) :: F) w' := by
  obtain ⟨m, hm⟩ : ∃ m, m = 16 * N := ⟨_, rfl⟩
  have h1 : m ≤ 1024 := by omega
  have h2 : 16 ≤ m := by omega
  have h3 : m % 16 = 0 := by omega
  rw [← hm]
  clear hm h0 hN
  have b0 : decide ((m : Int) < 16) = false := decide_eq_false (by omega)
  have b1 : decide ((1024 : Int) < (m : Int)) = false := decide_eq_false (by omega)
  have b2 : ((m : Int) % 16 != 0) = false := by simp; omega
  have hmk := fun w => made_ints w m (by omega)
  have h4 := hs.newArr 3 1 m (numsF m fun _ => 0) (by rw [numsF_len]; omega) (by unfold maxLen; omega)
  have h5 := h4.allocRow #[.slice (some ⟨w.heap.size, 0, none⟩) m m] 77
  rw [show (w.alloc (.cells (numsF m fun _ => 0).toArray 3)).heap.size = w.heap.size + 1 by simp] at h5
  have h6 := trk_shut h5
  clear h4 h5 hs h3
  go_enter Try.func31, Try.ntmps31
  go_wp2
  go_ret2
  exact ⟨_, rfl, h6⟩
theorem rnew_bad (w : World) (p : Int) (h : ¬ ∃ N : Nat, 0 < N ∧ N ≤ 64 ∧ p = ((16 * N : Nat) : Int)) :
    Calls Try.prog 31 #[.int .i64 p] w fun e w' => e = .returned (.tuple #[.pointer none, .int .i64 1]) ∧ w = w' := by
  by_cases h0 : p < 16
  · have b0 : decide (p < 16) = true := decide_eq_true h0
    clear h
    go_enter Try.func31, Try.ntmps31
    go_wp2
    go_ret2
    exact ⟨rfl, rfl⟩
  have b0 : decide (p < 16) = false := decide_eq_false h0
  by_cases h1 : 1024 < p
  · have b1 : decide (1024 < p) = true := decide_eq_true h1
    clear h
    go_enter Try.func31, Try.ntmps31
    go_wp2
    go_ret2
    exact ⟨rfl, rfl⟩
  have b1 : decide (1024 < p) = false := decide_eq_false h1
  have h2 : ¬ p % 16 = 0 := fun he => h ⟨(p / 16).toNat, by omega, by omega, by omega⟩
  clear h
  obtain ⟨k, rfl⟩ : ∃ k : Nat, p = k := ⟨p.toNat, by omega⟩
  have b2 : ((k : Int) % 16 != 0) = true := by simp; omega
  go_enter Try.func31, Try.ntmps31
  go_wp2
  go_ret2
  exact ⟨rfl, rfl⟩
set_option maxRecDepth 10000 in
theorem rclone_any (w0 w : World) (F : List HP) (c m : Nat) (s : Nat → Int) (hm : 0 < m) (hm2 : m ≤ 1024) (hs : St w0 (trk 77 c m s :: F) w) :
    Calls Try.prog 32 #[.pointer (some ⟨c, 0, none⟩)] w fun e w' => ∃ c2, e = .returned (.pointer (some ⟨c2, 0, none⟩)) ∧ St w0 (trk 77 c2 m s :: trk 77 c m s :: F) w' := by
  obtain ⟨b, off, cap, hcap, h⟩ := trk_open hm hs
  have c0 := h.cells1
  obtain ⟨j0, hj, hy0, hy1, hy2⟩ := info_parts info3
  have h2 := h.newArr 3 1 0 [] rfl (by decide)
  have r2 := HP.arr_reads (h2.front 2)
  have c0' : (w.alloc (.cells #[] 3)).cell? ⟨c, 0, none⟩ = some (.slice (some ⟨b, off, none⟩) m cap) := (h2.front 1).cells1
  have h1 := numsF_one m s
  generalize hx : numsF m s = xs at *
  have HX := Lib.hid hx
  clear h hs hx
  go_enter Try.func32, Try.ntmps32
  go_wp2_with (first | (go_at_call 50; refine (rmade_true _ _ _ _ _ _ hm c0).mono ?_; rintro e w' ⟨rfl, rfl⟩) | (at_builtin; refine wpList_append_st rfl _ _ 33 rfl 3 j0 _ 1 8 Try.underlying33 hj hy0 hy1 hy2 rfl _ _ rfl rfl 0 [] (by exact h2) m xs (by exact r2) h1 (by unfold maxLen; omega) (by omega) ?_; intro v5 w5 hs5 hv5; clear hv5; rw [List.nil_append, Nat.zero_add] at hs5; have h6 := hs5.allocRow #[v5] 77; obtain ⟨a5, p5, rfl⟩ := (HP.arr_reads hs5).form))
  go_ret
  have e := HX.out
  subst e
  have h7 := trk_shut (s := s) h6
  have h8 := h7.pick 3 [1, 2, 0]
  have h9 : St w0 (trk 77 c m s :: _) _ := trk_shut (s := s) h8
  exact ⟨_, rfl, h9.swap⟩
end Go.Proofs.Ytjignbbdgoadjaa

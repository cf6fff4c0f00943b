/-
  Idle, Broken, Whole, Clone, New.
-/
import Derived.Test.YtjignbbdgoadjaaH4
import Derived.Lib.LazyBuf
namespace Go.Proofs.Ytjignbbdgoadjaa
open Go.RowKit

theorem idles_any (w0 w : World) (F : List HP) (c N : Nat) (s : Nat → Int) (hN : N ≤ 64) (hN0 : 0 < N) (hs : St w0 (trk 61 c (16 * N) s :: F) w) :
    Calls Try.prog 19 #[.pointer (some ⟨c, 0, none⟩)] w fun e w' => ∃ a cap, e = .returned (.slice a (thoseN s 0 N).length cap) ∧ St w0 (intsP (.slice a (thoseN s 0 N).length cap) (thoseN s 0 N) :: trk 61 c (16 * N) s :: F) w' := by
  go_enter Try.func19, Try.ntmps19
  go_wp2_with fail
  refine (those_any w0 w F c N s hN hN0 hs 0).mono ?_
  rintro e w' ⟨a, cap, rfl, h⟩
  go_wp2_with fail
  go_ret
  exact ⟨_, _, rfl, h⟩
theorem brokens_any (w0 w : World) (F : List HP) (c N : Nat) (s : Nat → Int) (hN : N ≤ 64) (hN0 : 0 < N) (hs : St w0 (trk 61 c (16 * N) s :: F) w) :
    Calls Try.prog 20 #[.pointer (some ⟨c, 0, none⟩)] w fun e w' => ∃ a cap, e = .returned (.slice a (thoseN s 1 N).length cap) ∧ St w0 (intsP (.slice a (thoseN s 1 N).length cap) (thoseN s 1 N) :: trk 61 c (16 * N) s :: F) w' := by
  go_enter Try.func20, Try.ntmps20
  go_wp2_with fail
  refine (those_any w0 w F c N s hN hN0 hs 1).mono ?_
  rintro e w' ⟨a, cap, rfl, h⟩
  go_wp2_with fail
  go_ret
  exact ⟨_, _, rfl, h⟩
theorem wholes_any (w0 w : World) (F : List HP) (c N : Nat) (s : Nat → Int) (hN : N ≤ 64) (hN0 : 0 < N) (hs : St w0 (trk 61 c (16 * N) s :: F) w) :
    Calls Try.prog 18 #[.pointer (some ⟨c, 0, none⟩)] w fun e w' => ∃ a cap, e = .returned (.slice a (thoseN s 2 N).length cap) ∧ St w0 (intsP (.slice a (thoseN s 2 N).length cap) (thoseN s 2 N) :: trk 61 c (16 * N) s :: F) w' := by
  go_enter Try.func18, Try.ntmps18
  go_wp2_with fail
  refine (those_any w0 w F c N s hN hN0 hs 2).mono ?_
  rintro e w' ⟨a, cap, rfl, h⟩
  go_wp2_with fail
  go_ret
  exact ⟨_, _, rfl, h⟩
theorem idles_not (w : World) (q : Option Addr) (hq : NotMade w q) : Calls Try.prog 19 #[.pointer q] w fun e w' => e = .returned (.slice none 0 0) ∧ w = w' := by
  have HU := Lib.hid (those_not w q hq 0)
  clear hq
  go_enter Try.func19, Try.ntmps19
  go_wp2_with fail
  refine HU.out.mono ?_
  rintro e w' ⟨rfl, rfl⟩
  go_wp2_with fail
  go_ret
  exact ⟨rfl, rfl⟩
theorem brokens_not (w : World) (q : Option Addr) (hq : NotMade w q) : Calls Try.prog 20 #[.pointer q] w fun e w' => e = .returned (.slice none 0 0) ∧ w = w' := by
  have HU := Lib.hid (those_not w q hq 1)
  clear hq
  go_enter Try.func20, Try.ntmps20
  go_wp2_with fail
  refine HU.out.mono ?_
  rintro e w' ⟨rfl, rfl⟩
  go_wp2_with fail
  go_ret
  exact ⟨rfl, rfl⟩
theorem wholes_not (w : World) (q : Option Addr) (hq : NotMade w q) : Calls Try.prog 18 #[.pointer q] w fun e w' => e = .returned (.slice none 0 0) ∧ w = w' := by
  have HU := Lib.hid (those_not w q hq 2)
  clear hq
  go_enter Try.func18, Try.ntmps18
  go_wp2_with fail
  refine HU.out.mono ?_
  rintro e w' ⟨rfl, rfl⟩
  go_wp2_with fail
  go_ret
  exact ⟨rfl, rfl⟩

set_option maxRecDepth 10000 in
/-- slices.Clone -/
theorem sclone_any (w0 w : World) (F : List HP) (hs : St w0 F w) (b off : Nat) (n cap : Nat) (xs : List Value) (hr : Reads w 1 (.slice (some ⟨b, off, none⟩) n cap) n xs) (h1 : ∀ u ∈ xs, u.oneCell' = true) (hn : n ≤ 4096) :
    Calls Try.prog 48 #[.slice (some ⟨b, off, none⟩) n cap] w fun e w' => ∃ a5 p5, e = .returned (.slice a5 n p5) ∧ St w0 (HP.arr 3 1 (.slice a5 n p5) n xs :: F) w' := by
  obtain ⟨j0, hj, hy0, hy1, hy2⟩ := info_parts info3
  have h2 := hs.newArr 3 1 0 [] rfl (by decide)
  have r2 := hr.alloc (.cells #[] 3)
  have hq : ∀ w, (binOp .eql 33 (.slice (some ⟨b, off, none⟩) n cap) (.slice none 0 0)).run Try.prog w = .ok (.bool false) w := fun w => run_eql_slice_nil (P := Try.prog) w 33 3 (some ⟨b, off, none⟩) n cap Try.underlying33
  clear hr hs
  go_enter Try.func48, Try.ntmps48
  go_wp2_with (at_builtin; refine wpList_append_st rfl _ _ 33 rfl 3 j0 _ 1 8 Try.underlying33 hj hy0 hy1 hy2 rfl _ _ rfl rfl 0 [] (by exact h2) n xs (by exact r2) h1 (by unfold maxLen; omega) (by omega) ?_; intro v5 w5 hs5 hv5; clear hv5; rw [List.nil_append, Nat.zero_add] at hs5; obtain ⟨a5, p5, rfl⟩ := (HP.arr_reads hs5).form)
  go_ret
  exact ⟨_, _, rfl, hs5⟩
theorem clone_any (w0 w : World) (F : List HP) (c m : Nat) (s : Nat → Int) (hm : 0 < m) (hm2 : m ≤ 1024) (hs : St w0 (trk 61 c m s :: F) w) :
    Calls Try.prog 23 #[.pointer (some ⟨c, 0, none⟩)] w fun e w' => ∃ c2, e = .returned (.pointer (some ⟨c2, 0, none⟩)) ∧ St w0 (trk 61 c2 m s :: trk 61 c m s :: F) w' := by
  obtain ⟨b, off, cap, hcap, h⟩ := trk_open hm hs
  have c0 := h.cells1
  have HC := Lib.hid (sclone_any w0 w _ hs b off m cap _ (HP.arr_reads h.swap) (numsF_one m s) (by omega))
  clear h
  go_enter Try.func23, Try.ntmps23
  go_wp2_with (go_at_call 39; refine (made_true _ _ _ _ _ _ hm c0).mono ?_; rintro e w' ⟨rfl, rfl⟩)
  refine HC.out.mono ?_
  rintro e w5 ⟨a5, p5, rfl, h5⟩
  have h6 := h5.allocRow #[.slice a5 m p5] 61
  go_wp2_with fail
  go_ret
  exact ⟨_, rfl, trk_shut h6⟩
theorem clone_not (w : World) (q : Option Addr) (hq : NotMade w q) : Calls Try.prog 23 #[.pointer q] w fun e w' => e = .returned (.pointer none) ∧ w = w' := by
  have HU := Lib.hid (made_not w q hq)
  clear hq
  go_enter Try.func23, Try.ntmps23
  go_wp2_with fail
  refine HU.out.mono ?_
  rintro e w' ⟨rfl, rfl⟩
  go_wp2_with fail
  go_ret
  exact ⟨rfl, rfl⟩

theorem zeros_made (m : Nat) : madeCells (Value.int .i64 0).cells (m * 1) = (numsF m fun _ => 0).toArray := by
  apply Array.ext_getElem?
  intro j
  by_cases hj : j < m
  · rw [List.getElem?_toArray (xs := numsF m fun _ => 0), numsF_get hj]
    simp [madeCells, Value.cells, hj, Nat.mod_one]
  · rw [Array.getElem?_eq_none (by simp [madeCells]; omega), Array.getElem?_eq_none (by simp [numsF_len]; omega)]
theorem made_ints (w : World) (m : Nat) (hm : m ≤ 4096) : (Instr.makeSlice 33 (.int .i64 m) (.int .i64 m)).run Try.prog w = .ok (.slice (some ⟨w.heap.size, 0, none⟩) m m) (w.alloc (.cells (numsF m fun _ => 0).toArray 3)) := by
  obtain ⟨j0, hj, hy0, hy1, hy2⟩ := info_parts info3
  have h := run_makeSlice (P := Try.prog) w 33 3 j0 _ Try.underlying33 hj hy0 .i64 .i64 m m (by omega) (by omega) (by rw [hy1]; simp; omega) (by rw [hy2]; omega) (by omega)
  rw [h, hy1, Int.toNat_natCast, zeros_made]
theorem new_in (w0 w : World) (F : List HP) (hs : St w0 F w) (N : Nat) (h0 : 0 < N) (hN : N ≤ 64) :
    Calls Try.prog 30 #[.int .i64 ((16 * N : Nat) : Int)] w fun e w' => ∃ c, e = .returned (.tuple #[.pointer (some ⟨c, 0, none⟩), .int .i64 0]) ∧ St w0 (trk 61 c (16 * N) (fun _ => 0) :: F) w' := by
  obtain ⟨m, hm⟩ : ∃ m, m = 16 * N := ⟨_, rfl⟩
  have h1 : m ≤ 1024 := by omega
  have h2 : 16 ≤ m := by omega
  have h3 : m % 16 = 0 := by omega
  rw [← hm]
  clear hm h0 hN
  have b0 : decide ((m : Int) < 16) = false := decide_eq_false (by omega)
  have b1 : decide ((1024 : Int) < (m : Int)) = false := decide_eq_false (by omega)
  have b2 : ((m : Int) % 16 != 0) = false := by simp; omega
  have hmk := fun w => made_ints w m (by omega)
  have h4 := hs.newArr 3 1 m (numsF m fun _ => 0) (by rw [numsF_len]; omega) (by unfold maxLen; omega)
  have h5 := h4.allocRow #[.slice (some ⟨w.heap.size, 0, none⟩) m m] 61
  rw [show (w.alloc (.cells (numsF m fun _ => 0).toArray 3)).heap.size = w.heap.size + 1 by simp] at h5
  have h6 := trk_shut h5
  clear h4 h5 hs h3
  go_enter Try.func30, Try.ntmps30
  go_wp2
  go_ret2
  exact ⟨_, rfl, h6⟩
theorem new_bad (w : World) (p : Int) (h : ¬ ∃ N : Nat, 0 < N ∧ N ≤ 64 ∧ p = ((16 * N : Nat) : Int)) :
    Calls Try.prog 30 #[.int .i64 p] w fun e w' => e = .returned (.tuple #[.pointer none, .int .i64 1]) ∧ w = w' := by
  by_cases h0 : p < 16
  · have b0 : decide (p < 16) = true := decide_eq_true h0
    clear h
    go_enter Try.func30, Try.ntmps30
    go_wp2
    go_ret2
    exact ⟨rfl, rfl⟩
  have b0 : decide (p < 16) = false := decide_eq_false h0
  by_cases h1 : 1024 < p
  · have b1 : decide (1024 < p) = true := decide_eq_true h1
    clear h
    go_enter Try.func30, Try.ntmps30
    go_wp2
    go_ret2
    exact ⟨rfl, rfl⟩
  have b1 : decide (1024 < p) = false := decide_eq_false h1
  have h2 : ¬ p % 16 = 0 := fun he => h ⟨(p / 16).toNat, by omega, by omega, by omega⟩
  clear h
  obtain ⟨k, rfl⟩ : ∃ k : Nat, p = k := ⟨p.toNat, by omega⟩
  have b2 : ((k : Int) % 16 != 0) = true := by simp; omega
  go_enter Try.func30, Try.ntmps30
  go_wp2
  go_ret2
  exact ⟨rfl, rfl⟩
end Go.Proofs.Ytjignbbdgoadjaa

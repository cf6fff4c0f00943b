/-
  Package pagemap: New, set, Set, Clear.
-/
import Derived.Test.YthknghkiogiajaaP4
namespace Go.Proofs.Ythknghkiogiajaa
open Go.RowKit

/-- a run that is one -/
def okRun (s n : Int) : Prop := 0 ≤ s ∧ 1 ≤ n ∧ n ≤ 1024 - s
instance (s n : Int) : Decidable (okRun s n) := by unfold okRun; infer_instance
def fill (f : Nat → Int) (s n : Nat) (no : Int) (p : Nat) : Int := if s ≤ p ∧ p < s + n then no else f p
def mset (f : Nat → Int) (s n no : Int) : Nat → Int := if okRun s n then fill f s.toNat n.toNat no else f
theorem fill_zero (f : Nat → Int) (s : Nat) (no : Int) : fill f s 0 no = f := by
  funext p
  unfold fill
  rw [if_neg (by omega)]
theorem fill_succ (f : Nat → Int) (s n : Nat) (no : Int) : upd (fill f s n no) (s + n) no = fill f s (n + 1) no := by
  funext p
  unfold fill upd
  by_cases h : p = s + n
  · rw [if_pos h, if_pos (by omega)]
  · rw [if_neg h]
    dsimp only
    by_cases h2 : s ≤ p ∧ p < s + n
    · rw [if_pos h2, if_pos (by omega)]
    · rw [if_neg h2, if_neg (by omega)]

theorem mapP_made {w0 w : World} {F : List HP} {c : Nat} {f : Nat → Int} (hs : St w0 (mapP c f :: F) w) : w.cell? ⟨c, 0, none⟩ = some (.bool true) := by
  obtain ⟨q, h⟩ := mapP_open hs
  exact mapRow_made h
theorem mapP_new {w0 w : World} {F : List HP} {c : Nat} (h : St w0 (HP.blk c (cellsF 17 fun i => if i = 0 then .bool true else .pointer none) 54 :: F) w) : St w0 (mapP c (fun _ => 0) :: F) w := by
  have h1 : St w0 (mapRow c (fun _ => none) :: F) w := h
  refine mapP_shut (p := fun _ => none) ?_
  have e : (stars 16 fun i => midP none fun k => (0 : Int)) = HP.emp := stars_emp fun j _ => midP_emp (zeroTo_iff.2 fun _ _ => rfl)
  rw [e]
  exact (St.emp.2 h1).swap

theorem new_any (w0 w : World) (F : List HP) (hs : St w0 F w) : Calls Try.prog 14 #[] w fun e w' => ∃ c, e = .returned (.pointer (some ⟨c, 0, none⟩)) ∧ St w0 (mapP c (fun _ => 0) :: F) w' := by
  have h1 := hs.allocRow #[.bool true, .pointer none, .pointer none, .pointer none, .pointer none, .pointer none, .pointer none, .pointer none, .pointer none, .pointer none, .pointer none, .pointer none, .pointer none, .pointer none, .pointer none, .pointer none, .pointer none] 54
  have h2 := mapP_new h1
  go_enter Try.func14, Try.ntmps14
  go_wp2
  go_ret
  exact ⟨_, rfl, h2⟩

set_option maxHeartbeats 1000000 in
theorem set_in (w0 w : World) (F : List HP) (c : Nat) (f : Nat → Int) (hs : St w0 (mapP c f :: F) w) (s n : Nat) (h1 : 1 ≤ n) (h2 : s + n ≤ 1024) (no : Int) :
    Calls Try.prog 34 #[.pointer (some ⟨c, 0, none⟩), .int .i64 s, .int .i64 n, .int .i64 no] w fun e w' => e = .returned (.int .i64 0) ∧ St w0 (mapP c (fill f s n no) :: F) w' := by
  have c0 := mapP_made hs
  have b0 : decide ((s : Int) < 0) = false := by simp
  have b1 : decide ((n : Int) < 1) = false := by simp; omega
  have b2 : decide ((1024 : Int) < (s : Int)) = false := by simp; omega
  have b3 : decide ((1024 : Int) - (s : Int) < (n : Int)) = false := by simp; omega
  go_enter Try.func34, Try.ntmps34
  go_wp2_with (go_at_call 33; refine (good_true _ _ c0).mono ?_; rintro e w' ⟨rfl, rfl⟩)
  go_loopw [9] (fun i wr => ∃ k : Nat, k ≤ n ∧ i = .int .i64 ((s + k : Nat) : Int) ∧ St w0 (mapP c (fill f s k no) :: F) wr) (fun i _ => s + n - (intOf i).toNat)
  case atStart => exact ⟨0, Nat.zero_le _, rfl, by rw [fill_zero]; exact hs⟩
  case round =>
    obtain ⟨k, hk, rfl, hs1⟩ := hrel
    by_cases hlt : k < n
    · go_wp2_with fail
      refine (put_any w0 wr _ c _ hs1 (s + k) (by omega) no).mono ?_
      rintro e w2 ⟨rfl, h2⟩
      rw [fill_succ] at h2
      go_wp2_with fail
      go_roundw
      case rel => exact ⟨k + 1, hlt, by go_num, h2⟩
      case measure => simp [intOf]; omega
    · have e : k = n := by omega
      subst e
      go_wp2_with fail
      go_ret
      exact ⟨rfl, hs1⟩

theorem set_bad (w : World) (c : Nat) (c0 : w.cell? ⟨c, 0, none⟩ = some (.bool true)) (s n no : Int) (h : ¬ okRun s n) :
    Calls Try.prog 34 #[.pointer (some ⟨c, 0, none⟩), .int .i64 s, .int .i64 n, .int .i64 no] w fun e w' => e = .returned (.int .i64 1) ∧ w = w' := by
  unfold okRun at h
  by_cases h0 : s < 0
  · have b0 : decide (s < 0) = true := by simp; omega
    clear h
    go_enter Try.func34, Try.ntmps34
    go_wp2_with (go_at_call 33; refine (good_true _ _ c0).mono ?_; rintro e w' ⟨rfl, rfl⟩)
    go_ret
    exact ⟨rfl, rfl⟩
  have b0 : decide (s < 0) = false := by simp; omega
  by_cases h1 : n < 1
  · have b1 : decide (n < 1) = true := by simp; omega
    clear h
    go_enter Try.func34, Try.ntmps34
    go_wp2_with (go_at_call 33; refine (good_true _ _ c0).mono ?_; rintro e w' ⟨rfl, rfl⟩)
    go_ret
    exact ⟨rfl, rfl⟩
  have b1 : decide (n < 1) = false := by simp; omega
  by_cases h2 : 1024 < s
  · have b2 : decide (1024 < s) = true := by simp; omega
    clear h
    go_enter Try.func34, Try.ntmps34
    go_wp2_with (go_at_call 33; refine (good_true _ _ c0).mono ?_; rintro e w' ⟨rfl, rfl⟩)
    go_ret
    exact ⟨rfl, rfl⟩
  have b2 : decide (1024 < s) = false := by simp; omega
  have b3 : decide (1024 - s < n) = true := by simp; omega
  clear h
  go_enter Try.func34, Try.ntmps34
  go_wp2_with (go_at_call 33; refine (good_true _ _ c0).mono ?_; rintro e w' ⟨rfl, rfl⟩)
  go_ret
  exact ⟨rfl, rfl⟩
def setE (s n : Int) : Int := if okRun s n then 0 else 1
theorem set_x (w0 w : World) (F : List HP) (c : Nat) (f : Nat → Int) (hs : St w0 (mapP c f :: F) w) (s n no : Int) :
    Calls Try.prog 34 #[.pointer (some ⟨c, 0, none⟩), .int .i64 s, .int .i64 n, .int .i64 no] w fun e w' => e = .returned (.int .i64 (setE s n)) ∧ St w0 (mapP c (mset f s n no) :: F) w' := by
  unfold setE mset
  by_cases h : okRun s n
  · rw [if_pos h, if_pos h]
    have h' := h
    unfold okRun at h'
    have e1 : s = ((s.toNat : Nat) : Int) := by omega
    have e2 : n = ((n.toNat : Nat) : Int) := by omega
    have hc := set_in w0 w F c f hs s.toNat n.toNat (by omega) (by omega) no
    rw [← e1, ← e2] at hc
    exact hc
  · rw [if_neg h, if_neg h]
    refine (set_bad w c (mapP_made hs) s n no h).mono ?_
    rintro e w' ⟨rfl, rfl⟩
    exact ⟨rfl, hs⟩
theorem set_not (w : World) (q : Option Addr) (hq : NotMade w q) (s n no : Int) :
    Calls Try.prog 34 #[.pointer q, .int .i64 s, .int .i64 n, .int .i64 no] w fun e w' => e = .returned (.int .i64 5) ∧ w = w' := by
  have H := Lib.hid (good_not w q hq)
  clear hq
  go_enter Try.func34, Try.ntmps34
  go_wp2_with fail
  refine H.out.mono ?_
  rintro e w' ⟨rfl, rfl⟩
  go_wp2_with fail
  go_ret
  exact ⟨rfl, rfl⟩

/-- what Set takes -/
def okSet (s n no : Int) : Prop := (1 ≤ no ∧ no ≤ 1073741824) ∧ okRun s n
instance (s n no : Int) : Decidable (okSet s n no) := by unfold okSet; infer_instance
def SetE (s n no : Int) : Int := if okSet s n no then 0 else 1
def Mset (f : Nat → Int) (s n no : Int) : Nat → Int := if okSet s n no then fill f s.toNat n.toNat no else f
theorem Set_x (w0 w : World) (F : List HP) (c : Nat) (f : Nat → Int) (hs : St w0 (mapP c f :: F) w) (s n no : Int) :
    Calls Try.prog 21 #[.pointer (some ⟨c, 0, none⟩), .int .i64 s, .int .i64 n, .int .i64 no] w fun e w' => e = .returned (.int .i64 (SetE s n no)) ∧ St w0 (mapP c (Mset f s n no) :: F) w' := by
  have c0 := mapP_made hs
  by_cases h1 : no < 1
  · have hn : ¬ okSet s n no := fun h => by have := h.1.1; omega
    rw [show SetE s n no = 1 from if_neg hn, show Mset f s n no = f from if_neg hn]
    clear hn
    have b1 : decide (no < 1) = true := by simp; omega
    go_enter Try.func21, Try.ntmps21
    go_wp2_with (go_at_call 33; refine (good_true _ _ c0).mono ?_; rintro e w' ⟨rfl, rfl⟩)
    go_ret
    exact ⟨rfl, hs⟩
  have b1 : decide (no < 1) = false := by simp; omega
  by_cases h2 : 1073741824 < no
  · have hn : ¬ okSet s n no := fun h => by have := h.1.2; omega
    rw [show SetE s n no = 1 from if_neg hn, show Mset f s n no = f from if_neg hn]
    clear hn
    have b2 : decide (1073741824 < no) = true := by simp; omega
    go_enter Try.func21, Try.ntmps21
    go_wp2_with (go_at_call 33; refine (good_true _ _ c0).mono ?_; rintro e w' ⟨rfl, rfl⟩)
    go_ret
    exact ⟨rfl, hs⟩
  have b2 : decide (1073741824 < no) = false := by simp; omega
  have e : okSet s n no ↔ okRun s n := ⟨fun h => h.2, fun h => ⟨⟨by omega, by omega⟩, h⟩⟩
  have hx := Lib.hid (set_x w0 w F c f hs s n no)
  rw [show SetE s n no = setE s n by unfold SetE setE; simp only [e], show Mset f s n no = mset f s n no by unfold Mset mset; simp only [e]]
  clear e
  go_enter Try.func21, Try.ntmps21
  go_wp2_with (go_at_call 33; refine (good_true _ _ c0).mono ?_; rintro e w' ⟨rfl, rfl⟩)
  refine hx.out.mono ?_
  rintro e w' ⟨rfl, h⟩
  go_wp2_with fail
  go_ret
  exact ⟨rfl, h⟩
theorem Set_not (w : World) (q : Option Addr) (hq : NotMade w q) (s n no : Int) :
    Calls Try.prog 21 #[.pointer q, .int .i64 s, .int .i64 n, .int .i64 no] w fun e w' => e = .returned (.int .i64 5) ∧ w = w' := by
  have H := Lib.hid (good_not w q hq)
  have H2 := Lib.hid (set_not w q hq s n no)
  clear hq
  go_enter Try.func21, Try.ntmps21
  go_wp2_with fail
  refine H.out.mono ?_
  rintro e w' ⟨rfl, rfl⟩
  go_wp2_with fail
  refine H2.out.mono ?_
  rintro e w' ⟨rfl, rfl⟩
  go_wp2_with fail
  go_ret
  exact ⟨rfl, rfl⟩
theorem Clear_x (w0 w : World) (F : List HP) (c : Nat) (f : Nat → Int) (hs : St w0 (mapP c f :: F) w) (s n : Int) :
    Calls Try.prog 32 #[.pointer (some ⟨c, 0, none⟩), .int .i64 s, .int .i64 n] w fun e w' => e = .returned (.int .i64 (setE s n)) ∧ St w0 (mapP c (mset f s n 0) :: F) w' := by
  go_enter Try.func32, Try.ntmps32
  go_wp2_with fail
  refine (set_x w0 w F c f hs s n 0).mono ?_
  rintro e w' ⟨rfl, h⟩
  go_wp2_with fail
  go_ret
  exact ⟨rfl, h⟩
theorem Clear_not (w : World) (q : Option Addr) (hq : NotMade w q) (s n : Int) :
    Calls Try.prog 32 #[.pointer q, .int .i64 s, .int .i64 n] w fun e w' => e = .returned (.int .i64 5) ∧ w = w' := by
  have H2 := Lib.hid (set_not w q hq s n 0)
  clear hq
  go_enter Try.func32, Try.ntmps32
  go_wp2_with fail
  refine H2.out.mono ?_
  rintro e w' ⟨rfl, rfl⟩
  go_wp2_with fail
  go_ret
  exact ⟨rfl, rfl⟩
end Go.Proofs.Ythknghkiogiajaa

/-
  The law's own play: a call on both sides. (Printed by mkP25.py.)
-/
import Derived.Test.YthknghkiogiajaaP24
import Derived.Deep.DrawnRows
namespace Go.Proofs.Ythknghkiogiajaa
open Go.RowKit
attribute [local go_sem ↓] Go.wp_at_zero Go.wp_at_succ

theorem box_cells {w0 w : World} {A : HP} {F : List HP} {bx : Nat} {k a b n : Value} {t : TypeId} (h : St w0 (A :: HP.blk bx #[k, a, b, n] t :: F) w) :
    w.cell? ⟨bx, 1, none⟩ = some a ∧ w.cell? ⟨bx, 2, none⟩ = some b ∧ w.cell? ⟨bx, 3, none⟩ = some n :=
  ⟨h.swap.cells4.2.1, h.swap.cells4.2.2.1, h.swap.cells4.2.2.2⟩
theorem play_end {w0 w : World} {A B C : HP} {F : List HP} (h : St w0 (A :: B :: C :: F) w) : St w0 (C :: A :: F) w := h.pick 3 [2, 0]
theorem rSet_y (w0 w : World) (B : HP) (C : HP) (F : List HP) (r : Nat) (f : Nat → Int) (s n no : Int) (hs : St w0 (C :: B :: refP r f :: F) w) :
    Calls Try.prog 36 #[.pointer (some ⟨r, 0, none⟩), .int .i64 s, .int .i64 n, .int .i64 no] w fun e w' => e = .returned (.int .i64 (SetE s n no)) ∧ St w0 (refP r (Mset f s n no) :: B :: C :: F) w' :=
  (rSet_x w0 w (B :: C :: F) r f (hs.pick 3 [2, 1, 0]) s n no)
theorem rClear_y (w0 w : World) (B : HP) (C : HP) (F : List HP) (r : Nat) (f : Nat → Int) (s n : Int) (hs : St w0 (C :: B :: refP r f :: F) w) :
    Calls Try.prog 37 #[.pointer (some ⟨r, 0, none⟩), .int .i64 s, .int .i64 n] w fun e w' => e = .returned (.int .i64 (setE s n)) ∧ St w0 (refP r (mset f s n 0) :: B :: C :: F) w' :=
  (rClear_x w0 w (B :: C :: F) r f (hs.pick 3 [2, 1, 0]) s n)

set_option maxRecDepth 10000 in
set_option maxHeartbeats 4000000 in
theorem play_set (w0 w : World) (F : List HP) (c r : Nat) (f : Nat → Int) (hs : St w0 (mapP c f :: refP r f :: F) w) (a b n : Int) :
    Calls Try.prog 27 #[.pointer (some ⟨c, 0, none⟩), .pointer (some ⟨r, 0, none⟩), .agg #[.int .i64 0, .int .i64 a, .int .i64 b, .int .i64 n]] w fun e w' => e = .returned (.bool true) ∧ St w0 (mapP c (Mset f a b n) :: refP r (Mset f a b n) :: F) w' := by
  have h1 := hs.allocRow #[.int .i64 0, .int .i64 a, .int .i64 b, .int .i64 n] 30
  have h2 : St w0 (mapP c f :: HP.blk w.heap.size #[.int .i64 0, .int .i64 a, .int .i64 b, .int .i64 n] 30 :: refP r f :: F) _ := h1.swap
  have h3 := h2.drew
  have H5 := Lib.hid (fun w1 h => Set_x w0 w1 ((HP.blk w.heap.size #[.int .i64 0, .int .i64 a, .int .i64 b, .int .i64 n] 30) :: refP r f :: F) c f h a b n)
  have H6 := Lib.hid (fun w1 h => rSet_y w0 w1 (HP.blk w.heap.size #[.int .i64 0, .int .i64 a, .int .i64 b, .int .i64 n] 30) (mapP c (Mset f a b n)) F r f a b n h)
  clear h1 hs
  go_enter Try.func27, Try.ntmps27
  go_wp2_with fail
  go_region_held3 (fun w' => w'.cell? ⟨w.heap.size, 1, none⟩ = some (.int .i64 a) ∧ w'.cell? ⟨w.heap.size, 2, none⟩ = some (.int .i64 b) ∧ w'.cell? ⟨w.heap.size, 3, none⟩ = some (.int .i64 n)) (exact box_cells (by assumption))
    (first
      | (go_at_call 21; refine (H5.out _ ?_).mono ?_; assumption; rintro e w' ⟨rfl, h5⟩)
      | (go_at_call 36; refine (H6.out _ ?_).mono ?_; assumption; rintro e w' ⟨rfl, h6⟩))
  all_goals go_wp2_with fail
  all_goals go_ret
  all_goals exact ⟨by simp, play_end (by assumption)⟩

set_option maxRecDepth 10000 in
set_option maxHeartbeats 4000000 in
theorem play_clear (w0 w : World) (F : List HP) (c r : Nat) (f : Nat → Int) (hs : St w0 (mapP c f :: refP r f :: F) w) (a b n : Int) :
    Calls Try.prog 27 #[.pointer (some ⟨c, 0, none⟩), .pointer (some ⟨r, 0, none⟩), .agg #[.int .i64 1, .int .i64 a, .int .i64 b, .int .i64 n]] w fun e w' => e = .returned (.bool true) ∧ St w0 (mapP c (mset f a b 0) :: refP r (mset f a b 0) :: F) w' := by
  have h1 := hs.allocRow #[.int .i64 1, .int .i64 a, .int .i64 b, .int .i64 n] 30
  have h2 : St w0 (mapP c f :: HP.blk w.heap.size #[.int .i64 1, .int .i64 a, .int .i64 b, .int .i64 n] 30 :: refP r f :: F) _ := h1.swap
  have h3 := h2.drew
  have H5 := Lib.hid (fun w1 h => Clear_x w0 w1 ((HP.blk w.heap.size #[.int .i64 1, .int .i64 a, .int .i64 b, .int .i64 n] 30) :: refP r f :: F) c f h a b)
  have H6 := Lib.hid (fun w1 h => rClear_y w0 w1 (HP.blk w.heap.size #[.int .i64 1, .int .i64 a, .int .i64 b, .int .i64 n] 30) (mapP c (mset f a b 0)) F r f a b h)
  clear h1 hs
  go_enter Try.func27, Try.ntmps27
  go_wp2_with fail
  go_region_held3 (fun w' => w'.cell? ⟨w.heap.size, 1, none⟩ = some (.int .i64 a) ∧ w'.cell? ⟨w.heap.size, 2, none⟩ = some (.int .i64 b) ∧ w'.cell? ⟨w.heap.size, 3, none⟩ = some (.int .i64 n)) (exact box_cells (by assumption))
    (first
      | (go_at_call 32; refine (H5.out _ ?_).mono ?_; assumption; rintro e w' ⟨rfl, h5⟩)
      | (go_at_call 37; refine (H6.out _ ?_).mono ?_; assumption; rintro e w' ⟨rfl, h6⟩))
  all_goals go_wp2_with fail
  all_goals go_ret
  all_goals exact ⟨by simp, play_end (by assumption)⟩

theorem play_any (w0 w : World) (F : List HP) (c r : Nat) (f : Nat → Int) (hs : St w0 (mapP c f :: refP r f :: F) w) (x : ActV) :
    Calls Try.prog 27 #[.pointer (some ⟨c, 0, none⟩), .pointer (some ⟨r, 0, none⟩), .agg #[.int .i64 x.kind, .int .i64 x.a, .int .i64 x.b, .int .i64 x.c]] w fun e w' => e = .returned (.bool true) ∧ St w0 (mapP c (actF f x) :: refP r (actF f x) :: F) w' := by
  obtain ⟨k, a, b, n⟩ := x
  unfold actF
  dsimp only
  by_cases h0 : k = 0
  · subst h0
    rw [if_pos rfl]
    exact play_set w0 w F c r f hs a b n
  by_cases h1 : k = 1
  · subst h1
    rw [if_neg h0, if_pos rfl]
    exact play_clear w0 w F c r f hs a b n
  rw [if_neg h0, if_neg h1]
  have b0 : (k == 0) = false := by simpa using h0
  have b1 : (k == 1) = false := by simpa using h1
  have h2 := (hs.allocRow #[.int .i64 k, .int .i64 a, .int .i64 b, .int .i64 n] 30).drop
  clear h0 h1 hs
  go_enter Try.func27, Try.ntmps27
  go_wp2_with fail
  go_ret
  exact ⟨rfl, h2⟩
end Go.Proofs.Ythknghkiogiajaa

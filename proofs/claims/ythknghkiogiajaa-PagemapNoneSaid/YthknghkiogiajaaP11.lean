/-
  The examples of the chapter hold (alive).
-/
import Derived.Test.YthknghkiogiajaaP10
import Derived.Test.YthknghkiogiajaaP7
namespace Go.Proofs.Ythknghkiogiajaa
open Go.RowKit

def ex1 : Nat → Int := fill (fun _ => 0) 6 4 5
def ex2 : Nat → Int := fill ex1 8 2 0
def ex3 : Nat → Int := fill ex2 7 1 6
theorem ex1_ok : fOk ex1 := fun p hp => by
  unfold ex1 fill
  split
  · decide
  · exact fOk_zero p hp
theorem ex2_ok : fOk ex2 := fun p hp => by
  unfold ex2 fill
  split
  · decide
  · exact ex1_ok p hp
theorem ex1_mids : cnt 16 (midB ex1) = 1 := by decide +kernel
theorem ex1_leaves : cnt 128 (leafB ex1) = 2 := by decide +kernel
theorem ex2_mids : cnt 16 (midB ex2) = 1 := by decide +kernel
theorem ex2_leaves : cnt 128 (leafB ex2) = 1 := by decide +kernel
theorem ex1_marks : mks ex1 1024 = [⟨6, 4, 5⟩] := by decide +kernel
theorem ex3_marks : mks ex3 1024 = [⟨6, 1, 5⟩, ⟨7, 1, 6⟩] := by decide +kernel
theorem ex2_next0 : isNext ex2 0 (.tuple #[.int .i64 6, .int .i64 5, .int .i64 0]) := .inl ⟨6, by decide, by decide, by decide +kernel, by decide +kernel, rfl⟩
theorem ex2_next8 : isNext ex2 8 (.tuple #[.int .i64 0, .int .i64 0, .int .i64 4]) := .inr ⟨by decide +kernel, rfl⟩

theorem Set_ok (w0 w : World) (F : List HP) (c : Nat) (f : Nat → Int) (hs : St w0 (mapP c f :: F) w) (s n : Nat) (no : Int) (h1 : okSet s n no) :
    Calls Try.prog 21 #[.pointer (some ⟨c, 0, none⟩), .int .i64 s, .int .i64 n, .int .i64 no] w fun e w' => e = .returned (.int .i64 0) ∧ St w0 (mapP c (fill f s n no) :: F) w' := by
  have h := Set_x w0 w F c f hs s n no
  rw [show SetE s n no = 0 from if_pos h1, show Mset f s n no = fill f s n no from if_pos h1] at h
  exact h
theorem Clear_ok (w0 w : World) (F : List HP) (c : Nat) (f : Nat → Int) (hs : St w0 (mapP c f :: F) w) (s n : Nat) (h1 : okRun s n) :
    Calls Try.prog 32 #[.pointer (some ⟨c, 0, none⟩), .int .i64 s, .int .i64 n] w fun e w' => e = .returned (.int .i64 0) ∧ St w0 (mapP c (fill f s n 0) :: F) w' := by
  have h := Clear_x w0 w F c f hs s n
  rw [show setE s n = 0 from if_pos h1, show mset f s n 0 = fill f s n 0 from if_pos h1] at h
  exact h
theorem marks_is (w : World) (b : Bool) (a1 a2 : Option Addr) (m ca cb : Nat) (xs ys : List Mk) (h1 : xs.length = m) (h2 : ys.length = m) (hb : decide (xs = ys) = b) (hx : MarksAt w (.slice a1 m ca) xs) (hy : MarksAt w (.slice a2 m cb) ys) (hn : m ≤ 1024) :
    Calls Try.prog 23 #[.slice a1 m ca, .slice a2 m cb] w fun e w' => e = .returned (.bool b) ∧ ∃ n, w' = w.drewN n := by
  subst h1 hb
  have h := marks_any w a1 a2 ca cb xs ys hx (by rw [h2]; exact hy) (by omega)
  rw [h2] at h
  exact h

set_option maxRecDepth 20000 in
set_option maxHeartbeats 4000000 in
theorem alive_any (w0 w : World) (F : List HP) (hs : St w0 F w) : Calls Try.prog 13 #[] w fun e w' => e = .returned (.bool true) ∧ St w0 F w' := by
  go_enter Try.func13, Try.ntmps13
  go_wp2_with fail
  refine (new_any w0 w F hs).mono ?_
  rintro e w1 ⟨c, rfl, h1⟩
  go_wp2_with fail
  refine (Set_ok w0 w1 F c _ h1 6 4 5 (by decide)).mono ?_
  rintro e w2 ⟨rfl, h2⟩
  have h2 : St w0 (mapP c ex1 :: F) w2 := h2
  go_wp2_with fail
  refine (get_in w0 w2 F c ex1 h2 9 (by decide)).mono ?_
  rintro e w' ⟨rfl, rfl⟩
  rw [show ex1 9 = 5 by decide +kernel]
  go_wp2_with fail
  refine (nodes_any w0 w2 F c ex1 h2).mono ?_
  rintro e w' ⟨rfl, rfl⟩
  rw [ex1_mids, ex1_leaves]
  go_wp2_with fail
  refine (Marks_any w0 w2 F c ex1 h2).mono ?_
  rintro e w3 ⟨a3, p3, rfl, h3⟩
  rw [ex1_marks] at h3 ⊢
  have h3 : St w0 (mapP c ex1 :: marksP (.slice a3 1 p3) [⟨6, 4, 5⟩] :: F) w3 := h3.swap
  go_wp2_with fail
  refine (Clear_ok w0 w3 _ c ex1 h3 8 2 (by decide)).mono ?_
  rintro e w4 ⟨rfl, h4⟩
  have h4 : St w0 (mapP c ex2 :: marksP (.slice a3 1 p3) [⟨6, 4, 5⟩] :: F) w4 := h4
  go_wp2_with fail
  refine (nodes_any w0 w4 _ c ex2 h4).mono ?_
  rintro e w' ⟨rfl, rfl⟩
  rw [ex2_mids, ex2_leaves]
  go_wp2_with fail
  refine (next_any w0 w4 _ c ex2 ex2_ok h4 0).mono ?_
  rintro e w' ⟨v, rfl, hv, rfl⟩
  obtain rfl := isNext_one hv ex2_next0
  clear hv
  go_wp2_with fail
  refine (next_any w0 w4 _ c ex2 ex2_ok h4 8).mono ?_
  rintro e w' ⟨v, rfl, hv, rfl⟩
  obtain rfl := isNext_one hv ex2_next8
  clear hv
  go_wp2_with fail
  refine (Set_ok w0 w4 _ c ex2 h4 7 1 6 (by decide)).mono ?_
  rintro e w5 ⟨rfl, h5⟩
  have h5 : St w0 (mapP c ex3 :: marksP (.slice a3 1 p3) [⟨6, 4, 5⟩] :: F) w5 := h5
  have h6 := St.newArr h5 42 3 1 (mkCells [⟨6, 4, 5⟩]) rfl (by unfold maxLen; omega)
  go_wp2_with fail
  refine (marks_is _ true a3 _ 1 p3 1 [⟨6, 4, 5⟩] [⟨6, 4, 5⟩] rfl rfl rfl (marks_at (h6.front 2)) (HP.arr_reads h6) (by decide)).mono ?_
  rintro e w' ⟨rfl, n, rfl⟩
  have h7 : St w0 (mapP c ex3 :: F) _ := (h6.drewN n).pick 3 [1]
  go_wp2_with fail
  refine (Marks_any w0 _ F c ex3 h7).mono ?_
  rintro e w8 ⟨a8, p8, rfl, h8⟩
  rw [ex3_marks] at h8 ⊢
  have h8 : St w0 (marksP (.slice a8 2 p8) [⟨6, 1, 5⟩, ⟨7, 1, 6⟩] :: mapP c ex3 :: F) w8 := h8
  have h9 := St.newArr h8 42 3 2 (mkCells [⟨6, 1, 5⟩, ⟨7, 1, 6⟩]) rfl (by unfold maxLen; omega)
  go_wp2_with fail
  refine (marks_is _ true a8 _ 2 p8 2 [⟨6, 1, 5⟩, ⟨7, 1, 6⟩] [⟨6, 1, 5⟩, ⟨7, 1, 6⟩] rfl rfl rfl (marks_at (h9.front 1)) (HP.arr_reads h9) (by decide)).mono ?_
  rintro e w' ⟨rfl, n2, rfl⟩
  have h10 : St w0 F _ := (h9.drewN n2).drop.drop.drop
  go_wp2_with fail
  go_ret
  exact ⟨rfl, h10⟩
end Go.Proofs.Ythknghkiogiajaa

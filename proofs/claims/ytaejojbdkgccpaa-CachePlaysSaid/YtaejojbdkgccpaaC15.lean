/-
  What Scavenge and Drain do to one list.
-/
import Derived.Test.YtaejojbdkgccpaaC14
namespace Go.Proofs.Ytaejojbdkgccpaa
open Go.RowKit Go.Maps Go.ChangeMaps

theorem drain1_any (w0 w : World) (F : List HP) (b : Nat) (x : CL) (hok : x.ok) (v : Value) (hs : St w0 (lstP b x :: F) w) :
    Calls Try.prog 48 #[.pointer (some ⟨b, 0, none⟩), v] w fun e w' => ∃ a' c', e = .returned (.slice a' x.objs.length c') ∧ St w0 (intsP (.slice a' x.objs.length c') x.objs :: lstP b x.drainF :: F) w' := by
  have H := Lib.hid (oldest_any w0 w F b x x.objs.length (Nat.le_refl _) hok.2.2.2 (by have := hok.2.2; omega) hs)
  obtain ⟨a, cap, g⟩ := lst_open hs
  obtain ⟨c0, c1, c2⟩ := g.cells3
  have e1 : x.objs.take x.objs.length = x.objs := List.take_of_length_le (Nat.le_refl _)
  have e2 : CL.oldest x.objs.length x = x.drainF := by unfold CL.oldest CL.drainF; rw [List.drop_of_length_le (Nat.le_refl _)]; simp
  rw [e1, e2] at H
  clear e1 e2 hs g hok
  go_enter Try.func48, Try.ntmps48
  go_wp2_with fail
  refine H.out.mono ?_
  rintro e w1 ⟨a', c', rfl, h1⟩
  go_wp2_with fail
  go_ret
  exact ⟨a', c', rfl, h1⟩

set_option maxHeartbeats 1000000 in
theorem scav1_any (w0 w : World) (F : List HP) (b : Nat) (x : CL) (hok : x.ok) (B : Nat) (hB : 1 ≤ B ∧ B ≤ 32) (hs : St w0 (lstP b x :: F) w) :
    Calls Try.prog 45 #[.pointer (some ⟨b, 0, none⟩), .int .i64 B] w fun e w' => ∃ a' c', e = .returned (.slice a' x.scavN c') ∧ St w0 (intsP (.slice a' x.scavN c') x.scavL :: lstP b (x.scavF B) :: F) w' := by
  obtain ⟨k1, k2, k3, k4⟩ := hok
  have hn : x.scavN ≤ x.objs.length := by unfold CL.scavN; omega
  have H := Lib.hid (oldest_any w0 w F b x x.scavN hn k4 (by omega) hs)
  obtain ⟨a, cap, g⟩ := lst_open hs
  obtain ⟨c0, c1, c2⟩ := g.cells3
  have q0 : IntKind.i64.wrap ((x.low : Int) + 1) = (x.low : Int) + 1 := IntWalk.i64_in _ (by omega)
  have q1 : ((x.low : Int) + 1).tdiv 2 = (x.scavN : Int) := by unfold CL.scavN; rw [Int.tdiv_eq_ediv_of_nonneg (by omega)]; omega
  have q2 : ((x.low : Int) + 1) / 2 = (x.scavN : Int) := by unfold CL.scavN; omega
  have q3 : IntKind.i64.wrap ((x.lim : Int) - (B : Int)) = (x.lim : Int) - (B : Int) := IntWalk.i64_in _ (by omega)
  have q4 : IntKind.i64.wrap (x.scavN : Int) = (x.scavN : Int) := IntWalk.i64_in _ (by omega)
  have eL : x.objs.take x.scavN = x.scavL := rfl
  rw [eL] at H
  have hlen : (x.objs.drop x.scavN).length = x.objs.length - x.scavN := List.length_drop
  obtain ⟨lim2, hlim2⟩ : ∃ m : Nat, m = if B < x.lim then max (x.lim - B) B else x.lim := ⟨_, rfl⟩
  have eF : x.scavF B = ⟨x.objs.drop x.scavN, lim2, x.objs.length - x.scavN⟩ := by unfold CL.scavF; rw [hlim2]
  rw [eF]
  have LM := Lib.hid hlim2
  generalize x.scavN = n at *
  clear eL eF hs g k3 hlim2
  have M : ∃ m : Nat, CL.oldest n x = ⟨x.objs.drop n, x.lim, m⟩ := ⟨_, rfl⟩
  obtain ⟨m, hm⟩ := M
  rw [hm] at H
  clear hm
  generalize x.scavL = L at *
  cases x with
  | mk l lim low =>
  dsimp only at *
  go_enter Try.func45, Try.ntmps45
  go_wp2_with fail
  refine H.out.mono ?_
  rintro e w1 ⟨a', c', rfl, h1⟩
  clear c0 c1 c2
  obtain ⟨a2, cap2, g⟩ := lst_open (h1.front 1)
  dsimp only at g
  obtain ⟨c0, c1, c2⟩ := g.cells3
  have f1 := g.frozen 1
  have f2 := g.frozen 2
  rw [hlen] at c0
  have G := Lib.hid g
  have S1 : Hid (∀ v1 v2, v1 = Value.int .i64 lim2 → v2 = Value.int .i64 ((l.length - n : Nat) : Int) → St w0 (intsP (.slice a' n c') L :: lstP b ⟨l.drop n, lim2, l.length - n⟩ :: F) ((w1.setCell ⟨b, 1, none⟩ v1).setCell ⟨b, 2, none⟩ v2)) := Lib.hid fun v1 v2 e1 e2 => by
    subst e1 e2
    exact (lst_shut ((G.out.set 1 _).set 2 _)).swap
  by_cases hB2 : B < lim
  · have j0 : decide ((B : Int) < (lim : Int)) = true := decide_eq_true (by omega)
    have j0' : decide (B < lim) = true := decide_eq_true (by omega)
    obtain ⟨z0, z1, z2⟩ := (g.set 1 (.int .i64 ((lim2 : Nat) : Int))).cells3
    have y2 := (g.set 1 (.int .i64 ((lim2 : Nat) : Int))).frozen 2
    rw [if_pos hB2] at LM
    have q5 : max ((lim : Int) - (B : Int)) (B : Int) = (lim2 : Int) := by rw [LM.out]; omega
    clear g h1 G
    go_wp2_with fail
    go_ret
    exact ⟨a', c', rfl, S1.out _ _ rfl rfl⟩
  · have j0 : decide ((B : Int) < (lim : Int)) = false := decide_eq_false (by omega)
    have j0' : decide (B < lim) = false := decide_eq_false (by omega)
    rw [if_neg hB2] at LM
    have S2 : Hid (∀ v2, v2 = Value.int .i64 ((l.length - n : Nat) : Int) → St w0 (intsP (.slice a' n c') L :: lstP b ⟨l.drop n, lim2, l.length - n⟩ :: F) (w1.setCell ⟨b, 2, none⟩ v2)) := Lib.hid fun v2 e2 => by
      subst e2
      rw [LM.out]
      exact (lst_shut (G.out.set 2 _)).swap
    clear g h1 G S1
    go_wp2_with fail
    go_ret
    exact ⟨a', c', rfl, S2.out _ rfl⟩
end Go.Proofs.Ytaejojbdkgccpaa

/-
  The reference's Take.
-/
import Derived.Test.YtaejojbdkgccpaaC34
namespace Go.Proofs.Ytaejojbdkgccpaa
open Go.RowKit Go.Maps Go.ChangeMaps

theorem updC_twice (s : Nat → CL) (k : Nat) (x y : CL) : updC (updC s k x) k y = updC s k y := by
  funext i
  unfold updC
  split <;> rfl
set_option maxRecDepth 10000 in
set_option maxHeartbeats 4000000 in
theorem rtake_in {w0 w : World} {F : List HP} {c : Nat} {tb : List Cls} {bud : Int} {s : Nat → CL} (ht : tbOk tb) (h : St w0 (refP c tb bud s :: F) w) {k : Nat} (hk : k < tb.length) (hok : (s k).ok) :
    Calls Try.prog 53 #[.pointer (some ⟨c, 0, none⟩), .int .i64 k] w fun e w' => e = .returned (.tuple #[.int .i64 (s k).takeV, .int .i64 (s k).takeE]) ∧ St w0 (refP c tb bud (updC s k ((s k).takeF (Bt tb k))) :: F) w' := by
  have H := Lib.hid (rwrong_in ht.1 h k)
  rw [if_pos (show inC tb.length (k : Int) by unfold inC; omega)] at H
  obtain ⟨x, hx⟩ : ∃ x, tb[k]? = some x := ⟨tb[k], List.getElem?_eq_getElem hk⟩
  have hb := Bt_of ht hx
  have hB := Bt_range ht k
  obtain ⟨D, g⟩ := ref_open h
  obtain ⟨bt, ot, hall⟩ := ref_all g hx
  obtain ⟨z0, z1, z2, z3, z4, z5, z6, z7, z8, z9⟩ := hall _ _ g
  rw [hb] at z9
  have HS := Lib.hid g
  have i0' : (0 : Int) ≤ (k : Int) := by omega
  have i1' : (k : Int) < (tb.length : Int) := by omega
  obtain ⟨k1, k2, k3, k4⟩ := hok
  clear h hb hx ht
  generalize Bt tb k = B at *
  by_cases hl : (s k).objs.length = 0
  · have hnil : (s k).objs = [] := List.eq_nil_of_length_eq_zero hl
    have e1 : (s k).takeV = 0 := by unfold CL.takeV; rw [hnil]; rfl
    have e2 : (s k).takeE = 4 := if_pos hl
    have e3 : (s k).takeF B = ⟨(s k).objs, if (s k).lim < B then (s k).lim + 1 else min ((s k).lim + B) 128, (s k).low⟩ := if_pos hl
    rw [e1, e2, e3]
    rw [hl] at z5
    have G : Hid (∀ v (m : Nat), v = Value.int .i64 m → St w0 (refP c tb bud (updC s k ⟨(s k).objs, m, (s k).low⟩) :: F) (w.drew.setCell ⟨D.mb, D.mo + k, none⟩ v)) := Lib.hid fun v m hv => by subst hv; exact ref_shut (ref_setM hk m g.drew).1
    have fz := (ref_setM hk 0 g).2
    have fz' := (ref_setM hk 0 g.drew).2
    have q1 : IntKind.i64.wrap (((s k).lim : Int) + 1) = (((s k).lim + 1 : Nat) : Int) := by rw [IntWalk.i64_in _ (by omega)]; rfl
    have q2 : IntKind.i64.wrap (((s k).lim : Int) + (B : Int)) = (((s k).lim + B : Nat) : Int) := by rw [IntWalk.i64_in _ (by omega)]; rfl
    clear e1 e2 e3 hall g
    by_cases hlb : (s k).lim < B
    · have j1 : decide (((s k).lim : Int) < (B : Int)) = true := decide_eq_true (by omega)
      rw [if_pos hlb]
      generalize (s k).lim = lim at *
      go_enter Try.func53, Try.ntmps53
      go_wp2_with fail
      refine H.out.mono ?_
      rintro e w' ⟨rfl, rfl⟩
      go_wp2_with fail
      refine wp_region_tail_drew 15 (by kernel_rfl) (by kernel_rfl) ?_
      simp only [List.take_succ_cons, List.take_zero, List.drop_succ_cons, List.drop_zero]
      repeat still_step
      refine wpStill_nil ?_
      go_wp2_with fail
      all_goals go_ret2
      all_goals exact ⟨rfl, G.out _ _ (by congr 1; omega)⟩
    · have j1 : decide (((s k).lim : Int) < (B : Int)) = false := decide_eq_false (by omega)
      rw [if_neg hlb]
      generalize (s k).lim = lim at *
      go_enter Try.func53, Try.ntmps53
      go_wp2_with fail
      refine H.out.mono ?_
      rintro e w' ⟨rfl, rfl⟩
      go_wp2_with fail
      refine wp_region_tail_drew 15 (by kernel_rfl) (by kernel_rfl) ?_
      simp only [List.take_succ_cons, List.take_zero, List.drop_succ_cons, List.drop_zero]
      repeat still_step
      refine wpStill_nil ?_
      go_wp2_with fail
      all_goals go_ret2
      all_goals exact ⟨rfl, G.out _ _ (by congr 1; omega)⟩
  · have hn : 0 < (s k).objs.length := by omega
    have q0 : IntKind.i64.wrap (((s k).objs.length : Int) - 1) = (((s k).objs.length - 1 : Nat) : Int) := by rw [IntWalk.i64_in _ (by omega)]; omega
    have i2 : (((s k).objs.length : Int) == 0) = false := by rw [beq_eq_false_iff_ne]; omega
    obtain ⟨z, hz⟩ : ∃ z, (s k).objs[(s k).objs.length - 1]? = some z := ⟨(s k).objs[(s k).objs.length - 1]'(by omega), List.getElem?_eq_getElem (by omega)⟩
    have e1 : (s k).takeV = z := by unfold CL.takeV; rw [List.getLast?_eq_getElem?, hz]; rfl
    have e2 : (s k).takeE = 0 := if_neg hl
    have e3 : (s k).takeF B = ⟨(s k).objs.take ((s k).objs.length - 1), (s k).lim, min (s k).low ((s k).objs.length - 1)⟩ := if_neg hl
    rw [e1, e2, e3]
    have f := ref_focus hk g
    obtain ⟨b1, o1, cap1, hv, hc, hcl⟩ := Reads.lies (HP.arr_reads f) hn
    have zl := hcl ((s k).objs.length - 1) (.int .i64 z) (by unfold intsC; rw [List.getElem?_map, hz]; rfl)
    injection hv with h1 h2 h3
    rw [← h3] at hc
    rw [h1] at z5 f
    have f2 : St w0 (intsP (.slice (some ⟨b1, o1, none⟩) ((s k).objs.take ((s k).objs.length - 1)).length (D.vc k)) ((s k).objs.take ((s k).objs.length - 1)) :: (refR c tb bud s D k ++ F)) w := by
      have g3 := f.mono (HP.arr_take (k := (s k).objs.length - 1) (by omega) hc)
      rw [Nat.mul_one, intsC_take] at g3
      have e : ((s k).objs.take ((s k).objs.length - 1)).length = (s k).objs.length - 1 := by rw [List.length_take, Nat.min_eq_left (by omega)]
      unfold intsP
      rw [e]
      exact g3
    obtain ⟨g4, fz⟩ := ref_backL hk f2.drew
    have fz0 := (ref_backL hk f2).2
    rw [show ((s k).objs.take ((s k).objs.length - 1)).length = (s k).objs.length - 1 by rw [List.length_take, Nat.min_eq_left (by omega)]] at g4
    generalize hw2 : w.drew.setCell ⟨D.lb, D.lo + k, none⟩ (.slice (some ⟨b1, o1, none⟩) ((s k).objs.length - 1) (D.vc k)) = w2 at *
    have y4 : w2.cell? ⟨c, 4, none⟩ = some (.slice (some ⟨D.wb, D.wo, none⟩) tb.length D.wc) := (ref_head g4).2.2.2.2
    have y7 : w2.cell? ⟨D.wb, D.wo + k, none⟩ = some (.int .i64 (s k).low) := by
      have := (ref_at g4 hk).2.2
      rw [updC_same] at this
      exact this
    have G : Hid (∀ v (m : Nat), v = Value.int .i64 m → St w0 (refP c tb bud (updC s k ⟨(s k).objs.take ((s k).objs.length - 1), (s k).lim, m⟩) :: F) (w2.drew.setCell ⟨D.wb, D.wo + k, none⟩ v)) := Lib.hid fun v m hv => by
      subst hv
      have := ref_shut (ref_setW hk m g4.drew).1
      rw [updC_same, updC_twice] at this
      exact this
    have fy : w2.frozen? ⟨D.wb, D.wo + k, none⟩ = false := (ref_setW hk 0 g4).2
    have fy' : w2.drew.frozen? ⟨D.wb, D.wo + k, none⟩ = false := (ref_setW hk 0 g4.drew).2
    have i3 : ((s k).objs.length : Int) - 1 ≤ (D.vc k : Int) := by omega
    have i4 : (s k).objs.length - 1 ≤ D.vc k := by omega
    have i5 : (((s k).objs.length - 1 : Nat) : Int) < ((s k).objs.length : Int) := by omega
    have i6 : (s k).objs.length - 1 < (s k).objs.length := by omega
    have LW : Hid (min (s k).low ((s k).objs.length - 1) = min (s k).low ((s k).objs.length - 1)) := Lib.hid rfl
    clear e1 e2 e3 hall g f f2 hcl h2 h3 hz g4 HS
    generalize (s k).objs.length - 1 = n1 at *
    go_enter Try.func53, Try.ntmps53
    go_wp2_with fail
    refine H.out.mono ?_
    rintro e w' ⟨rfl, rfl⟩
    go_wp2_with fail
    refine wp_region_tail_drew 15 (by kernel_rfl) (by kernel_rfl) ?_
    simp only [List.take_succ_cons, List.take_zero, List.drop_succ_cons, List.drop_zero]
    repeat still_step
    refine wpStill_nil ?_
    go_wp2_with fail
    clear hw2
    refine wp_region_tail_drew 15 (by kernel_rfl) (by kernel_rfl) ?_
    simp only [List.take_succ_cons, List.take_zero, List.drop_succ_cons, List.drop_zero]
    repeat still_step
    refine wpStill_nil ?_
    go_wp2_with fail
    all_goals go_ret2
    all_goals exact ⟨rfl, G.out _ _ (by congr 1; omega)⟩
end Go.Proofs.Ytaejojbdkgccpaa

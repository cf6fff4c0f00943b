/-
  Put.
-/
import Derived.Test.YtaejojbdkgccpaaC12
namespace Go.Proofs.Ytaejojbdkgccpaa
open Go.RowKit Go.Maps Go.ChangeMaps

theorem put_out (w0 w : World) (F : List HP) (c : Nat) (tb : List Cls) (bud : Int) (s : Nat → CL) (hs : St w0 (cacheP c tb bud s :: F) w) (k o : Int) (hk : ¬ inC tb.length k) :
    Calls Try.prog 38 #[.pointer (some ⟨c, 0, none⟩), .int .i64 k, .int .i64 o] w fun e w' => e = .returned (.tuple #[.slice none 0 0, .int .i64 1]) ∧ w = w' := by
  have H := Lib.hid (find_out w0 w F c tb bud s hs k hk)
  clear hs hk
  go_enter Try.func38, Try.ntmps38
  go_wp2_with fail
  refine H.out.mono ?_
  rintro e w1 ⟨rfl, rfl⟩
  go_wp2_with fail
  go_ret2
  exact ⟨rfl, rfl⟩

set_option maxRecDepth 10000 in
set_option maxHeartbeats 4000000 in
theorem put_in (w0 w : World) (F : List HP) (c : Nat) (tb : List Cls) (bud : Int) (s : Nat → CL) (ht : tbOk tb) (hs : St w0 (cacheP c tb bud s :: F) w) (k : Nat) (hk : k < tb.length) (hok : (s k).ok) (o : Int) :
    Calls Try.prog 38 #[.pointer (some ⟨c, 0, none⟩), .int .i64 k, .int .i64 o] w fun e w' => ∃ a' c', e = .returned (.tuple #[.slice a' ((s k).putL (Bt tb k) o).length c', .int .i64 (s k).putE]) ∧
      St w0 (intsP (.slice a' ((s k).putL (Bt tb k) o).length c') ((s k).putL (Bt tb k) o) :: cacheP c tb bud (updC s k ((s k).putF (Bt tb k) o)) :: F) w' := by
  have H := Lib.hid (find_in w0 w F c tb bud s ht.2.1 hs k hk)
  have hB := Bt_range ht k
  obtain ⟨x, hx⟩ : ∃ x, tb[k]? = some x := ⟨tb[k], List.getElem?_eq_getElem hk⟩
  have hb := Bt_of ht hx
  have HX := Lib.hid hx
  clear hs hx ht
  generalize Bt tb k = B at *
  generalize hxk : s k = y at *
  have HK := Lib.hid hxk
  clear hxk
  obtain ⟨k1, k2, k3, k4⟩ := hok
  cases y with
  | mk l lim low =>
  dsimp only at *
  have i0 : (k : Int) < (tb.length : Int) := by omega
  have hA : ∀ w2 (G : List HP) b v, St w0 (lstP b ⟨l, lim, low⟩ :: G) w2 → Reads w2 1 v 1 [.int .i64 o] → ∃ a2 cap2, v = .slice a2 1 cap2 ∧ Calls Try.prog 43 #[.pointer (some ⟨b, 0, none⟩), .slice a2 1 cap2] w2 fun e w' => e = .returned (.int .i64 (if 256 < l.length + 1 then 6 else 0)) ∧ St w0 (lstP b (CL.addF ⟨l, lim, low⟩ [o]) :: G) w' := by
    intro w2 G b v h1 h2
    obtain ⟨a2, cap2, rfl⟩ := h2.form
    exact ⟨a2, cap2, rfl, add_any w0 w2 G b ⟨l, lim, low⟩ a2 cap2 [o] h1 h2 k4 (by simp)⟩
  have HA := Lib.hid hA
  clear hA
  by_cases hfull : 256 < l.length + 1
  · have e1 : CL.putL B ⟨l, lim, low⟩ o = [] := if_pos hfull
    have e2 : CL.putE ⟨l, lim, low⟩ = 6 := if_pos hfull
    have e3 : CL.putF B ⟨l, lim, low⟩ o = ⟨l, lim, low⟩ := if_pos hfull
    have e4 : CL.addF ⟨l, lim, low⟩ [o] = ⟨l, lim, low⟩ := if_pos hfull
    rw [if_pos hfull, e4] at HA
    rw [e1, e2, e3]
    clear e1 e2 e3 e4 hfull
    go_enter Try.func38, Try.ntmps38
    go_wp2_with fail
    refine H.out.mono ?_
    rintro e w1 ⟨b, D, R, rfl, hf⟩
    have BK := Lib.hid hf.back
    have hst := hf.st
    rw [HK.out] at hst
    have g := hst.newArr 3 1 1 [.int .i64 o] rfl (by decide)
    obtain ⟨a2, cap2, hv, A⟩ := HA.out _ _ b _ g.swap (HP.arr_reads g)
    cases hv
    have A := Lib.hid A
    clear hf H hst g HA
    go_wp2_with fail
    refine A.out.mono ?_
    rintro e w2 ⟨rfl, g⟩
    go_wp2_with fail
    go_ret2
    have g2 := BK.out ⟨l, lim, low⟩ F w2 g.swap.drop
    exact ⟨none, 0, rfl, g2.arr_nil 3 1⟩
  have e2 : CL.putE ⟨l, lim, low⟩ = 0 := if_neg hfull
  have e4 : CL.addF ⟨l, lim, low⟩ [o] = ⟨l ++ [o], lim, low⟩ := if_neg hfull
  rw [if_neg hfull, e4] at HA
  rw [e2]
  clear e2 e4
  by_cases hle : l.length + 1 ≤ lim
  · have e1 : CL.putL B ⟨l, lim, low⟩ o = [] := by unfold CL.putL; rw [if_neg hfull, if_pos hle]
    have e3 : CL.putF B ⟨l, lim, low⟩ o = ⟨l ++ [o], lim, low⟩ := by unfold CL.putF; rw [if_neg hfull, if_pos hle]
    rw [e1, e3]
    clear e1 e3
    have j0 : decide (((l.length : Int) + 1) ≤ (lim : Int)) = true := decide_eq_true (by omega)
    go_enter Try.func38, Try.ntmps38
    go_wp2_with fail
    refine H.out.mono ?_
    rintro e w1 ⟨b, D, R, rfl, hf⟩
    have BK := Lib.hid hf.back
    have hst := hf.st
    rw [HK.out] at hst
    have g := hst.newArr 3 1 1 [.int .i64 o] rfl (by decide)
    obtain ⟨a2, cap2, hv, A⟩ := HA.out _ _ b _ g.swap (HP.arr_reads g)
    cases hv
    have A := Lib.hid A
    clear hf H hst g HA
    go_wp2_with fail
    refine A.out.mono ?_
    rintro e w2 ⟨rfl, g⟩
    obtain ⟨a, cap, g3⟩ := lst_open g
    obtain ⟨c0, c1, c2⟩ := g3.cells3
    have S := Lib.hid (BK.out ⟨l ++ [o], lim, low⟩ F w2 g.swap.drop)
    clear g g3 A
    rw [List.length_append, List.length_singleton] at c0
    go_wp2_with fail
    refine wp_region_tail_drew 9 (by kernel_rfl) (by kernel_rfl) ?_
    simp only [List.take_succ_cons, List.take_zero, List.drop_succ_cons, List.drop_zero]
    repeat still_step
    refine wpStill_nil ?_
    go_wp2_with fail
    all_goals go_ret2
    all_goals exact ⟨none, 0, rfl, S.out.drew.arr_nil 3 1⟩
  · have e1 : CL.putL B ⟨l, lim, low⟩ o = (l ++ [o]).take (min B (l.length + 1)) := by unfold CL.putL; rw [if_neg hfull, if_neg hle]
    have e3 : CL.putF B ⟨l, lim, low⟩ o = CL.oldest (min B (l.length + 1)) ⟨l ++ [o], if lim < B then lim + 1 else lim, low⟩ := by unfold CL.putF; rw [if_neg hfull, if_neg hle]
    have e5 : ((l ++ [o]).take (min B (l.length + 1))).length = min B (l.length + 1) := by rw [List.length_take, List.length_append, List.length_singleton]; omega
    rw [e1, e3, e5]
    clear e1 e3 e5
    have hm1 : min B (l.length + 1) ≤ (l ++ [o]).length := by rw [List.length_append, List.length_singleton]; omega
    have hm2 : min B (l.length + 1) = if B ≤ l.length + 1 then B else l.length + 1 := by split <;> omega
    generalize min B (l.length + 1) = m at *
    have M1 := Lib.hid hm1
    have M2 := Lib.hid hm2
    clear hm1 hm2
    have j0 : decide (((l.length : Int) + 1) ≤ (lim : Int)) = false := decide_eq_false (by omega)
    have q1 : IntKind.i64.wrap ((lim : Int) + 1) = ((lim + 1 : Nat) : Int) := by rw [IntWalk.i64_in _ (by omega)]; rfl
    generalize hlm : (if lim < B then lim + 1 else lim) = lim2
    have LM := Lib.hid hlm
    clear hlm
    have O : Hid (∀ w2 (G : List HP) b, St w0 (lstP b ⟨l ++ [o], lim2, low⟩ :: G) w2 → Calls Try.prog 46 #[.pointer (some ⟨b, 0, none⟩), .int .i64 m] w2 fun e w' => ∃ a' c', e = .returned (.slice a' m c') ∧
      St w0 (intsP (.slice a' m c') ((l ++ [o]).take m) :: lstP b (CL.oldest m ⟨l ++ [o], lim2, low⟩) :: G) w') := Lib.hid fun w2 G b h => oldest_any w0 w2 G b ⟨l ++ [o], lim2, low⟩ m M1.out (by rw [List.length_append, List.length_singleton]; omega) (by show low ≤ 256; omega) h
    clear k3 k4 hfull hle
    go_enter Try.func38, Try.ntmps38
    go_wp2_with fail
    refine H.out.mono ?_
    rintro e w1 ⟨b, D, R, rfl, hf⟩
    have BK := Lib.hid hf.back
    have hst := hf.st
    rw [HK.out] at hst
    have g := hst.newArr 3 1 1 [.int .i64 o] rfl (by decide)
    obtain ⟨a2, cap2, hv, A⟩ := HA.out _ _ b _ g.swap (HP.arr_reads g)
    cases hv
    have A := Lib.hid A
    clear hf H hst g HA
    go_wp2_with fail
    refine A.out.mono ?_
    rintro e w2 ⟨rfl, g⟩
    obtain ⟨a, cap, g3⟩ := lst_open g
    rw [List.length_append, List.length_singleton] at g3
    obtain ⟨c0, c1, c2⟩ := g3.cells3
    obtain ⟨d0, _, _⟩ := St.cells3 (g3.front 3)
    obtain ⟨tbb, toff, tcap, tv, _, _, t2⟩ := tb_cells (HP.arr_reads (g3.front 4)) HX.out
    rw [tv] at d0
    rw [hb] at t2
    have f1 := g3.frozen 1
    have S2 := Lib.hid g3
    clear g g3 A tv
    go_wp2_with fail
    refine wp_region_tail_drew 9 (by kernel_rfl) (by kernel_rfl) ?_
    simp only [List.take_succ_cons, List.take_zero, List.drop_succ_cons, List.drop_zero]
    repeat still_step
    refine wpStill_nil ?_
    have EM := Lib.hid (show (min (B : Int) ((l.length : Int) + 1)) = (m : Int) by rw [M2.out]; split <;> omega)
    by_cases hlb : lim < B
    · have j1 : decide ((lim : Int) < (B : Int)) = true := decide_eq_true (by omega)
      rw [if_pos hlb] at LM
      have g5 : St w0 (HP.blk b #[.slice a (l.length + 1) cap, .int .i64 ((lim + 1 : Nat) : Int), .int .i64 low] 72 :: _) ((w2.setCell ⟨b, 1, none⟩ (.int .i64 ((lim + 1 : Nat) : Int))).drew) := (S2.out.set 1 _).drew
      obtain ⟨z0, _, _⟩ := g5.cells3
      rw [LM.out] at g5
      have e6 : intsP (.slice a (l.length + 1) cap) (l ++ [o]) = intsP (.slice a (l ++ [o]).length cap) (l ++ [o]) := by rw [List.length_append, List.length_singleton]
      have O5 := O.out _ _ b (lst_shut g5)
      have e7 : ((lim2 : Nat) : Int) = (lim : Int) + 1 := by rw [← LM.out]; rfl
      rw [e7] at O5
      have O5 := Lib.hid O5
      clear g5 e6 e7
      go_wp2_with fail
      rw [EM.out]
      refine O5.out.mono ?_
      rintro e w3 ⟨a3, c3, rfl, g6⟩
      go_wp2_with fail
      go_ret2
      have g7 : St w0 (intsP (.slice a3 m c3) ((l ++ [o]).take m) :: lstP b (CL.oldest m ⟨l ++ [o], lim2, low⟩) :: headP c tb.length bud D :: HP.arr 43 3 (.slice D.ta tb.length D.tcap) tb.length (clsC tb) :: (R ++ F)) w3 := g6.pick 3 [0, 1]
      have g8 : St w0 (lstP b (CL.oldest m ⟨l ++ [o], lim2, low⟩) :: headP c tb.length bud D :: HP.arr 43 3 (.slice D.ta tb.length D.tcap) tb.length (clsC tb) :: (R ++ (intsP (.slice a3 m c3) ((l ++ [o]).take m) :: F))) w3 := g7.perm (by simp only [HP.big, HP.big_append]; ac_rfl)
      exact ⟨a3, c3, rfl, St.swap (BK.out _ _ _ g8)⟩
    · have j1 : decide ((lim : Int) < (B : Int)) = false := decide_eq_false (by omega)
      rw [if_neg hlb] at LM
      have g5 := S2.out.drew
      rw [show ((lim : Nat) : Int) = ((lim2 : Nat) : Int) by rw [LM.out]] at g5
      have e6 : intsP (.slice a (l.length + 1) cap) (l ++ [o]) = intsP (.slice a (l ++ [o]).length cap) (l ++ [o]) := by rw [List.length_append, List.length_singleton]
      have O5 := Lib.hid (O.out _ _ b (lst_shut g5))
      clear g5 e6
      go_wp2_with fail
      rw [EM.out]
      refine O5.out.mono ?_
      rintro e w3 ⟨a3, c3, rfl, g6⟩
      go_wp2_with fail
      go_ret2
      have g7 : St w0 (intsP (.slice a3 m c3) ((l ++ [o]).take m) :: lstP b (CL.oldest m ⟨l ++ [o], lim2, low⟩) :: headP c tb.length bud D :: HP.arr 43 3 (.slice D.ta tb.length D.tcap) tb.length (clsC tb) :: (R ++ F)) w3 := g6.pick 3 [0, 1]
      have g8 : St w0 (lstP b (CL.oldest m ⟨l ++ [o], lim2, low⟩) :: headP c tb.length bud D :: HP.arr 43 3 (.slice D.ta tb.length D.tcap) tb.length (clsC tb) :: (R ++ (intsP (.slice a3 m c3) ((l ++ [o]).take m) :: F))) w3 := g7.perm (by simp only [HP.big, HP.big_append]; ac_rfl)
      exact ⟨a3, c3, rfl, St.swap (BK.out _ _ _ g8)⟩
end Go.Proofs.Ytaejojbdkgccpaa

/-
  The reference's Put. (Printed by mkC39.py.)
-/
import Derived.Test.YtaejojbdkgccpaaC38
namespace Go.Proofs.Ytaejojbdkgccpaa
open Go.RowKit Go.Maps Go.ChangeMaps

theorem RD.put_va (D : RD) (k : Nat) (a : Option Addr) (p : Nat) : (D.put k a p).va k = a := by unfold RD.put upd; simp
theorem RD.put_vc (D : RD) (k : Nat) (a : Option Addr) (p : Nat) : (D.put k a p).vc k = p := by unfold RD.put upd; simp
set_option maxRecDepth 10000 in
set_option maxHeartbeats 4000000 in
theorem rput_in {w0 w : World} {F : List HP} {c : Nat} {tb : List Cls} {bud : Int} {s : Nat → CL} (ht : tbOk tb) (h : St w0 (refP c tb bud s :: F) w) {k : Nat} (hk : k < tb.length) (hok : (s k).ok) (o : Int) :
    Calls Try.prog 56 #[.pointer (some ⟨c, 0, none⟩), .int .i64 k, .int .i64 o] w fun e w' => ∃ a' c', e = .returned (.tuple #[.slice a' ((s k).putL (Bt tb k) o).length c', .int .i64 (s k).putE]) ∧
      St w0 (intsP (.slice a' ((s k).putL (Bt tb k) o).length c') ((s k).putL (Bt tb k) o) :: refP c tb bud (updC s k ((s k).putF (Bt tb k) o)) :: F) w' := by
  have H := Lib.hid (rwrong_in ht.1 h k)
  rw [if_pos (show inC tb.length (k : Int) by unfold inC; omega)] at H
  have HP0 := Lib.hid h
  obtain ⟨x, hx⟩ : ∃ x, tb[k]? = some x := ⟨tb[k], List.getElem?_eq_getElem hk⟩
  have hb := Bt_of ht hx
  have hB := Bt_range ht k
  obtain ⟨D, g⟩ := ref_open h
  obtain ⟨bt, ot, hall⟩ := ref_all g hx
  obtain ⟨z0, z1, z2, z3, z4, z5, z6, z7, z8, z9⟩ := hall _ _ g
  obtain ⟨k1, k2, k3, k4⟩ := hok
  have i0' : (0 : Int) ≤ (k : Int) := by omega
  have i1' : (k : Int) < (tb.length : Int) := by omega
  obtain ⟨i0, hi, hz0, hz1, hz2⟩ := info_parts info3
  have HI := Lib.hid hi
  have Z0 := Lib.hid hz0
  have Z1 := Lib.hid hz1
  have Z2 := Lib.hid hz2
  clear h hi hz0 hz1 hz2
  by_cases hfull : 256 < (s k).objs.length + 1
  · have e1 : (s k).putL (Bt tb k) o = [] := if_pos hfull
    have e2 : (s k).putE = 6 := if_pos hfull
    have e3 : (s k).putF (Bt tb k) o = s k := if_pos hfull
    rw [e1, e2, e3, updC_self]
    have d0 : decide ((256 : Int) ≤ ((s k).objs.length : Int)) = true := decide_eq_true (by omega)
    clear e1 e2 e3 hall g
    go_enter Try.func56, Try.ntmps56
    go_wp2_with fail
    refine H.out.mono ?_
    rintro e w' ⟨rfl, rfl⟩
    go_wp2_with fail
    go_ret2
    exact ⟨none, 0, rfl, HP0.out.arr_nil 3 1⟩
  · have e2 : (s k).putE = 0 := if_neg hfull
    rw [e2]
    have d0 : decide ((256 : Int) ≤ ((s k).objs.length : Int)) = false := decide_eq_false (by omega)
    have HALL := Lib.hid hall
    have HS := Lib.hid g
    have HX := Lib.hid hx
    have HB := Lib.hid hb
    have HT := Lib.hid ht
    clear e2 hall g hx hb ht
    go_enter Try.func56, Try.ntmps56
    go_wp2_with fail
    refine H.out.mono ?_
    rintro e w' ⟨rfl, rfl⟩
    go_wp2_with fail
    clear z0 z1 z2 z3 z4 z5 z6 z7 z8 z9
    refine wp_region_par (w0 := w0) 0 17 [16] [] (refL c tb bud s D ++ F) [(5, []), (13, [5]), (15, []), (16, [13, 15])]
      (fun i v => if i = 5 then ∃ a, v = .slice (some a) 0 0 else if i = 15 then ∃ a, v = .slice (some a) 1 1 else if i = 13 then ∃ a' c', v = .slice a' (s k).objs.length c' else ∃ a' c', v = .slice a' ((s k).objs ++ [o]).length c')
      (fun i v => if i = 5 then HP.arr 3 1 v 0 [] else if i = 15 then HP.arr 3 1 v 1 [.int .i64 o] else if i = 13 then intsP v (s k).objs else intsP v ((s k).objs ++ [o])) (by kernel_rfl) (by kernel_rfl) rfl (by kernel_rfl) (by simpa using HS.out) ?_
    simp only [List.take_succ_cons, List.take_zero, List.drop_succ_cons, List.drop_zero]
    iterate 5
      with_reducible refine wpPar_pure (by kernel_rfl) (fun K hK => ?_)
      go_simp
      apply Exists.intro
      refine ⟨fun G w1 h1 => ?_, hK _ ?_⟩
      (first
        | (with_reducible rfl)
        | (obtain ⟨z0, z1, z2, z3, z4, z5, z6, z7, z8, z9⟩ := HALL.out w1 _ h1; go_simp; done)
        | (obtain ⟨z0, z1, z2, z3, z4, z5, z6, z7, z8, z9⟩ := HALL.out w1 _ h1; go_simp; with_reducible rfl))
      clear hK K
    refine wpPar_eff (c := []) (by kernel_rfl) ⟨.slice (some ⟨0, 0, none⟩) 0 0, ⟨_, rfl⟩⟩ (fun G w1 h1 => ?_) (fun v hv K hK => ?_)
    · simp only [List.map_nil, List.nil_append] at h1
      go_simp
      simpa using h1.newArr 3 1 0 [] rfl (by decide)
    simp only [if_true] at hv
    obtain ⟨a5, rfl⟩ := hv
    refine hK _ ?_; clear hK K
    iterate 7
      with_reducible refine wpPar_pure (by kernel_rfl) (fun K hK => ?_)
      go_simp
      apply Exists.intro
      refine ⟨fun G w1 h1 => ?_, hK _ ?_⟩
      (first
        | (with_reducible rfl)
        | (obtain ⟨z0, z1, z2, z3, z4, z5, z6, z7, z8, z9⟩ := HALL.out w1 _ h1; go_simp; done)
        | (obtain ⟨z0, z1, z2, z3, z4, z5, z6, z7, z8, z9⟩ := HALL.out w1 _ h1; go_simp; with_reducible rfl))
      clear hK K
    refine wpPar_eff (c := [5]) (by kernel_rfl) ⟨(.slice none (s k).objs.length 0), (show ∃ a' c', (Value.slice none (s k).objs.length 0) = .slice a' (s k).objs.length c' from ⟨_, _, rfl⟩)⟩ (fun G w1 h1 => ?_) (fun v hv K hK => ?_)
    · simp [tokA, upd] at h1
      have R1 := ref_list h1.drop hk
      refine eff_append_st _ _ 28 rfl 3 i0 _ 1 8 Try.underlying28 HI.out Z0.out Z1.out Z2.out rfl _ _ rfl rfl 0 [] h1 (s k).objs.length (intsC (s k).objs) R1 (intsC_one _) (by unfold maxLen; omega) (by omega) ?_
      intro v' w' hs' _
      simp only [Nat.zero_add, List.nil_append] at hs'
      obtain ⟨a7, p7, rfl⟩ := (HP.arr_reads hs').form
      refine ⟨⟨a7, p7, rfl⟩, ?_⟩
      show St w0 (intsP _ _ :: _) w'
      simpa [intsP] using hs'
    simp only [show ¬ ((13 : Nat) = 5) by decide, show ¬ ((13 : Nat) = 15) by decide, if_true, if_false] at hv
    obtain ⟨a6, p6, rfl⟩ := hv
    refine hK _ ?_; clear hK K
    iterate 1
      with_reducible refine wpPar_pure (by kernel_rfl) (fun K hK => ?_)
      go_simp
      apply Exists.intro
      refine ⟨fun G w1 h1 => ?_, hK _ ?_⟩
      (first
        | (with_reducible rfl)
        | (obtain ⟨z0, z1, z2, z3, z4, z5, z6, z7, z8, z9⟩ := HALL.out w1 _ h1; go_simp; done)
        | (obtain ⟨z0, z1, z2, z3, z4, z5, z6, z7, z8, z9⟩ := HALL.out w1 _ h1; go_simp; with_reducible rfl))
      clear hK K
    refine wpPar_eff (c := []) (by kernel_rfl) ⟨.slice (some ⟨0, 0, none⟩) 1 1, ⟨_, rfl⟩⟩ (fun G w1 h1 => ?_) (fun v hv K hK => ?_)
    · simp only [List.map_nil, List.nil_append] at h1
      go_simp
      simpa using h1.newArr 3 1 1 [.int .i64 o] rfl (by decide)
    simp only [show ¬ ((15 : Nat) = 5) by decide, if_true, if_false] at hv
    obtain ⟨a8, rfl⟩ := hv
    refine hK _ ?_; clear hK K
    refine wpPar_eff (c := [13, 15]) (by kernel_rfl) ⟨(.slice none ((s k).objs ++ [o]).length 0), (show ∃ a' c', (Value.slice none ((s k).objs ++ [o]).length 0) = .slice a' ((s k).objs ++ [o]).length c' from ⟨_, _, rfl⟩)⟩ (fun G w1 h1 => ?_) (fun v hv K hK => ?_)
    · simp [tokA, upd] at h1
      have R1 := HP.arr_reads (h1.drop)
      refine eff_append_st _ _ 28 rfl 3 i0 _ 1 8 Try.underlying28 HI.out Z0.out Z1.out Z2.out rfl _ _ rfl rfl (s k).objs.length (intsC (s k).objs) h1 1 [.int .i64 o] R1 (by intro u hu; simp at hu; subst hu; rfl) (by unfold maxLen; omega) (by omega) ?_
      intro v' w' hs' _
      obtain ⟨a7, p7, rfl⟩ := (HP.arr_reads hs').form
      refine ⟨⟨a7, p7, by rw [List.length_append]; rfl⟩, ?_⟩
      show St w0 (intsP _ _ :: _) w'
      have hs2 := hs'.swap.drop
      unfold intsP
      rw [List.length_append, intsC, List.map_append]
      simpa [intsC] using hs2
    simp only [show ¬ ((16 : Nat) = 5) by decide, show ¬ ((16 : Nat) = 15) by decide, show ¬ ((16 : Nat) = 13) by decide, if_true, if_false] at hv
    obtain ⟨a9, p9, rfl⟩ := hv
    refine hK _ ?_; clear hK K
    refine wpPar_nil ?_
    intro w5 h5
    simp [tokA, upd] at h5
    have g5 : St w0 (refL c tb bud s D ++ (intsP (.slice a9 ((s k).objs ++ [o]).length p9) ((s k).objs ++ [o]) :: F)) w5 := h5.perm (by rw [List.length_append]; simp only [HP.big, HP.big_append, List.length_cons, List.length_nil, Nat.zero_add]; ac_rfl)
    have y2 : w5.cell? ⟨c, 2, none⟩ = some (.slice (some ⟨D.lb, D.lo, none⟩) tb.length D.lc) := (ref_head g5).2.2.1
    have x0 := (ref_at g5 hk).1
    have f := (ref_focus hk g5).drop.perm (L' := intsP (.slice a9 ((s k).objs ++ [o]).length p9) ((s k).objs ++ [o]) :: (refR c tb bud s D k ++ F)) (by simp only [HP.big, HP.big_append]; ac_rfl)
    obtain ⟨g6, fz⟩ := ref_backL hk f
    generalize hw6 : w5.setCell ⟨D.lb, D.lo + k, none⟩ (.slice a9 ((s k).objs ++ [o]).length p9) = w6 at g6
    obtain ⟨bt2, ot2, hall2⟩ := ref_all g6 HX.out
    have HALL2 := Lib.hid hall2
    have G6 := Lib.hid g6
    simp only [updC_same, RD.put_va, RD.put_vc, HB.out, List.length_append, List.length_cons, List.length_nil, Nat.zero_add, Int.natCast_add, Int.cast_ofNat_Int] at HALL2
    clear h5 f g5 g6 hall2 HS HALL
    generalize (((s k).objs ++ [o]).length : Nat) = zz at *
    go_wp2_with fail
    clear y2 x0 fz hw6
    refine wp_region_par (w0 := w0) 0 16 [] [] (refL c tb bud (updC s k ⟨(s k).objs ++ [o], (s k).lim, (s k).low⟩) (D.put k a9 p9) ++ F) []
      (fun i v => True)
      (fun i v => HP.emp) (by kernel_rfl) (by kernel_rfl) rfl (by kernel_rfl) (by simpa using G6.out) ?_
    simp only [List.take_succ_cons, List.take_zero, List.drop_succ_cons, List.drop_zero]
    iterate 16
      with_reducible refine wpPar_pure (by kernel_rfl) (fun K hK => ?_)
      go_simp
      apply Exists.intro
      refine ⟨fun G w1 h1 => ?_, hK _ ?_⟩
      (first
        | (with_reducible rfl)
        | (obtain ⟨z0, z1, z2, z3, z4, z5, z6, z7, z8, z9⟩ := HALL2.out w1 _ h1; go_simp; done)
        | (obtain ⟨z0, z1, z2, z3, z4, z5, z6, z7, z8, z9⟩ := HALL2.out w1 _ h1; go_simp; with_reducible rfl))
      clear hK K
    refine wpPar_nil ?_
    intro w7 h7
    simp only [List.map_nil, List.nil_append] at h7
    obtain ⟨z0, z1, z2, z3, z4, z5, z6, z7, z8, z9⟩ := HALL2.out w7 _ h7
    have G7 := Lib.hid (ref_shut h7)
    clear h7 G6
    by_cases hle : (s k).objs.length + 1 ≤ (s k).lim
    · have e1 : (s k).putL (Bt tb k) o = [] := by unfold CL.putL; rw [if_neg hfull, if_pos hle]
      have e3 : (s k).putF (Bt tb k) o = ⟨(s k).objs ++ [o], (s k).lim, (s k).low⟩ := by unfold CL.putF; rw [if_neg hfull, if_pos hle]
      have E1 := Lib.hid e1
      have E3 := Lib.hid e3
      have d1 : decide (((s k).objs.length : Int) + 1 ≤ ((s k).lim : Int)) = true := decide_eq_true (by omega)
      clear e1 e3 HALL2
      go_wp2_with fail
      go_ret2
      rw [E1.out, E3.out]
      exact ⟨none, 0, rfl, G7.out.arr_nil 3 1⟩
    · have d1 : decide (((s k).objs.length : Int) + 1 ≤ ((s k).lim : Int)) = false := decide_eq_false (by omega)
      have hok1 : ((updC s k ⟨(s k).objs ++ [o], (s k).lim, (s k).low⟩) k).ok := by
        rw [updC_same]
        refine ⟨k1, k2, ?_, ?_⟩
        · show _ ≤ ((s k).objs ++ [o]).length; rw [List.length_append]; simp; omega
        · show ((s k).objs ++ [o]).length ≤ _; rw [List.length_append]; simp; omega
      have OLD := Lib.hid (roldest_in G7.out hk hok1 (Bt tb k) (by omega))
      simp only [updC_same, updC_twice] at OLD
      have TK : Hid ((s k).putL (Bt tb k) o = ((s k).objs ++ [o]).take (Bt tb k)) := Lib.hid (by
        unfold CL.putL
        rw [if_neg hfull, if_neg hle]
        have : ((s k).objs ++ [o]).length = (s k).objs.length + 1 := by rw [List.length_append]; rfl
        by_cases hh : Bt tb k ≤ (s k).objs.length + 1
        · rw [Nat.min_eq_left hh]
        · rw [Nat.min_eq_right (by omega), List.take_of_length_le (by omega), List.take_of_length_le (by omega)])
      have OE : CL.oldest (min (Bt tb k) ((s k).objs.length + 1)) ⟨(s k).objs ++ [o], if (s k).lim < Bt tb k then (s k).lim + 1 else (s k).lim, (s k).low⟩ = ⟨((s k).objs ++ [o]).drop (Bt tb k), if (s k).lim < Bt tb k then (s k).lim + 1 else (s k).lim, min (s k).low (((s k).objs ++ [o]).length - Bt tb k)⟩ := by
        unfold CL.oldest
        have : ((s k).objs ++ [o]).length = (s k).objs.length + 1 := by rw [List.length_append]; rfl
        by_cases hh : Bt tb k ≤ (s k).objs.length + 1
        · rw [Nat.min_eq_left hh]
        · rw [Nat.min_eq_right (by omega)]
          dsimp only
          rw [List.drop_eq_nil_of_le (by omega), List.drop_eq_nil_of_le (by omega), this, show (s k).objs.length + 1 - ((s k).objs.length + 1) = (s k).objs.length + 1 - Bt tb k by omega]
      have PE : Hid (((s k).lim < Bt tb k → (s k).putF (Bt tb k) o = ⟨(CL.oldest (Bt tb k) ⟨(s k).objs ++ [o], (s k).lim, (s k).low⟩).objs, (s k).lim + 1, (CL.oldest (Bt tb k) ⟨(s k).objs ++ [o], (s k).lim, (s k).low⟩).low⟩) ∧
          (¬ (s k).lim < Bt tb k → (s k).putF (Bt tb k) o = CL.oldest (Bt tb k) ⟨(s k).objs ++ [o], (s k).lim, (s k).low⟩)) := Lib.hid (by
        unfold CL.putF
        rw [if_neg hfull, if_neg hle, OE]
        constructor
        · intro hh; rw [if_pos hh]; rfl
        · intro hh; rw [if_neg hh]; rfl)
      have HB2 := Lib.hid HB.out
      clear HALL2 hok1 OE
      go_wp2_with fail
      refine OLD.out.mono ?_
      rintro e w8 ⟨a8, p8, rfl, h8⟩
      obtain ⟨D3, g8⟩ := ref_open h8.swap
      obtain ⟨bt3, ot3, hall3⟩ := ref_all g8 HX.out
      have HALL3 := Lib.hid hall3
      simp only [updC_same, CL.oldest, HB2.out] at HALL3
      have G8 := Lib.hid g8
      clear h8 g8 hall3 OLD G7 z0 z1 z2 z3 z4 z5 z6 z7 z8 z9
      go_wp2_with fail
      refine wp_region_par (w0 := w0) 0 16 [] [] (refL c tb bud (updC s k (CL.oldest (Bt tb k) ⟨(s k).objs ++ [o], (s k).lim, (s k).low⟩)) D3 ++ (intsP (.slice a8 (((s k).objs ++ [o]).take (Bt tb k)).length p8) (((s k).objs ++ [o]).take (Bt tb k)) :: F)) []
        (fun i v => True)
        (fun i v => HP.emp) (by kernel_rfl) (by kernel_rfl) rfl (by kernel_rfl) (by simpa using G8.out) ?_
      simp only [List.take_succ_cons, List.take_zero, List.drop_succ_cons, List.drop_zero]
      iterate 16
        with_reducible refine wpPar_pure (by kernel_rfl) (fun K hK => ?_)
        go_simp
        apply Exists.intro
        refine ⟨fun G w1 h1 => ?_, hK _ ?_⟩
        (first
          | (with_reducible rfl)
          | (obtain ⟨z0, z1, z2, z3, z4, z5, z6, z7, z8, z9⟩ := HALL3.out w1 _ h1; go_simp; done)
          | (obtain ⟨z0, z1, z2, z3, z4, z5, z6, z7, z8, z9⟩ := HALL3.out w1 _ h1; go_simp; with_reducible rfl))
        clear hK K
      refine wpPar_nil ?_
      intro w9 h9
      simp only [List.map_nil, List.nil_append] at h9
      obtain ⟨z0, z1, z2, z3, z4, z5, z6, z7, z8, z9⟩ := HALL3.out w9 _ h9
      have q1 : IntKind.i64.wrap (((s k).lim : Int) + 1) = (((s k).lim + 1 : Nat) : Int) := by rw [IntWalk.i64_in _ (by omega)]; rfl
      have hm := ref_setM hk ((s k).lim + 1) h9
      simp only [updC_same, updC_twice] at hm
      obtain ⟨hm1, fz⟩ := hm
      have G9 := Lib.hid (ref_shut h9)
      have GM := Lib.hid (ref_shut hm1)
      clear h9 hm1 HALL3 G8
      by_cases hlb : (s k).lim < Bt tb k
      · have j1 : decide (((s k).lim : Int) < (Bt tb k : Int)) = true := decide_eq_true (by omega)
        go_wp2_with fail
        go_ret2
        refine ⟨a8, p8, ?_, ?_⟩
        · rw [TK.out, List.length_take, List.length_append]; rfl
        · rw [TK.out, (PE.out).1 hlb]
          exact GM.out.swap
      · have j1 : decide (((s k).lim : Int) < (Bt tb k : Int)) = false := decide_eq_false (by omega)
        go_wp2_with fail
        go_ret2
        refine ⟨a8, p8, ?_, ?_⟩
        · rw [TK.out, List.length_take, List.length_append]; rfl
        · rw [TK.out, (PE.out).2 hlb]
          exact G9.out.swap
end Go.Proofs.Ytaejojbdkgccpaa

/-
  The reference's Scavenge. (Printed by mkC41.py.)
-/
import Derived.Test.YtaejojbdkgccpaaC40
namespace Go.Proofs.Ytaejojbdkgccpaa
open Go.RowKit Go.Maps Go.ChangeMaps

theorem scav_eq (b : Nat) (x : CL) (m : Nat) : (⟨(CL.oldest x.scavN x).objs, if b < x.lim then max (x.lim - b) b else x.lim, x.objs.length - x.scavN⟩ : CL) = x.scavF b := rfl
set_option maxRecDepth 10000 in
set_option maxHeartbeats 8000000 in
theorem rscavenge_in {w0 w : World} {F : List HP} {c : Nat} {tb : List Cls} {bud : Int} {s : Nat → CL} (ht : tbOk tb) (hok : ∀ k, (s k).ok) (h : St w0 (refP c tb bud s :: F) w) :
    Calls Try.prog 57 #[.pointer (some ⟨c, 0, none⟩)] w fun e w' => ∃ a' c', e = .returned (.slice a' (scavB s tb.length).length c') ∧ St w0 (batsP (.slice a' (scavB s tb.length).length c') (scavB s tb.length) :: refP c tb bud (scavS tb s) :: F) w' := by
  have M := Lib.hid (rmade_in ht.1 h)
  have hN := ht.2.1
  obtain ⟨i0, hi, hz0, hz1, hz2⟩ := info_parts info48
  have HI := Lib.hid hi
  have Z0 := Lib.hid hz0
  have Z1 := Lib.hid hz1
  have Z2 := Lib.hid hz2
  have H1 := Lib.hid h
  have HT := Lib.hid ht
  have HOK := Lib.hid hok
  clear h ht hok hi hz0 hz1 hz2
  go_enter Try.func57, Try.ntmps57
  go_wp2_with fail
  refine M.out.mono ?_
  rintro e w' ⟨rfl, rfl⟩
  go_wp2_with fail
  clear M
  go_loopw [3, 4] (fun out i wr => ∃ (k : Nat) (zs : List BO) (a : Option Addr) (cap : Nat), k ≤ tb.length ∧ i = .int .i64 k ∧ out = .slice a zs.length cap ∧ Hid (zs.map BO.key = outB CL.scavL s k) ∧ Hid (zs.length ≤ k) ∧
    Hid (St w0 (batsZ out zs :: refP c tb bud (stepS (fun k x => x.scavF (Bt tb k)) s k) :: F) wr)) (fun _ i _ => tb.length - (intOf i).toNat)
  case atStart =>
    refine ⟨0, [], none, 0, Nat.zero_le _, rfl, rfl, Lib.hid rfl, Lib.hid (Nat.le_refl _), Lib.hid ?_⟩
    rw [stepS_zero]
    refine (H1.out.arr_nil 48 2).perm ?_
    simp only [HP.big, batsZ, List.map_nil, HP.sep_emp, List.length_nil, batC, List.flatMap_nil]
  case round =>
    clear H1
    obtain ⟨k, zs, a, cap, hk, rfl, rfl, HK, HL, HS⟩ := hrel
    by_cases hlt : k < tb.length
    · obtain ⟨x, hx⟩ : ∃ x, tb[k]? = some x := ⟨tb[k], List.getElem?_eq_getElem hlt⟩
      have hb := Bt_of HT.out hx
      have hB := Bt_range HT.out k
      have HX := Lib.hid hx
      have HB := Lib.hid hb
      obtain ⟨k1, k2, k3, k4⟩ := HOK.out k
      obtain ⟨D, g⟩ := ref_open HS.out.swap
      obtain ⟨bt, ot, hall⟩ := ref_all g hx
      obtain ⟨z0, z1, z2, z3, z4, z5, z6, z7, z8, z9⟩ := hall _ _ g
      rw [stepS_at] at z5 z6 z7
      have i0' : (0 : Int) ≤ (k : Int) := by omega
      have i1' : (k : Int) < (tb.length : Int) := by omega
      have dk : decide ((k : Int) < (tb.length : Int)) = true := decide_eq_true (by omega)
      have dk' : decide (k < tb.length) = true := decide_eq_true hlt
      have qk : IntKind.i64.wrap ((k : Int) + 1) = ((k + 1 : Nat) : Int) := by rw [IntWalk.i64_in _ (by omega)]; rfl
      clear hall g hx hb
      have OLD := Lib.hid (roldest_in HS.out.swap hlt (by rw [stepS_at]; exact ⟨k1, k2, k3, k4⟩) (s k).scavN (by unfold CL.scavN; omega))
      have q0 : IntKind.i64.wrap (((s k).low : Int) + 1) = ((s k).low : Int) + 1 := IntWalk.i64_in _ (by omega)
      have q1 : (((s k).low : Int) + 1).tdiv 2 = ((s k).scavN : Int) := by unfold CL.scavN; rw [Int.tdiv_eq_ediv_of_nonneg (by omega)]; omega
      have q2 : (((s k).low : Int) + 1) / 2 = ((s k).scavN : Int) := by unfold CL.scavN; omega
      have q4 : IntKind.i64.wrap ((s k).scavN : Int) = ((s k).scavN : Int) := IntWalk.i64_in _ (by unfold CL.scavN; omega)
      rw [stepS_at] at OLD
      rw [show List.take (s k).scavN (s k).objs = (s k).scavL from rfl] at OLD
      go_wp2_with fail
      refine OLD.out.mono ?_
      rintro e w8 ⟨a8, p8, rfl, h8⟩
      clear z0 z1 z2 z3 z4 z5 z6 z7 z8 z9 OLD q0 q1 q2 q4
      by_cases hpos : 0 < (s k).scavL.length
      · have j0 : decide ((0 : Int) < (((s k).scavL).length : Int)) = true := decide_eq_true (by omega)
        have j0' : decide (0 < ((s k).scavL).length) = true := decide_eq_true hpos
        have g3 : St w0 (HP.arr 48 2 (.slice a zs.length cap) zs.length (batC (zs.map BO.bat)) :: _) w8 := h8.perm (L' := HP.arr 48 2 (.slice a zs.length cap) zs.length (batC (zs.map BO.bat)) :: (zs.map BO.P ++ (intsP (.slice a8 ((s k).scavL).length p8) ((s k).scavL) :: refP c tb bud (updC (stepS (fun k x => CL.scavF (Bt tb k) x) s k) k (CL.oldest (s k).scavN (s k))) :: F))) (by simp only [HP.big, HP.big_append, batsZ]; ac_rfl)
        have g4 := g3.newArr 48 2 1 [.int .i64 (k : Int), .slice a8 ((s k).scavL).length p8] rfl (by decide)
        have hr := Lib.hid (HP.arr_reads g4)
        have g5 := Lib.hid g4.swap
        have hzl := HL.out
        clear g3 g4 h8
        have ez : zs.length + 1 = (zs ++ [(⟨k, .slice a8 ((s k).scavL).length p8, (s k).scavL⟩ : BO)]).length := by rw [List.length_append]; rfl
        have KZ : Hid ((zs ++ [(⟨k, .slice a8 ((s k).scavL).length p8, (s k).scavL⟩ : BO)]).map BO.key = outB CL.scavL s (k + 1)) := Lib.hid (by
          rw [outB_succ, List.map_append, HK.out, if_pos hpos]
          rfl)
        have HL2 : Hid ((zs ++ [(⟨k, .slice a8 ((s k).scavL).length p8, (s k).scavL⟩ : BO)]).length ≤ k + 1) := Lib.hid (by rw [← ez]; omega)
        have ADD : Hid (∀ a3 cap3 w', St w0 (HP.arr 48 2 (.slice a3 (zs.length + 1) cap3) (zs.length + 1) (batC (zs.map BO.bat) ++ [.int .i64 (k : Int), .slice a8 ((s k).scavL).length p8]) :: HP.arr 48 2 (.slice (some ⟨w8.heap.size, 0, none⟩) 1 1) 1 [.int .i64 (k : Int), .slice a8 ((s k).scavL).length p8] :: (zs.map BO.P ++ (intsP (.slice a8 ((s k).scavL).length p8) ((s k).scavL) :: refP c tb bud (updC (stepS (fun k x => CL.scavF (Bt tb k) x) s k) k (CL.oldest (s k).scavN (s k))) :: F))) w' →
            St w0 (batsZ (.slice a3 (zs ++ [(⟨k, .slice a8 ((s k).scavL).length p8, (s k).scavL⟩ : BO)]).length cap3) (zs ++ [(⟨k, .slice a8 ((s k).scavL).length p8, (s k).scavL⟩ : BO)]) :: refP c tb bud (updC (stepS (fun k x => CL.scavF (Bt tb k) x) s k) k (CL.oldest (s k).scavN (s k))) :: F) w') := Lib.hid fun a3 cap3 w' h' => bats_add h'
        generalize hzz : zs ++ [(⟨k, .slice a8 ((s k).scavL).length p8, (s k).scavL⟩ : BO)] = zs2 at ez KZ HL2 ADD
        clear hzz
        go_wp2_with (
          at_builtin
          refine wpList_append_st rfl _ _ 45 rfl 48 i0 _ 2 32 Try.underlying45 HI.out Z0.out Z1.out Z2.out rfl _ _ rfl rfl zs.length (batC (zs.map BO.bat)) g5.out 1 [.int .i64 (k : Int), .slice a8 ((s k).scavL).length p8] hr.out (by intro u hu; simp at hu; rcases hu with rfl | rfl <;> rfl) (by unfold maxLen; omega) (by omega) ?_
          intro w9v w9 hs' hv'
          obtain ⟨a3, cap3, rfl⟩ := (HP.arr_reads hs').form
          have h9 := ADD.out a3 cap3 w9 hs'
          rw [ez]
          clear hs' hv' ez
          have H9 := Lib.hid h9
          clear h9)
        obtain ⟨D3, g9⟩ := ref_open H9.out.swap
        obtain ⟨bt3, ot3, hall3⟩ := ref_all g9 HX.out
        have HALL3 := Lib.hid hall3
        simp only [updC_same, CL.oldest, HB.out] at HALL3
        have G9 := Lib.hid g9
        clear g9 hall3 H9
        refine wp_region_par (w0 := w0) 0 16 [] [] (refL c tb bud (updC (stepS (fun k x => CL.scavF (Bt tb k) x) s k) k (CL.oldest (s k).scavN (s k))) D3 ++ (batsZ (.slice a3 zs2.length cap3) zs2 :: F)) []
          (fun i v => True)
          (fun i v => HP.emp) (by kernel_rfl) (by kernel_rfl) rfl (by kernel_rfl) (by simpa using G9.out) ?_
        simp only [List.take_succ_cons, List.take_zero, List.drop_succ_cons, List.drop_zero]
        iterate 16
          with_reducible refine wpPar_pure (by kernel_rfl) (fun K hK => ?_)
          go_simp
          apply Exists.intro
          refine ⟨fun G w1 h1 => ?_, hK _ ?_⟩
          (first
            | (with_reducible rfl)
            | (obtain ⟨z0, z1, z2, z3, z4, z5, z6, z7, z8, z9⟩ := HALL3.out w1 _ h1; go_simp; done)
            | (obtain ⟨z0, z1, z2, z3, z4, z5, z6, z7, z8, z9⟩ := HALL3.out w1 _ h1; go_simp; with_reducible rfl))
          clear hK K
        refine wpPar_nil ?_
        intro w10 h10
        simp only [List.map_nil, List.nil_append] at h10
        have G10 := Lib.hid h10
        clear h10 G9
        by_cases hlb : Bt tb k < (s k).lim
        · have j1 : decide ((Bt tb k : Int) < ((s k).lim : Int)) = true := decide_eq_true (by omega)
          have j1' : decide (Bt tb k < (s k).lim) = true := decide_eq_true hlb
          go_wp2_with fail
          have q3 : IntKind.i64.wrap (((s k).lim : Int) - (Bt tb k : Int)) = ((s k).lim : Int) - (Bt tb k : Int) := IntWalk.i64_in _ (by omega)
          refine wp_region_par (w0 := w0) 0 30 [] [] (refL c tb bud (updC (stepS (fun k x => CL.scavF (Bt tb k) x) s k) k (CL.oldest (s k).scavN (s k))) D3 ++ (batsZ (.slice a3 zs2.length cap3) zs2 :: F)) []
            (fun i v => True)
            (fun i v => HP.emp) (by kernel_rfl) (by kernel_rfl) rfl (by kernel_rfl) (by simpa using G10.out) ?_
          simp only [List.take_succ_cons, List.take_zero, List.drop_succ_cons, List.drop_zero]
          iterate 30
            with_reducible refine wpPar_pure (by kernel_rfl) (fun K hK => ?_)
            go_simp
            apply Exists.intro
            refine ⟨fun G w1 h1 => ?_, hK _ ?_⟩
            (first
              | (with_reducible rfl)
              | (obtain ⟨z0, z1, z2, z3, z4, z5, z6, z7, z8, z9⟩ := HALL3.out w1 _ h1; go_simp; done)
              | (obtain ⟨z0, z1, z2, z3, z4, z5, z6, z7, z8, z9⟩ := HALL3.out w1 _ h1; go_simp; with_reducible rfl))
            clear hK K
          refine wpPar_nil ?_
          intro w11 h11
          simp only [List.map_nil, List.nil_append] at h11
          obtain ⟨z0, z1, z2, z3, z4, z5, z6, z7, z8, z9⟩ := HALL3.out w11 _ h11
          have GM : Hid (∀ v (j : Nat), v = Value.int .i64 j → St w0 (refL c tb bud (updC (stepS (fun k x => CL.scavF (Bt tb k) x) s k) k ⟨(s k).objs.drop (s k).scavN, j, min (s k).low ((s k).objs.length - (s k).scavN)⟩) D3 ++ (batsZ (.slice a3 zs2.length cap3) zs2 :: F)) (w11.setCell ⟨D3.mb, D3.mo + k, none⟩ v)) := Lib.hid fun v j hv => by
            subst hv
            have := (ref_setM hlt j h11).1
            rw [updC_same, updC_twice] at this
            exact this
          have fz := (ref_setM hlt 0 h11).2
          clear h11 G10 HALL3
          go_wp2_with fail
          obtain ⟨lim2, hlim2⟩ : ∃ m : Nat, m = max ((s k).lim - Bt tb k) (Bt tb k) := ⟨_, rfl⟩
          generalize hw12 : w11.setCell ⟨D3.mb, D3.mo + k, none⟩ _ = w12
          have G12 : St w0 (refL c tb bud (updC (stepS (fun k x => CL.scavF (Bt tb k) x) s k) k ⟨(s k).objs.drop (s k).scavN, lim2, min (s k).low ((s k).objs.length - (s k).scavN)⟩) D3 ++ (batsZ (.slice a3 zs2.length cap3) zs2 :: F)) w12 := by
            rw [← hw12]
            exact GM.out _ lim2 (by congr 1; omega)
          clear GM z0 z1 z2 z3 z4 z5 z6 z7 z8 z9 fz hw12
          obtain ⟨bt4, ot4, hall4⟩ := ref_all G12 HX.out
          have HALL4 := Lib.hid hall4
          simp only [updC_same, HB.out] at HALL4
          have G13 := Lib.hid G12
          clear G12 hall4
          have EF : Hid ((⟨(s k).objs.drop (s k).scavN, lim2, ((s k).objs.drop (s k).scavN).length⟩ : CL) = (s k).scavF (Bt tb k)) := Lib.hid (by unfold CL.scavF; rw [if_pos hlb, hlim2, List.length_drop])
          clear hlim2
          refine wp_region_par (w0 := w0) 0 13 [] [] (refL c tb bud (updC (stepS (fun k x => CL.scavF (Bt tb k) x) s k) k ⟨(s k).objs.drop (s k).scavN, lim2, min (s k).low ((s k).objs.length - (s k).scavN)⟩) D3 ++ (batsZ (.slice a3 zs2.length cap3) zs2 :: F)) []
            (fun i v => True)
            (fun i v => HP.emp) (by kernel_rfl) (by kernel_rfl) rfl (by kernel_rfl) (by simpa using G13.out) ?_
          simp only [List.take_succ_cons, List.take_zero, List.drop_succ_cons, List.drop_zero]
          iterate 13
            with_reducible refine wpPar_pure (by kernel_rfl) (fun K hK => ?_)
            go_simp
            apply Exists.intro
            refine ⟨fun G w1 h1 => ?_, hK _ ?_⟩
            (first
              | (with_reducible rfl)
              | (obtain ⟨z0, z1, z2, z3, z4, z5, z6, z7, z8, z9⟩ := HALL4.out w1 _ h1; go_simp; done)
              | (obtain ⟨z0, z1, z2, z3, z4, z5, z6, z7, z8, z9⟩ := HALL4.out w1 _ h1; go_simp; with_reducible rfl))
            clear hK K
          refine wpPar_nil ?_
          intro w14 h14
          simp only [List.map_nil, List.nil_append] at h14
          obtain ⟨z0, z1, z2, z3, z4, z5, z6, z7, z8, z9⟩ := HALL4.out w14 _ h14
          have hm := ref_setW hlt ((s k).objs.drop (s k).scavN).length h14
          rw [updC_same, updC_twice] at hm
          obtain ⟨hm1, fz⟩ := hm
          have G14 := Lib.hid (ref_shut hm1).swap
          clear hm1 h14 G13 HALL4
          go_wp2_with fail
          go_roundw
          case rel =>
            refine ⟨k + 1, _, _, _, by omega, by first | rfl | rw [qk], rfl, KZ, HL2, Lib.hid ?_⟩
            rw [← stepS_succ, ← EF.out]
            have := G14.out
            simp only [List.length_drop] at this ⊢
            exact this
          case measure => simp [intOf]; omega
        · have j1 : decide ((Bt tb k : Int) < ((s k).lim : Int)) = false := decide_eq_false (by omega)
          have j1' : decide (Bt tb k < (s k).lim) = false := decide_eq_false hlb
          go_wp2_with fail
          have EF : Hid ((⟨(s k).objs.drop (s k).scavN, (s k).lim, ((s k).objs.drop (s k).scavN).length⟩ : CL) = (s k).scavF (Bt tb k)) := Lib.hid (by unfold CL.scavF; rw [if_neg hlb, List.length_drop])
          have HALL4 := HALL3
          have G13 := G10
          clear HALL3 G10
          refine wp_region_par (w0 := w0) 0 13 [] [] (refL c tb bud (updC (stepS (fun k x => CL.scavF (Bt tb k) x) s k) k (CL.oldest (s k).scavN (s k))) D3 ++ (batsZ (.slice a3 zs2.length cap3) zs2 :: F)) []
            (fun i v => True)
            (fun i v => HP.emp) (by kernel_rfl) (by kernel_rfl) rfl (by kernel_rfl) (by simpa using G13.out) ?_
          simp only [List.take_succ_cons, List.take_zero, List.drop_succ_cons, List.drop_zero]
          iterate 13
            with_reducible refine wpPar_pure (by kernel_rfl) (fun K hK => ?_)
            go_simp
            apply Exists.intro
            refine ⟨fun G w1 h1 => ?_, hK _ ?_⟩
            (first
              | (with_reducible rfl)
              | (obtain ⟨z0, z1, z2, z3, z4, z5, z6, z7, z8, z9⟩ := HALL4.out w1 _ h1; go_simp; done)
              | (obtain ⟨z0, z1, z2, z3, z4, z5, z6, z7, z8, z9⟩ := HALL4.out w1 _ h1; go_simp; with_reducible rfl))
            clear hK K
          refine wpPar_nil ?_
          intro w14 h14
          simp only [List.map_nil, List.nil_append] at h14
          obtain ⟨z0, z1, z2, z3, z4, z5, z6, z7, z8, z9⟩ := HALL4.out w14 _ h14
          have hm := ref_setW hlt ((s k).objs.drop (s k).scavN).length h14
          rw [updC_same, updC_twice] at hm
          obtain ⟨hm1, fz⟩ := hm
          have G14 := Lib.hid (ref_shut hm1).swap
          clear hm1 h14 G13 HALL4
          go_wp2_with fail
          go_roundw
          case rel =>
            refine ⟨k + 1, _, _, _, by omega, by first | rfl | rw [qk], rfl, KZ, HL2, Lib.hid ?_⟩
            rw [← stepS_succ, ← EF.out]
            have := G14.out
            simp only [List.length_drop] at this ⊢
            exact this
          case measure => simp [intOf]; omega
      · have j0 : decide ((0 : Int) < (((s k).scavL).length : Int)) = false := decide_eq_false (by omega)
        have j0' : decide (0 < ((s k).scavL).length) = false := decide_eq_false hpos
        have h9 : St w0 (batsZ (.slice a zs.length cap) zs :: refP c tb bud (updC (stepS (fun k x => CL.scavF (Bt tb k) x) s k) k (CL.oldest (s k).scavN (s k))) :: F) w8 := (h8.drop).perm (by simp only [HP.big]; ac_rfl)
        have KZ : Hid (zs.map BO.key = outB CL.scavL s (k + 1)) := Lib.hid (by
          rw [outB_succ, HK.out, if_neg hpos, List.append_nil])
        have HL2 : Hid (zs.length ≤ k + 1) := Lib.hid (by have := HL.out; omega)
        clear h8
        have H9 := Lib.hid h9
        clear h9
        go_wp2_with fail
        obtain ⟨D3, g9⟩ := ref_open H9.out.swap
        obtain ⟨bt3, ot3, hall3⟩ := ref_all g9 HX.out
        have HALL3 := Lib.hid hall3
        simp only [updC_same, CL.oldest, HB.out] at HALL3
        have G9 := Lib.hid g9
        clear g9 hall3 H9
        refine wp_region_par (w0 := w0) 0 16 [] [] (refL c tb bud (updC (stepS (fun k x => CL.scavF (Bt tb k) x) s k) k (CL.oldest (s k).scavN (s k))) D3 ++ (batsZ (.slice a zs.length cap) zs :: F)) []
          (fun i v => True)
          (fun i v => HP.emp) (by kernel_rfl) (by kernel_rfl) rfl (by kernel_rfl) (by simpa using G9.out) ?_
        simp only [List.take_succ_cons, List.take_zero, List.drop_succ_cons, List.drop_zero]
        iterate 16
          with_reducible refine wpPar_pure (by kernel_rfl) (fun K hK => ?_)
          go_simp
          apply Exists.intro
          refine ⟨fun G w1 h1 => ?_, hK _ ?_⟩
          (first
            | (with_reducible rfl)
            | (obtain ⟨z0, z1, z2, z3, z4, z5, z6, z7, z8, z9⟩ := HALL3.out w1 _ h1; go_simp; done)
            | (obtain ⟨z0, z1, z2, z3, z4, z5, z6, z7, z8, z9⟩ := HALL3.out w1 _ h1; go_simp; with_reducible rfl))
          clear hK K
        refine wpPar_nil ?_
        intro w10 h10
        simp only [List.map_nil, List.nil_append] at h10
        have G10 := Lib.hid h10
        clear h10 G9
        by_cases hlb : Bt tb k < (s k).lim
        · have j1 : decide ((Bt tb k : Int) < ((s k).lim : Int)) = true := decide_eq_true (by omega)
          have j1' : decide (Bt tb k < (s k).lim) = true := decide_eq_true hlb
          go_wp2_with fail
          have q3 : IntKind.i64.wrap (((s k).lim : Int) - (Bt tb k : Int)) = ((s k).lim : Int) - (Bt tb k : Int) := IntWalk.i64_in _ (by omega)
          refine wp_region_par (w0 := w0) 0 30 [] [] (refL c tb bud (updC (stepS (fun k x => CL.scavF (Bt tb k) x) s k) k (CL.oldest (s k).scavN (s k))) D3 ++ (batsZ (.slice a zs.length cap) zs :: F)) []
            (fun i v => True)
            (fun i v => HP.emp) (by kernel_rfl) (by kernel_rfl) rfl (by kernel_rfl) (by simpa using G10.out) ?_
          simp only [List.take_succ_cons, List.take_zero, List.drop_succ_cons, List.drop_zero]
          iterate 30
            with_reducible refine wpPar_pure (by kernel_rfl) (fun K hK => ?_)
            go_simp
            apply Exists.intro
            refine ⟨fun G w1 h1 => ?_, hK _ ?_⟩
            (first
              | (with_reducible rfl)
              | (obtain ⟨z0, z1, z2, z3, z4, z5, z6, z7, z8, z9⟩ := HALL3.out w1 _ h1; go_simp; done)
              | (obtain ⟨z0, z1, z2, z3, z4, z5, z6, z7, z8, z9⟩ := HALL3.out w1 _ h1; go_simp; with_reducible rfl))
            clear hK K
          refine wpPar_nil ?_
          intro w11 h11
          simp only [List.map_nil, List.nil_append] at h11
          obtain ⟨z0, z1, z2, z3, z4, z5, z6, z7, z8, z9⟩ := HALL3.out w11 _ h11
          have GM : Hid (∀ v (j : Nat), v = Value.int .i64 j → St w0 (refL c tb bud (updC (stepS (fun k x => CL.scavF (Bt tb k) x) s k) k ⟨(s k).objs.drop (s k).scavN, j, min (s k).low ((s k).objs.length - (s k).scavN)⟩) D3 ++ (batsZ (.slice a zs.length cap) zs :: F)) (w11.setCell ⟨D3.mb, D3.mo + k, none⟩ v)) := Lib.hid fun v j hv => by
            subst hv
            have := (ref_setM hlt j h11).1
            rw [updC_same, updC_twice] at this
            exact this
          have fz := (ref_setM hlt 0 h11).2
          clear h11 G10 HALL3
          go_wp2_with fail
          obtain ⟨lim2, hlim2⟩ : ∃ m : Nat, m = max ((s k).lim - Bt tb k) (Bt tb k) := ⟨_, rfl⟩
          generalize hw12 : w11.setCell ⟨D3.mb, D3.mo + k, none⟩ _ = w12
          have G12 : St w0 (refL c tb bud (updC (stepS (fun k x => CL.scavF (Bt tb k) x) s k) k ⟨(s k).objs.drop (s k).scavN, lim2, min (s k).low ((s k).objs.length - (s k).scavN)⟩) D3 ++ (batsZ (.slice a zs.length cap) zs :: F)) w12 := by
            rw [← hw12]
            exact GM.out _ lim2 (by congr 1; omega)
          clear GM z0 z1 z2 z3 z4 z5 z6 z7 z8 z9 fz hw12
          obtain ⟨bt4, ot4, hall4⟩ := ref_all G12 HX.out
          have HALL4 := Lib.hid hall4
          simp only [updC_same, HB.out] at HALL4
          have G13 := Lib.hid G12
          clear G12 hall4
          have EF : Hid ((⟨(s k).objs.drop (s k).scavN, lim2, ((s k).objs.drop (s k).scavN).length⟩ : CL) = (s k).scavF (Bt tb k)) := Lib.hid (by unfold CL.scavF; rw [if_pos hlb, hlim2, List.length_drop])
          clear hlim2
          refine wp_region_par (w0 := w0) 0 13 [] [] (refL c tb bud (updC (stepS (fun k x => CL.scavF (Bt tb k) x) s k) k ⟨(s k).objs.drop (s k).scavN, lim2, min (s k).low ((s k).objs.length - (s k).scavN)⟩) D3 ++ (batsZ (.slice a zs.length cap) zs :: F)) []
            (fun i v => True)
            (fun i v => HP.emp) (by kernel_rfl) (by kernel_rfl) rfl (by kernel_rfl) (by simpa using G13.out) ?_
          simp only [List.take_succ_cons, List.take_zero, List.drop_succ_cons, List.drop_zero]
          iterate 13
            with_reducible refine wpPar_pure (by kernel_rfl) (fun K hK => ?_)
            go_simp
            apply Exists.intro
            refine ⟨fun G w1 h1 => ?_, hK _ ?_⟩
            (first
              | (with_reducible rfl)
              | (obtain ⟨z0, z1, z2, z3, z4, z5, z6, z7, z8, z9⟩ := HALL4.out w1 _ h1; go_simp; done)
              | (obtain ⟨z0, z1, z2, z3, z4, z5, z6, z7, z8, z9⟩ := HALL4.out w1 _ h1; go_simp; with_reducible rfl))
            clear hK K
          refine wpPar_nil ?_
          intro w14 h14
          simp only [List.map_nil, List.nil_append] at h14
          obtain ⟨z0, z1, z2, z3, z4, z5, z6, z7, z8, z9⟩ := HALL4.out w14 _ h14
          have hm := ref_setW hlt ((s k).objs.drop (s k).scavN).length h14
          rw [updC_same, updC_twice] at hm
          obtain ⟨hm1, fz⟩ := hm
          have G14 := Lib.hid (ref_shut hm1).swap
          clear hm1 h14 G13 HALL4
          go_wp2_with fail
          go_roundw
          case rel =>
            refine ⟨k + 1, _, _, _, by omega, by first | rfl | rw [qk], rfl, KZ, HL2, Lib.hid ?_⟩
            rw [← stepS_succ, ← EF.out]
            have := G14.out
            simp only [List.length_drop] at this ⊢
            exact this
          case measure => simp [intOf]; omega
        · have j1 : decide ((Bt tb k : Int) < ((s k).lim : Int)) = false := decide_eq_false (by omega)
          have j1' : decide (Bt tb k < (s k).lim) = false := decide_eq_false hlb
          go_wp2_with fail
          have EF : Hid ((⟨(s k).objs.drop (s k).scavN, (s k).lim, ((s k).objs.drop (s k).scavN).length⟩ : CL) = (s k).scavF (Bt tb k)) := Lib.hid (by unfold CL.scavF; rw [if_neg hlb, List.length_drop])
          have HALL4 := HALL3
          have G13 := G10
          clear HALL3 G10
          refine wp_region_par (w0 := w0) 0 13 [] [] (refL c tb bud (updC (stepS (fun k x => CL.scavF (Bt tb k) x) s k) k (CL.oldest (s k).scavN (s k))) D3 ++ (batsZ (.slice a zs.length cap) zs :: F)) []
            (fun i v => True)
            (fun i v => HP.emp) (by kernel_rfl) (by kernel_rfl) rfl (by kernel_rfl) (by simpa using G13.out) ?_
          simp only [List.take_succ_cons, List.take_zero, List.drop_succ_cons, List.drop_zero]
          iterate 13
            with_reducible refine wpPar_pure (by kernel_rfl) (fun K hK => ?_)
            go_simp
            apply Exists.intro
            refine ⟨fun G w1 h1 => ?_, hK _ ?_⟩
            (first
              | (with_reducible rfl)
              | (obtain ⟨z0, z1, z2, z3, z4, z5, z6, z7, z8, z9⟩ := HALL4.out w1 _ h1; go_simp; done)
              | (obtain ⟨z0, z1, z2, z3, z4, z5, z6, z7, z8, z9⟩ := HALL4.out w1 _ h1; go_simp; with_reducible rfl))
            clear hK K
          refine wpPar_nil ?_
          intro w14 h14
          simp only [List.map_nil, List.nil_append] at h14
          obtain ⟨z0, z1, z2, z3, z4, z5, z6, z7, z8, z9⟩ := HALL4.out w14 _ h14
          have hm := ref_setW hlt ((s k).objs.drop (s k).scavN).length h14
          rw [updC_same, updC_twice] at hm
          obtain ⟨hm1, fz⟩ := hm
          have G14 := Lib.hid (ref_shut hm1).swap
          clear hm1 h14 G13 HALL4
          go_wp2_with fail
          go_roundw
          case rel =>
            refine ⟨k + 1, _, _, _, by omega, by first | rfl | rw [qk], rfl, KZ, HL2, Lib.hid ?_⟩
            rw [← stepS_succ, ← EF.out]
            have := G14.out
            simp only [List.length_drop] at this ⊢
            exact this
          case measure => simp [intOf]; omega
    · have hkn : k = tb.length := by omega
      obtain ⟨D, g⟩ := ref_open HS.out.swap
      obtain ⟨c0, _⟩ := ref_head g
      have dk : decide ((k : Int) < (tb.length : Int)) = false := decide_eq_false (by omega)
      have dk' : decide (k < tb.length) = false := decide_eq_false hlt
      have KN := Lib.hid hkn
      clear hkn g
      go_wp2_with fail
      go_ret
      have hl : zs.length = (outB CL.scavL s tb.length).length := by rw [← KN.out, ← HK.out, List.length_map]
      have h9 := HS.out
      rw [hl] at h9
      refine ⟨a, cap, by rw [show (scavB s tb.length).length = zs.length from hl.symm]; rfl, ?_⟩
      have h10 : St w0 (batsP (.slice a (outB CL.scavL s tb.length).length cap) (outB CL.scavL s tb.length) :: refP c tb bud (stepS (fun k x => x.scavF (Bt tb k)) s k) :: F) _ := St.ex.2 ⟨⟨zs, by rw [HK.out, KN.out]⟩, h9⟩
      refine h10.swap.eq ?_ |>.swap
      exact refP_ext fun j hj => by
        show (if _ then _ else _) = _
        rw [if_pos (by rw [KN.out]; exact hj)]
        rfl
end Go.Proofs.Ytaejojbdkgccpaa

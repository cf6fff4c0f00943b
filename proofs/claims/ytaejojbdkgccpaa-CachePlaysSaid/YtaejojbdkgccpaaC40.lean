/-
  The reference's Scavenge, Drain. (Printed by mkC40.py.)
-/
import Derived.Test.YtaejojbdkgccpaaC39
namespace Go.Proofs.Ytaejojbdkgccpaa
open Go.RowKit Go.Maps Go.ChangeMaps

theorem outB_succ (fL : CL → List Int) (s : Nat → CL) (n : Nat) : outB fL s (n + 1) = outB fL s n ++ (if 0 < (fL (s n)).length then [(n, fL (s n))] else []) := by
  unfold outB
  rw [List.range_succ, List.filterMap_append]
  congr 1
  rw [List.filterMap_cons]
  split
  · rename_i h
    split at h
    · cases h
    · rename_i h1; rw [if_neg h1]; rfl
  · rename_i b h
    split at h
    · rename_i h1; injection h with h; subst h; rw [if_pos h1]; rfl
    · cases h
theorem refP_ext {c : Nat} {tb : List Cls} {bud : Int} {s s' : Nat → CL} (h : ∀ k, k < tb.length → s k = s' k) : refP c tb bud s = refP c tb bud s' := by
  unfold refP
  congr 1
  funext D
  have e1 : slcL tb.length (D.v s) = slcL tb.length (D.v s') := slcL_ext fun k hk => by unfold RD.v; rw [h k hk]
  have e2 : numsF tb.length (limF s) = numsF tb.length (limF s') := numsF_ext fun k hk => by unfold limF; rw [h k hk]
  have e3 : numsF tb.length (lowF s) = numsF tb.length (lowF s') := numsF_ext fun k hk => by unfold lowF; rw [h k hk]
  have e4 : (stars tb.length fun k => intsP (D.v s k) (s k).objs) = stars tb.length fun k => intsP (D.v s' k) (s' k).objs := stars_ext fun k hk => by unfold RD.v; rw [h k hk]
  rw [e1, e2, e3, e4]
def stepS (fF : Nat → CL → CL) (s : Nat → CL) (i k : Nat) : CL := if k < i then fF k (s k) else s k
theorem stepS_at (fF : Nat → CL → CL) (s : Nat → CL) (i : Nat) : stepS fF s i i = s i := if_neg (Nat.lt_irrefl _)
theorem stepS_zero (fF : Nat → CL → CL) (s : Nat → CL) : stepS fF s 0 = s := by funext k; simp [stepS]
theorem stepS_succ (fF : Nat → CL → CL) (s : Nat → CL) (i : Nat) : updC (stepS fF s i) i (fF i (s i)) = stepS fF s (i + 1) := by
  funext k
  unfold updC stepS
  by_cases h : k = i
  · subst h; simp
  · by_cases h1 : k < i
    · rw [if_neg h, if_pos h1, if_pos (by omega)]
    · rw [if_neg h, if_neg h1, if_neg (by omega)]
theorem bats_add {w0 w : World} {F : List HP} {a3 : Option Addr} {cap3 : Nat} {zs : List BO} {k : Nat} {v : Value} {l : List Int} {A : HP} {v1 : Value}
    (h : St w0 (HP.arr 48 2 (.slice a3 (zs.length + 1) cap3) (zs.length + 1) (batC (zs.map BO.bat) ++ [.int .i64 (k : Int), v]) :: HP.arr 48 2 v1 1 [.int .i64 (k : Int), v] :: (zs.map BO.P ++ (intsP v l :: A :: F))) w) :
    St w0 (batsZ (.slice a3 (zs ++ [(⟨k, v, l⟩ : BO)]).length cap3) (zs ++ [(⟨k, v, l⟩ : BO)]) :: A :: F) w := by
  have ez : (zs ++ [(⟨k, v, l⟩ : BO)]).length = zs.length + 1 := by rw [List.length_append]; rfl
  refine h.swap.drop.perm ?_
  simp only [HP.big, HP.big_append, batsZ, List.map_append, List.map_cons, List.map_nil, ez, batC, List.flatMap_append, List.flatMap_cons, List.flatMap_nil, List.append_nil]
  simp only [BO.P, BO.bat, encB, HP.sep_emp]
  ac_rfl
set_option maxRecDepth 10000 in
set_option maxHeartbeats 8000000 in
theorem rdrain_in {w0 w : World} {F : List HP} {c : Nat} {tb : List Cls} {bud : Int} {s : Nat → CL} (ht : tbOk tb) (hok : ∀ k, (s k).ok) (h : St w0 (refP c tb bud s :: F) w) :
    Calls Try.prog 58 #[.pointer (some ⟨c, 0, none⟩)] w fun e w' => ∃ a' c', e = .returned (.slice a' (drainB s tb.length).length c') ∧ St w0 (batsP (.slice a' (drainB s tb.length).length c') (drainB s tb.length) :: refP c tb bud (drainS s) :: F) w' := by
  have M := Lib.hid (rmade_in ht.1 h)
  have hN := ht.2.1
  obtain ⟨i0, hi, hz0, hz1, hz2⟩ := info_parts info48
  have HI := Lib.hid hi
  have Z0 := Lib.hid hz0
  have Z1 := Lib.hid hz1
  have Z2 := Lib.hid hz2
  have H1 := Lib.hid h
  have HT := Lib.hid ht
  have HOK := Lib.hid hok
  clear h ht hok hi hz0 hz1 hz2
  go_enter Try.func58, Try.ntmps58
  go_wp2_with fail
  refine M.out.mono ?_
  rintro e w' ⟨rfl, rfl⟩
  go_wp2_with fail
  clear M
  go_loopw [3, 4] (fun out i wr => ∃ (k : Nat) (zs : List BO) (a : Option Addr) (cap : Nat), k ≤ tb.length ∧ i = .int .i64 k ∧ out = .slice a zs.length cap ∧ Hid (zs.map BO.key = outB CL.objs s k) ∧ Hid (zs.length ≤ k) ∧
    Hid (St w0 (batsZ out zs :: refP c tb bud (stepS (fun _ x => x.drainF) s k) :: F) wr)) (fun _ i _ => tb.length - (intOf i).toNat)
  case atStart =>
    refine ⟨0, [], none, 0, Nat.zero_le _, rfl, rfl, Lib.hid rfl, Lib.hid (Nat.le_refl _), Lib.hid ?_⟩
    rw [stepS_zero]
    refine (H1.out.arr_nil 48 2).perm ?_
    simp only [HP.big, batsZ, List.map_nil, HP.sep_emp, List.length_nil, batC, List.flatMap_nil]
  case round =>
    clear H1
    obtain ⟨k, zs, a, cap, hk, rfl, rfl, HK, HL, HS⟩ := hrel
    by_cases hlt : k < tb.length
    · obtain ⟨x, hx⟩ : ∃ x, tb[k]? = some x := ⟨tb[k], List.getElem?_eq_getElem hlt⟩
      have hb := Bt_of HT.out hx
      have hB := Bt_range HT.out k
      have HX := Lib.hid hx
      have HB := Lib.hid hb
      obtain ⟨k1, k2, k3, k4⟩ := HOK.out k
      obtain ⟨D, g⟩ := ref_open HS.out.swap
      obtain ⟨bt, ot, hall⟩ := ref_all g hx
      obtain ⟨z0, z1, z2, z3, z4, z5, z6, z7, z8, z9⟩ := hall _ _ g
      rw [stepS_at] at z5 z6 z7
      have i0' : (0 : Int) ≤ (k : Int) := by omega
      have i1' : (k : Int) < (tb.length : Int) := by omega
      have dk : decide ((k : Int) < (tb.length : Int)) = true := decide_eq_true (by omega)
      have dk' : decide (k < tb.length) = true := decide_eq_true hlt
      have qk : IntKind.i64.wrap ((k : Int) + 1) = ((k + 1 : Nat) : Int) := by rw [IntWalk.i64_in _ (by omega)]; rfl
      clear hall g hx hb
      have OLD := Lib.hid (roldest_in HS.out.swap hlt (by rw [stepS_at]; exact ⟨k1, k2, k3, k4⟩) (s k).objs.length (by omega))
      have eO : CL.oldest (s k).objs.length (s k) = ⟨[], (s k).lim, min (s k).low 0⟩ := by unfold CL.oldest; rw [List.drop_length, Nat.sub_self]
      rw [stepS_at, List.take_length, eO] at OLD
      clear eO
      go_wp2_with fail
      refine OLD.out.mono ?_
      rintro e w8 ⟨a8, p8, rfl, h8⟩
      clear z0 z1 z2 z3 z4 z5 z6 z7 z8 z9 OLD
      by_cases hpos : 0 < (s k).objs.length
      · have j0 : decide ((0 : Int) < (((s k).objs).length : Int)) = true := decide_eq_true (by omega)
        have j0' : decide (0 < ((s k).objs).length) = true := decide_eq_true hpos
        have g3 : St w0 (HP.arr 48 2 (.slice a zs.length cap) zs.length (batC (zs.map BO.bat)) :: _) w8 := h8.perm (L' := HP.arr 48 2 (.slice a zs.length cap) zs.length (batC (zs.map BO.bat)) :: (zs.map BO.P ++ (intsP (.slice a8 ((s k).objs).length p8) ((s k).objs) :: refP c tb bud (updC (stepS (fun _ x => CL.drainF x) s k) k ⟨[], (s k).lim, min (s k).low 0⟩) :: F))) (by simp only [HP.big, HP.big_append, batsZ]; ac_rfl)
        have g4 := g3.newArr 48 2 1 [.int .i64 (k : Int), .slice a8 ((s k).objs).length p8] rfl (by decide)
        have hr := Lib.hid (HP.arr_reads g4)
        have g5 := Lib.hid g4.swap
        have hzl := HL.out
        clear g3 g4 h8
        have ez : zs.length + 1 = (zs ++ [(⟨k, .slice a8 ((s k).objs).length p8, (s k).objs⟩ : BO)]).length := by rw [List.length_append]; rfl
        have KZ : Hid ((zs ++ [(⟨k, .slice a8 ((s k).objs).length p8, (s k).objs⟩ : BO)]).map BO.key = outB CL.objs s (k + 1)) := Lib.hid (by
          rw [outB_succ, List.map_append, HK.out, if_pos hpos]
          rfl)
        have HL2 : Hid ((zs ++ [(⟨k, .slice a8 ((s k).objs).length p8, (s k).objs⟩ : BO)]).length ≤ k + 1) := Lib.hid (by rw [← ez]; omega)
        have ADD : Hid (∀ a3 cap3 w', St w0 (HP.arr 48 2 (.slice a3 (zs.length + 1) cap3) (zs.length + 1) (batC (zs.map BO.bat) ++ [.int .i64 (k : Int), .slice a8 ((s k).objs).length p8]) :: HP.arr 48 2 (.slice (some ⟨w8.heap.size, 0, none⟩) 1 1) 1 [.int .i64 (k : Int), .slice a8 ((s k).objs).length p8] :: (zs.map BO.P ++ (intsP (.slice a8 ((s k).objs).length p8) ((s k).objs) :: refP c tb bud (updC (stepS (fun _ x => CL.drainF x) s k) k ⟨[], (s k).lim, min (s k).low 0⟩) :: F))) w' →
            St w0 (batsZ (.slice a3 (zs ++ [(⟨k, .slice a8 ((s k).objs).length p8, (s k).objs⟩ : BO)]).length cap3) (zs ++ [(⟨k, .slice a8 ((s k).objs).length p8, (s k).objs⟩ : BO)]) :: refP c tb bud (updC (stepS (fun _ x => CL.drainF x) s k) k ⟨[], (s k).lim, min (s k).low 0⟩) :: F) w') := Lib.hid fun a3 cap3 w' h' => bats_add h'
        generalize hzz : zs ++ [(⟨k, .slice a8 ((s k).objs).length p8, (s k).objs⟩ : BO)] = zs2 at ez KZ HL2 ADD
        clear hzz
        go_wp2_with (
          at_builtin
          refine wpList_append_st rfl _ _ 45 rfl 48 i0 _ 2 32 Try.underlying45 HI.out Z0.out Z1.out Z2.out rfl _ _ rfl rfl zs.length (batC (zs.map BO.bat)) g5.out 1 [.int .i64 (k : Int), .slice a8 ((s k).objs).length p8] hr.out (by intro u hu; simp at hu; rcases hu with rfl | rfl <;> rfl) (by unfold maxLen; omega) (by omega) ?_
          intro w9v w9 hs' hv'
          obtain ⟨a3, cap3, rfl⟩ := (HP.arr_reads hs').form
          have h9 := ADD.out a3 cap3 w9 hs'
          rw [ez]
          clear hs' hv' ez
          obtain ⟨D3, g9⟩ := ref_open h9.swap
          have y4 := (ref_head g9).2.2.2.2
          have y7 := (ref_at g9 hlt).2.2
          have hm := ref_setW hlt 0 g9
          rw [updC_same, updC_twice] at hm
          obtain ⟨hm1, fz⟩ := hm
          have GM := Lib.hid (ref_shut hm1).swap
          clear g9 hm1 h9)
        go_roundw
        case rel =>
          refine ⟨k + 1, _, _, _, by omega, by first | rfl | rw [qk], rfl, KZ, HL2, Lib.hid ?_⟩
          rw [← stepS_succ]
          exact GM.out
        case measure => simp [intOf]; omega
      · have j0 : decide ((0 : Int) < (((s k).objs).length : Int)) = false := decide_eq_false (by omega)
        have j0' : decide (0 < ((s k).objs).length) = false := decide_eq_false hpos
        have h9 : St w0 (batsZ (.slice a zs.length cap) zs :: refP c tb bud (updC (stepS (fun _ x => CL.drainF x) s k) k ⟨[], (s k).lim, min (s k).low 0⟩) :: F) w8 := (h8.drop).perm (by simp only [HP.big]; ac_rfl)
        have KZ : Hid (zs.map BO.key = outB CL.objs s (k + 1)) := Lib.hid (by
          rw [outB_succ, HK.out, if_neg hpos, List.append_nil])
        have HL2 : Hid (zs.length ≤ k + 1) := Lib.hid (by have := HL.out; omega)
        clear h8
        obtain ⟨D3, g9⟩ := ref_open h9.swap
        have y4 := (ref_head g9).2.2.2.2
        have y7 := (ref_at g9 hlt).2.2
        have hm := ref_setW hlt 0 g9
        rw [updC_same, updC_twice] at hm
        obtain ⟨hm1, fz⟩ := hm
        have GM := Lib.hid (ref_shut hm1).swap
        clear g9 hm1 h9
        go_wp2_with fail
        go_roundw
        case rel =>
          refine ⟨k + 1, _, _, _, by omega, by first | rfl | rw [qk], rfl, KZ, HL2, Lib.hid ?_⟩
          rw [← stepS_succ]
          exact GM.out
        case measure => simp [intOf]; omega
    · have hkn : k = tb.length := by omega
      obtain ⟨D, g⟩ := ref_open HS.out.swap
      obtain ⟨c0, _⟩ := ref_head g
      have dk : decide ((k : Int) < (tb.length : Int)) = false := decide_eq_false (by omega)
      have dk' : decide (k < tb.length) = false := decide_eq_false hlt
      have KN := Lib.hid hkn
      clear hkn g
      go_wp2_with fail
      go_ret
      have hl : zs.length = (outB CL.objs s tb.length).length := by rw [← KN.out, ← HK.out, List.length_map]
      have h9 := HS.out
      rw [hl] at h9
      refine ⟨a, cap, by rw [show (drainB s tb.length).length = zs.length from hl.symm]; rfl, ?_⟩
      have h10 : St w0 (batsP (.slice a (outB CL.objs s tb.length).length cap) (outB CL.objs s tb.length) :: refP c tb bud (stepS (fun _ x => x.drainF) s k) :: F) _ := St.ex.2 ⟨⟨zs, by rw [HK.out, KN.out]⟩, h9⟩
      refine h10.swap.eq ?_ |>.swap
      exact refP_ext fun j hj => by
        show (if _ then _ else _) = _
        rw [if_pos (by rw [KN.out]; exact hj)]
        rfl
end Go.Proofs.Ytaejojbdkgccpaa

/-
  The reference's oldest.
-/
import Derived.Test.YtaejojbdkgccpaaC37
import Derived.Test.YtaejojbdkgccpaaPar
namespace Go.Proofs.Ytaejojbdkgccpaa
open Go.RowKit Go.Maps Go.ChangeMaps

/-- 'v[k:]', as the walk has its address -/
theorem Reads.fromIf {w : World} {b o n m cap : Nat} {xs : List Value} (h : Reads w 1 (.slice (some ⟨b, o, none⟩) n cap) n xs) (hk : m ≤ n) : Reads w 1 (.slice (if cap = m then some ⟨b, o, none⟩ else some ⟨b, o + m, none⟩) (n - m) (cap - m)) (n - m) (xs.drop m) := by
  split
  · rename_i e
    subst e
    rcases h.2 with ⟨h1, _⟩ | ⟨b1, o1, sp, c1, hv, hn, _, _⟩
    · cases h1
    · injection hv with _ _ e3
      exact h.from hk (.inr (by omega))
  · exact h.from hk (.inl ⟨rfl, rfl⟩)
set_option maxRecDepth 10000 in
set_option maxHeartbeats 4000000 in
theorem roldest_in {w0 w : World} {F : List HP} {c : Nat} {tb : List Cls} {bud : Int} {s : Nat → CL} (h : St w0 (refP c tb bud s :: F) w) {k : Nat} (hk : k < tb.length) (hok : (s k).ok) (n : Nat) (hn : n ≤ 1000) :
    Calls Try.prog 71 #[.pointer (some ⟨c, 0, none⟩), .int .i64 k, .int .i64 n] w fun e w' => ∃ a' c', e = .returned (.slice a' ((s k).objs.take n).length c') ∧
      St w0 (intsP (.slice a' ((s k).objs.take n).length c') ((s k).objs.take n) :: refP c tb bud (updC s k ((s k).oldest n)) :: F) w' := by
  obtain ⟨D, g⟩ := ref_open h
  have hl := hok.2.2.2
  obtain ⟨i0, hi, hz0, hz1, hz2⟩ := info_parts info3
  have HI := Lib.hid hi
  have Z0 := Lib.hid hz0
  have Z1 := Lib.hid hz1
  have Z2 := Lib.hid hz2
  obtain ⟨c0, c1, c2, c3, c4⟩ := ref_head g
  obtain ⟨z0, z1, z2⟩ := ref_at g hk
  have gn := g.newArr 3 1 0 [] rfl (by decide)
  have GN := Lib.hid gn
  have GA : Hid (St w0 (refL c tb bud s D ++ (HP.arr 3 1 (.slice (some ⟨w.heap.size, 0, none⟩) 0 0) 0 [] :: F)) (w.alloc (.cells #[] 3))) := Lib.hid (gn.perm (by simp only [HP.big, HP.big_append]; ac_rfl))
  obtain ⟨y0, y1, y2, y3, y4⟩ := ref_head GA.out
  obtain ⟨x0, x1, x2⟩ := ref_at GA.out hk
  have i0' : (0 : Int) ≤ (k : Int) := by omega
  have i1' : (k : Int) < (tb.length : Int) := by omega
  obtain ⟨m, hm⟩ : ∃ m, m = min n (s k).objs.length := ⟨_, rfl⟩
  have hmin : min (n : Int) ((s k).objs.length : Int) = (m : Int) := by omega
  have b1 : (0 : Int) ≤ (m : Int) := by omega
  have R0 := HP.arr_form (ref_focus hk g)
  have RL := Lib.hid (ref_list GA.out hk)
  have HS := Lib.hid g
  have hall : ∀ G w', St w0 (refL c tb bud s D ++ G) w' → w'.cell? ⟨c, 2, none⟩ = some (.slice (some ⟨D.lb, D.lo, none⟩) tb.length D.lc) ∧ w'.cell? ⟨D.lb, D.lo + k, none⟩ = some (.slice (D.va k) (s k).objs.length (D.vc k)) := fun G w' h' => by
    exact ⟨(ref_head h').2.2.1, (ref_at h' hk).1⟩
  have HALL := Lib.hid hall
  clear hall h hok
  rcases R0 with ⟨hv, h0⟩ | ⟨b, o, cap, hv, hle⟩
  · injection hv with e1 e2 e3
    have hnil : (s k).objs = [] := List.eq_nil_of_length_eq_zero e2
    have hm0 : m = 0 := by omega
    have OD : Hid ((s k).oldest n = ⟨[], (s k).lim, min (s k).low 0⟩) := Lib.hid (by unfold CL.oldest; rw [hnil]; simp)
    have LT0 : Hid (((s k).objs.take n) = []) := Lib.hid (by rw [hnil]; simp)
    have LT : Hid (((([] : List Int)).length) = 0) := Lib.hid rfl
    subst hm0
    rw [LT0.out]
    rw [e1, e2, e3] at z0 x0 HALL RL
    have RM : Hid (Reads (w.alloc (.cells #[] 3)) 1 (.slice none 0 0) 0 (intsC [])) := Lib.hid (Reads.nil _ _)
    have RD2 : Hid (∀ (X : HP) (G : List HP) w', St w0 (X :: (refL c tb bud s D ++ G)) w' → Reads w' 1 (.slice none 0 0) 0 (intsC [])) := Lib.hid fun _ _ _ _ => Reads.nil _ _
    have hmin0 : min (n : Int) 0 = 0 := by omega
    clear hmin
    clear gn g hm GA e1 e3 hi hz0 hz1 hz2 c0 c1 c3 y0 y1 y3 y4 x1 x2 z1 z2
    go_enter Try.func71, Try.ntmps71
    go_wp2_with (at_builtin; refine wpList_append_st rfl _ _ 28 rfl 3 i0 _ 1 8 Try.underlying28 HI.out Z0.out Z1.out Z2.out rfl _ _ rfl rfl 0 [] GN.out 0 (intsC []) RM.out (intsC_one _) (by unfold maxLen; omega) (by omega) ?_; intro v' w' hs' hv'; simp only [Nat.zero_add, List.nil_append] at hs'; obtain ⟨a3, p3, rfl⟩ := (HP.arr_reads hs').form; have HS9 := Lib.hid hs'; clear hs' hv')
    clear z0 c2 y2 x0 c4
    refine wp_region_par (w0 := w0) 0 16 [15] [] (refL c tb bud s D ++ (intsP (.slice a3 0 p3) [] :: F)) [(5, []), (15, [5])]
      (fun i v => if i = 5 then ∃ a, v = .slice (some a) 0 0 else ∃ a' c', v = .slice a' 0 c')
      (fun i v => if i = 5 then HP.arr 3 1 v 0 [] else intsP v []) (by kernel_rfl) (by kernel_rfl) rfl (by kernel_rfl) (HS9.out.perm (by unfold intsP; rw [LT.out]; simp only [HP.big, HP.big_append, List.nil_append]; ac_rfl)) ?_
    simp only [List.take_succ_cons, List.take_zero, List.drop_succ_cons, List.drop_zero]
    iterate 5
      with_reducible refine wpPar_pure (by kernel_rfl) (fun K hK => ?_)
      go_simp
      apply Exists.intro
      refine ⟨fun G w1 h1 => ?_, hK _ ?_⟩
      (first
        | (with_reducible rfl)
        | (obtain ⟨q1, q2⟩ := HALL.out _ w1 h1; go_simp; done)
        | (obtain ⟨q1, q2⟩ := HALL.out _ w1 h1; go_simp; with_reducible rfl))
      clear hK K
    refine wpPar_eff (c := []) (by kernel_rfl) ⟨.slice (some ⟨0, 0, none⟩) 0 0, ⟨_, rfl⟩⟩ (fun G w1 h1 => ?_) (fun v hv K hK => ?_)
    · simp only [List.map_nil, List.nil_append, List.append_assoc, List.cons_append] at h1
      go_simp
      exact h1.newArr 3 1 0 [] rfl (by decide)
    simp only [if_true] at hv
    obtain ⟨a5, rfl⟩ := hv
    refine hK _ ?_; clear hK K
    iterate 9
      with_reducible refine wpPar_pure (by kernel_rfl) (fun K hK => ?_)
      go_simp
      apply Exists.intro
      refine ⟨fun G w1 h1 => ?_, hK _ ?_⟩
      (first
        | (with_reducible rfl)
        | (obtain ⟨q1, q2⟩ := HALL.out _ w1 h1; go_simp; done)
        | (obtain ⟨q1, q2⟩ := HALL.out _ w1 h1; go_simp; with_reducible rfl))
      clear hK K
    refine wpPar_eff (c := [5]) (by kernel_rfl) ⟨.slice none 0 0, (show ∃ a' c', (Value.slice none 0 0) = .slice a' 0 c' from ⟨_, _, rfl⟩)⟩ (fun G w1 h1 => ?_) (fun v hv K hK => ?_)
    · simp [tokA, upd] at h1
      have R1 := RD2.out _ _ w1 h1
      refine eff_append_st _ _ 28 rfl 3 i0 _ 1 8 Try.underlying28 HI.out Z0.out Z1.out Z2.out rfl _ _ rfl rfl 0 [] h1 0 (intsC []) R1 (intsC_one _) (by unfold maxLen; omega) (by omega) ?_
      intro v' w' hs' _
      simp only [Nat.zero_add, List.nil_append] at hs'
      obtain ⟨a7, p7, rfl⟩ := (HP.arr_reads hs').form
      refine ⟨⟨a7, p7, by first | rw [List.length_drop] | rfl⟩, ?_⟩
      show St w0 (intsP _ _ :: _) w'
      unfold intsP
      try rw [List.length_drop]
      simpa [intsP] using hs'
    simp only [show ¬ ((15 : Nat) = 5) by decide, if_false] at hv
    obtain ⟨a6, p6, rfl⟩ := hv
    refine hK _ ?_; clear hK K
    refine wpPar_nil ?_
    intro w5 h5
    simp [tokA, upd] at h5
    have g5 : St w0 (refL c tb bud s D ++ (intsP (.slice a6 0 p6) [] :: intsP (.slice a3 0 p3) [] :: F)) w5 := h5.perm (by (try rw [List.length_drop]); simp only [HP.big, HP.big_append]; ac_rfl)
    have y2 : w5.cell? ⟨c, 2, none⟩ = some (.slice (some ⟨D.lb, D.lo, none⟩) tb.length D.lc) := (ref_head g5).2.2.1
    have x0 := (ref_at g5 hk).1
    have f := (ref_focus hk g5).drop.perm (L' := intsP (.slice a6 0 p6) [] :: (refR c tb bud s D k ++ (intsP (.slice a3 0 p3) [] :: F))) (by simp only [HP.big, HP.big_append]; ac_rfl)
    obtain ⟨g6, fz⟩ := ref_backL hk f
    (first | rw [List.length_drop] at g6 | rw [List.length_nil] at g6)
    generalize hw6 : w5.setCell ⟨D.lb, D.lo + k, none⟩ (.slice a6 0 p6) = w6 at g6
    have G6 := Lib.hid g6
    clear h5 f g5 g6 HS9 HALL RD2 GN RM RL
    go_wp2_with fail
    clear y2 x0 fz hw6
    have HALL : Hid (∀ G w', St w0 (refL c tb bud (updC s k ⟨[], (s k).lim, (s k).low⟩) (D.put k a6 p6) ++ G) w' → w'.cell? ⟨c, 2, none⟩ = some (.slice (some ⟨D.lb, D.lo, none⟩) tb.length D.lc) ∧ w'.cell? ⟨c, 4, none⟩ = some (.slice (some ⟨D.wb, D.wo, none⟩) tb.length D.wc) ∧ w'.cell? ⟨D.lb, D.lo + k, none⟩ = some (.slice a6 0 p6) ∧ w'.cell? ⟨D.wb, D.wo + k, none⟩ = some (.int .i64 (s k).low)) := Lib.hid fun G w' h' => by
      have e := ref_at h' hk
      rw [updC_same] at e
      (first | rw [List.length_drop] at e | rw [List.length_nil] at e)
      have e1 : (D.put k a6 p6).va k = a6 := by unfold RD.put upd; simp
      have e2 : (D.put k a6 p6).vc k = p6 := by unfold RD.put upd; simp
      rw [e1, e2] at e
      exact ⟨(ref_head h').2.2.1, (ref_head h').2.2.2.2, e.1, e.2.2⟩
    refine wp_region_par (w0 := w0) 0 21 [] [] (refL c tb bud (updC s k ⟨[], (s k).lim, (s k).low⟩) (D.put k a6 p6) ++ (intsP (.slice a3 0 p3) [] :: F)) []
      (fun i v => True)
      (fun i v => HP.emp) (by kernel_rfl) (by kernel_rfl) rfl (by kernel_rfl) (by simpa using G6.out) ?_
    simp only [List.take_succ_cons, List.take_zero, List.drop_succ_cons, List.drop_zero]
    iterate 21
      with_reducible refine wpPar_pure (by kernel_rfl) (fun K hK => ?_)
      go_simp
      apply Exists.intro
      refine ⟨fun G w1 h1 => ?_, hK _ ?_⟩
      (first
        | (with_reducible rfl)
        | (obtain ⟨q1, q2, q3, q4⟩ := HALL.out _ w1 h1; go_simp; done)
        | (obtain ⟨q1, q2, q3, q4⟩ := HALL.out _ w1 h1; go_simp; with_reducible rfl))
      clear hK K
    refine wpPar_nil ?_
    intro w7 h7
    simp only [List.map_nil, List.nil_append] at h7
    have y4 : w7.cell? ⟨c, 4, none⟩ = some (.slice (some ⟨D.wb, D.wo, none⟩) tb.length D.wc) := (ref_head h7).2.2.2.2
    have y7 : w7.cell? ⟨D.wb, D.wo + k, none⟩ = some (.int .i64 (s k).low) := by
      have := (ref_at h7 hk).2.2
      rw [updC_same] at this
      exact this
    have fz : w7.frozen? ⟨D.wb, D.wo + k, none⟩ = false := (ref_setW hk 0 h7).2
    have G : Hid (∀ v (j : Nat), v = Value.int .i64 j → St w0 (refP c tb bud (updC s k ⟨[], (s k).lim, j⟩) :: (intsP (.slice a3 0 p3) [] :: F)) (w7.setCell ⟨D.wb, D.wo + k, none⟩ v)) := Lib.hid fun v j hv => by
      subst hv
      have := ref_shut (ref_setW hk j h7).1
      rw [updC_same, updC_twice] at this
      exact this
    clear h7 G6 HALL
    go_wp2_with fail
    go_ret
    refine ⟨a3, p3, rfl, ?_⟩
    rw [OD.out]
    exact (G.out _ (min (s k).low 0) (by congr 1; omega)).swap
  · injection hv with e1 e2 e3
    rw [e1] at z0 x0 HALL RL
    have b2 : (m : Int) ≤ (D.vc k : Int) := by omega
    have b3 : m ≤ D.vc k := by omega
    have b4 : ((s k).objs.length : Int) ≤ (D.vc k : Int) := by omega
    have b5 : (m : Int) ≤ ((s k).objs.length : Int) := by omega
    have RM : Hid (Reads (w.alloc (.cells #[] 3)) 1 (.slice (some ⟨b, o, none⟩) m (D.vc k)) m (intsC ((s k).objs.take n))) := Lib.hid (by
      have ef := ref_focus hk GA.out
      rw [e1] at ef
      have g3 := HP.arr_reads (ef.mono (HP.arr_take (k := m) (by omega) (by omega)))
      rw [Nat.mul_one, intsC_take] at g3
      rw [show (s k).objs.take n = (s k).objs.take m by rw [hm, List.take_eq_take_iff]; omega]
      exact g3)
    have RD2 : Hid (∀ X G w', St w0 (X :: (refL c tb bud s D ++ G)) w' → Reads w' 1 (.slice (if D.vc k = m then some ⟨b, o, none⟩ else some ⟨b, o + m, none⟩) ((s k).objs.length - m) (D.vc k - m)) ((s k).objs.length - m) (intsC ((s k).objs.drop m))) := Lib.hid fun X G w' h' => by
      have r := ref_list h'.drop hk
      rw [e1] at r
      rw [← intsC_drop]
      exact r.fromIf (by omega)
    have LT : Hid (((s k).objs.take n).length = m) := Lib.hid (by rw [List.length_take]; omega)
    have OD : Hid ((s k).oldest n = ⟨(s k).objs.drop m, (s k).lim, min (s k).low ((s k).objs.length - m)⟩) := Lib.hid (by
      unfold CL.oldest
      rw [show (s k).objs.length - n = (s k).objs.length - m by omega]
      congr 1
      by_cases hh : n ≤ (s k).objs.length
      · rw [show m = n by omega]
      · rw [List.drop_eq_nil_of_le (by omega), List.drop_eq_nil_of_le (by omega)])
    clear gn g hm GA e1 e3 hle hi hz0 hz1 hz2 c0 c1 c3 y0 y1 y3 y4 x1 x2 z1 z2
    go_enter Try.func71, Try.ntmps71
    go_wp2_with (at_builtin; refine wpList_append_st rfl _ _ 28 rfl 3 i0 _ 1 8 Try.underlying28 HI.out Z0.out Z1.out Z2.out rfl _ _ rfl rfl 0 [] GN.out m (intsC ((s k).objs.take n)) RM.out (intsC_one _) (by unfold maxLen; omega) (by omega) ?_; intro v' w' hs' hv'; simp only [Nat.zero_add, List.nil_append] at hs'; obtain ⟨a3, p3, rfl⟩ := (HP.arr_reads hs').form; have HS9 := Lib.hid hs'; clear hs' hv')
    clear z0 c2 y2 x0 c4
    refine wp_region_par (w0 := w0) 0 16 [15] [] (refL c tb bud s D ++ (intsP (.slice a3 m p3) ((s k).objs.take n) :: F)) [(5, []), (15, [5])]
      (fun i v => if i = 5 then ∃ a, v = .slice (some a) 0 0 else ∃ a' c', v = .slice a' ((s k).objs.drop m).length c')
      (fun i v => if i = 5 then HP.arr 3 1 v 0 [] else intsP v ((s k).objs.drop m)) (by kernel_rfl) (by kernel_rfl) rfl (by kernel_rfl) (HS9.out.perm (by unfold intsP; rw [LT.out]; simp only [HP.big, HP.big_append, List.nil_append]; ac_rfl)) ?_
    simp only [List.take_succ_cons, List.take_zero, List.drop_succ_cons, List.drop_zero]
    iterate 5
      with_reducible refine wpPar_pure (by kernel_rfl) (fun K hK => ?_)
      go_simp
      apply Exists.intro
      refine ⟨fun G w1 h1 => ?_, hK _ ?_⟩
      (first
        | (with_reducible rfl)
        | (obtain ⟨q1, q2⟩ := HALL.out _ w1 h1; go_simp; done)
        | (obtain ⟨q1, q2⟩ := HALL.out _ w1 h1; go_simp; with_reducible rfl))
      clear hK K
    refine wpPar_eff (c := []) (by kernel_rfl) ⟨.slice (some ⟨0, 0, none⟩) 0 0, ⟨_, rfl⟩⟩ (fun G w1 h1 => ?_) (fun v hv K hK => ?_)
    · simp only [List.map_nil, List.nil_append, List.append_assoc, List.cons_append] at h1
      go_simp
      exact h1.newArr 3 1 0 [] rfl (by decide)
    simp only [if_true] at hv
    obtain ⟨a5, rfl⟩ := hv
    refine hK _ ?_; clear hK K
    iterate 9
      with_reducible refine wpPar_pure (by kernel_rfl) (fun K hK => ?_)
      go_simp
      apply Exists.intro
      refine ⟨fun G w1 h1 => ?_, hK _ ?_⟩
      (first
        | (with_reducible rfl)
        | (obtain ⟨q1, q2⟩ := HALL.out _ w1 h1; go_simp; done)
        | (obtain ⟨q1, q2⟩ := HALL.out _ w1 h1; go_simp; with_reducible rfl))
      clear hK K
    refine wpPar_eff (c := [5]) (by kernel_rfl) ⟨.slice none ((s k).objs.drop m).length 0, (show ∃ a' c', (Value.slice none ((s k).objs.drop m).length 0) = .slice a' ((s k).objs.drop m).length c' from ⟨_, _, rfl⟩)⟩ (fun G w1 h1 => ?_) (fun v hv K hK => ?_)
    · simp [tokA, upd] at h1
      have R1 := RD2.out _ _ w1 h1
      refine eff_append_st _ _ 28 rfl 3 i0 _ 1 8 Try.underlying28 HI.out Z0.out Z1.out Z2.out rfl _ _ rfl rfl 0 [] h1 ((s k).objs.length - m) (intsC ((s k).objs.drop m)) R1 (intsC_one _) (by unfold maxLen; omega) (by omega) ?_
      intro v' w' hs' _
      simp only [Nat.zero_add, List.nil_append] at hs'
      obtain ⟨a7, p7, rfl⟩ := (HP.arr_reads hs').form
      refine ⟨⟨a7, p7, by first | rw [List.length_drop] | rfl⟩, ?_⟩
      show St w0 (intsP _ _ :: _) w'
      unfold intsP
      try rw [List.length_drop]
      simpa [intsP] using hs'
    simp only [show ¬ ((15 : Nat) = 5) by decide, if_false] at hv
    obtain ⟨a6, p6, rfl⟩ := hv
    refine hK _ ?_; clear hK K
    refine wpPar_nil ?_
    intro w5 h5
    simp [tokA, upd] at h5
    have g5 : St w0 (refL c tb bud s D ++ (intsP (.slice a6 ((s k).objs.drop m).length p6) ((s k).objs.drop m) :: intsP (.slice a3 m p3) ((s k).objs.take n) :: F)) w5 := h5.perm (by (try rw [List.length_drop]); simp only [HP.big, HP.big_append]; ac_rfl)
    have y2 : w5.cell? ⟨c, 2, none⟩ = some (.slice (some ⟨D.lb, D.lo, none⟩) tb.length D.lc) := (ref_head g5).2.2.1
    have x0 := (ref_at g5 hk).1
    have f := (ref_focus hk g5).drop.perm (L' := intsP (.slice a6 ((s k).objs.drop m).length p6) ((s k).objs.drop m) :: (refR c tb bud s D k ++ (intsP (.slice a3 m p3) ((s k).objs.take n) :: F))) (by simp only [HP.big, HP.big_append]; ac_rfl)
    obtain ⟨g6, fz⟩ := ref_backL hk f
    (first | rw [List.length_drop] at g6 | rw [List.length_nil] at g6)
    generalize hw6 : w5.setCell ⟨D.lb, D.lo + k, none⟩ (.slice a6 ((s k).objs.length - m) p6) = w6 at g6
    have G6 := Lib.hid g6
    clear h5 f g5 g6 HS9 HALL RD2 GN RM RL
    generalize (if D.vc k = m then (some ⟨b, o, none⟩ : Option Addr) else some ⟨b, o + m, none⟩) = zz
    go_wp2_with fail
    clear y2 x0 fz hw6
    have HALL : Hid (∀ G w', St w0 (refL c tb bud (updC s k ⟨(s k).objs.drop m, (s k).lim, (s k).low⟩) (D.put k a6 p6) ++ G) w' → w'.cell? ⟨c, 2, none⟩ = some (.slice (some ⟨D.lb, D.lo, none⟩) tb.length D.lc) ∧ w'.cell? ⟨c, 4, none⟩ = some (.slice (some ⟨D.wb, D.wo, none⟩) tb.length D.wc) ∧ w'.cell? ⟨D.lb, D.lo + k, none⟩ = some (.slice a6 ((s k).objs.length - m) p6) ∧ w'.cell? ⟨D.wb, D.wo + k, none⟩ = some (.int .i64 (s k).low)) := Lib.hid fun G w' h' => by
      have e := ref_at h' hk
      rw [updC_same] at e
      (first | rw [List.length_drop] at e | rw [List.length_nil] at e)
      have e1 : (D.put k a6 p6).va k = a6 := by unfold RD.put upd; simp
      have e2 : (D.put k a6 p6).vc k = p6 := by unfold RD.put upd; simp
      rw [e1, e2] at e
      exact ⟨(ref_head h').2.2.1, (ref_head h').2.2.2.2, e.1, e.2.2⟩
    refine wp_region_par (w0 := w0) 0 21 [] [] (refL c tb bud (updC s k ⟨(s k).objs.drop m, (s k).lim, (s k).low⟩) (D.put k a6 p6) ++ (intsP (.slice a3 m p3) ((s k).objs.take n) :: F)) []
      (fun i v => True)
      (fun i v => HP.emp) (by kernel_rfl) (by kernel_rfl) rfl (by kernel_rfl) (by simpa using G6.out) ?_
    simp only [List.take_succ_cons, List.take_zero, List.drop_succ_cons, List.drop_zero]
    iterate 21
      with_reducible refine wpPar_pure (by kernel_rfl) (fun K hK => ?_)
      go_simp
      apply Exists.intro
      refine ⟨fun G w1 h1 => ?_, hK _ ?_⟩
      (first
        | (with_reducible rfl)
        | (obtain ⟨q1, q2, q3, q4⟩ := HALL.out _ w1 h1; go_simp; done)
        | (obtain ⟨q1, q2, q3, q4⟩ := HALL.out _ w1 h1; go_simp; with_reducible rfl))
      clear hK K
    refine wpPar_nil ?_
    intro w7 h7
    simp only [List.map_nil, List.nil_append] at h7
    have y4 : w7.cell? ⟨c, 4, none⟩ = some (.slice (some ⟨D.wb, D.wo, none⟩) tb.length D.wc) := (ref_head h7).2.2.2.2
    have y7 : w7.cell? ⟨D.wb, D.wo + k, none⟩ = some (.int .i64 (s k).low) := by
      have := (ref_at h7 hk).2.2
      rw [updC_same] at this
      exact this
    have fz : w7.frozen? ⟨D.wb, D.wo + k, none⟩ = false := (ref_setW hk 0 h7).2
    have G : Hid (∀ v (j : Nat), v = Value.int .i64 j → St w0 (refP c tb bud (updC s k ⟨(s k).objs.drop m, (s k).lim, j⟩) :: (intsP (.slice a3 m p3) ((s k).objs.take n) :: F)) (w7.setCell ⟨D.wb, D.wo + k, none⟩ v)) := Lib.hid fun v j hv => by
      subst hv
      have := ref_shut (ref_setW hk j h7).1
      rw [updC_same, updC_twice] at this
      exact this
    clear h7 G6 HALL
    go_wp2_with fail
    go_ret
    refine ⟨a3, p3, by rw [LT.out]; rfl, ?_⟩
    rw [LT.out, OD.out]
    exact (G.out _ (min (s k).low ((s k).objs.length - m)) (by congr 1; omega)).swap
end Go.Proofs.Ytaejojbdkgccpaa

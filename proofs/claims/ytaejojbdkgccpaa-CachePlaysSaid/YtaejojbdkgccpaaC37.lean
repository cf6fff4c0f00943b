/-
  The reference's Fill.
-/
import Derived.Test.YtaejojbdkgccpaaC36
namespace Go.Proofs.Ytaejojbdkgccpaa
open Go.RowKit Go.Maps Go.ChangeMaps

theorem drop_rev {ys : List Int} {j : Nat} {x : Int} (hx : ys[j]? = some x) : (ys.drop j).reverse = (ys.drop (j + 1)).reverse ++ [x] := by
  have hj := (List.getElem?_eq_some_iff.1 hx)
  obtain ⟨h1, h2⟩ := hj
  rw [List.drop_eq_getElem_cons h1, List.reverse_cons, h2]
set_option maxRecDepth 10000 in
set_option maxHeartbeats 4000000 in
theorem rfill_in {w0 w : World} {F : List HP} {c : Nat} {tb : List Cls} {bud : Int} {s : Nat → CL} (ht : tbOk tb) (h : St w0 (refP c tb bud s :: F) w) {k : Nat} (hk : k < tb.length) (hok : (s k).ok) (a : Option Addr) (cap : Nat) (ys : List Int)
    (hr : ∀ (G : List HP) w', St w0 (G ++ F) w' → Reads w' 1 (.slice a ys.length cap) ys.length (intsC ys)) (hy : ys.length ≤ 300) :
    Calls Try.prog 55 #[.pointer (some ⟨c, 0, none⟩), .int .i64 k, .slice a ys.length cap] w fun e w' => e = .returned (.int .i64 ((s k).fillE ys)) ∧ St w0 (refP c tb bud (updC s k ((s k).fillF ys)) :: F) w' := by
  have H := Lib.hid (rwrong_in ht.1 h k)
  rw [if_pos (show inC tb.length (k : Int) by unfold inC; omega)] at H
  have hl := hok.2.2.2
  have HR := Lib.hid hr
  have HP0 := Lib.hid h
  obtain ⟨D, g⟩ := ref_open h
  obtain ⟨c0, c1, c2, c3, c4⟩ := ref_head g
  obtain ⟨z0, z1, z2⟩ := ref_at g hk
  have gn := g.newArr 3 1 0 [] rfl (by decide)
  have ga := g.alloc (.cells #[] 3)
  have GA : Hid (St w0 (refL c tb bud s D ++ (HP.arr 3 1 (.slice (some ⟨w.heap.size, 0, none⟩) 0 0) 0 [] :: F)) (w.alloc (.cells #[] 3))) := Lib.hid (gn.perm (by simp only [HP.big, HP.big_append]; ac_rfl))
  obtain ⟨y0, y1, y2, y3, y4⟩ := ref_head GA.out
  obtain ⟨x0, x1, x2⟩ := ref_at GA.out hk
  have R := Lib.hid (ref_list GA.out hk)
  have GN := Lib.hid gn
  have i0' : (0 : Int) ≤ (k : Int) := by omega
  have i1' : (k : Int) < (tb.length : Int) := by omega
  have q0 : IntKind.i64.wrap (256 - ((s k).objs.length : Int)) = 256 - ((s k).objs.length : Int) := by rw [IntWalk.i64_in _ (by omega)]
  obtain ⟨i0, hi, hz0, hz1, hz2⟩ := info_parts info3
  have HI := Lib.hid hi
  have Z0 := Lib.hid hz0
  have Z1 := Lib.hid hz1
  have Z2 := Lib.hid hz2
  clear h hok ht hr gn g ga hi hz0 hz1 hz2
  by_cases hf : 256 < (s k).objs.length + ys.length
  · have e1 : (s k).fillE ys = 6 := if_pos hf
    have e2 : (s k).fillF ys = s k := if_pos hf
    rw [e1, e2, updC_self]
    have d0 : decide (256 - ((s k).objs.length : Int) < (ys.length : Int)) = true := decide_eq_true (by omega)
    clear e1 e2
    go_enter Try.func55, Try.ntmps55
    go_wp2_with fail
    refine H.out.mono ?_
    rintro e w' ⟨rfl, rfl⟩
    go_wp2_with fail
    go_ret
    exact ⟨rfl, HP0.out⟩
  · have e1 : (s k).fillE ys = 0 := if_neg hf
    have e2 : (s k).fillF ys = ⟨(s k).objs ++ ys.reverse, (s k).lim, (s k).low⟩ := if_neg hf
    rw [e1, e2]
    have d0 : decide (256 - ((s k).objs.length : Int) < (ys.length : Int)) = false := decide_eq_false (by omega)
    have q1 : IntKind.i64.wrap ((ys.length : Int) - 1) = (ys.length : Int) - 1 := by rw [IntWalk.i64_in _ (by omega)]
    clear e1 e2
    go_enter Try.func55, Try.ntmps55
    go_wp2_with fail
    refine H.out.mono ?_
    rintro e w' ⟨rfl, rfl⟩
    go_wp2_with (at_builtin; refine wpList_append_st rfl _ _ 28 rfl 3 i0 _ 1 8 Try.underlying28 HI.out Z0.out Z1.out Z2.out rfl _ _ rfl rfl 0 [] GN.out (s k).objs.length (intsC (s k).objs) R.out (intsC_one _) (by unfold maxLen; omega) (by omega) ?_; intro v' w' hs' hv'; simp only [Nat.zero_add, List.nil_append] at hs'; obtain ⟨a3, cap3, rfl⟩ := (HP.arr_reads hs').form; have HS9 := Lib.hid hs'; clear hs' hv')
    clear c0 c1 c2 c3 c4 z0 z1 z2 y0 y1 y2 y3 y4 x0 x1 x2 R GN GA H HP0
    go_loopw [8, 9] (fun l i wr => ∃ (j : Nat) (O : List Int) (la : Option Addr) (lc : Nat), j ≤ ys.length ∧ i = .int .i64 ((j : Int) - 1) ∧ l = .slice la O.length lc ∧ Hid (O = (s k).objs ++ (ys.drop j).reverse) ∧ Hid (St w0 (intsP l O :: (refL c tb bud s D ++ F)) wr)) (fun _ i _ => (intOf i + 1).toNat)
    case atStart => exact ⟨ys.length, (s k).objs, a3, cap3, Nat.le_refl _, rfl, rfl, Lib.hid (by rw [List.drop_length]; simp), Lib.hid HS9.out⟩
    case round =>
      clear HS9
      obtain ⟨j, O, la, lc, hj, rfl, rfl, EO, HS⟩ := hrel
      have LO : O.length ≤ 600 := by rw [EO.out, List.length_append, List.length_reverse, List.length_drop]; omega
      cases j with
      | zero =>
        have d1 : decide ((0 : Int) ≤ ((0 : Nat) : Int) - 1) = false := by decide
        have e0 : ((0 : Nat) : Int) - 1 = -1 := rfl
        rw [e0]
        have g5 := HS.out.perm (L' := refL c tb bud s D ++ (intsP (.slice la O.length lc) O :: F)) (by simp only [HP.big, HP.big_append]; ac_rfl)
        obtain ⟨y0, y1, y2, y3, y4⟩ := ref_head g5
        obtain ⟨x0, x1, x2⟩ := ref_at g5 hk
        have f := (ref_focus hk g5).drop.perm (L' := intsP (.slice la O.length lc) O :: (refR c tb bud s D k ++ F)) (by simp only [HP.big, HP.big_append]; ac_rfl)
        obtain ⟨g6, fz⟩ := ref_backL hk f
        have e9 : O = (s k).objs ++ ys.reverse := by rw [EO.out]; rfl
        have E9 := Lib.hid e9
        have G6 := Lib.hid (ref_shut g6)
        clear g5 f g6 e9
        go_wp2_with fail
        go_ret
        exact ⟨rfl, by rw [← E9.out]; exact G6.out⟩
      | succ j =>
        have e0 : ((j + 1 : Nat) : Int) - 1 = (j : Int) := by omega
        rw [e0]
        have d1 : decide ((0 : Int) ≤ (j : Int)) = true := decide_eq_true (by omega)
        have q2 : IntKind.i64.wrap ((j : Int) - 1) = (j : Int) - 1 := by rw [IntWalk.i64_in _ (by omega)]
        obtain ⟨x, hx⟩ : ∃ x, ys[j]? = some x := ⟨ys[j]'(by omega), List.getElem?_eq_getElem (by omega)⟩
        have hjl : j < ys.length := by omega
        obtain ⟨by', oy, cpy, hv, _, hcl⟩ := Reads.lies (HR.out (intsP (.slice la O.length lc) O :: refL c tb bud s D) wr HS.out) (by omega)
        injection hv with e1 e2 e3
        subst e1
        clear e2 e3
        have zl := hcl j (.int .i64 x) (by unfold intsC; rw [List.getElem?_map, hx]; rfl)
        have EN : Hid (O ++ [x] = (s k).objs ++ (ys.drop j).reverse) := Lib.hid (by rw [EO.out, drop_rev hx, List.append_assoc])
        have g9 := HS.out.newArr 3 1 1 [.int .i64 x] rfl (by decide)
        have R9 := Lib.hid (HP.arr_reads g9)
        have G9 : Hid (St w0 (HP.arr 3 1 (.slice la O.length lc) O.length (intsC O) :: _) _) := Lib.hid g9.swap
        clear g9 HS hcl EO
        go_wp2_with (at_builtin; refine wpList_append_st rfl _ _ 28 rfl 3 i0 _ 1 8 Try.underlying28 HI.out Z0.out Z1.out Z2.out rfl _ _ rfl rfl O.length (intsC O) G9.out 1 [.int .i64 x] R9.out (by intro u hu; simp at hu; subst hu; rfl) (by unfold maxLen; omega) (by omega) ?_; intro v' w' hs' hv'; obtain ⟨a5, c5, rfl⟩ := (HP.arr_reads hs').form; have HS9 := Lib.hid hs'; clear hs' hv')
        go_roundw
        case rel =>
          refine ⟨j, O ++ [x], a5, c5, by omega, rfl, by rw [List.length_append]; rfl, EN, Lib.hid ?_⟩
          have h9 := HS9.out.swap.drop
          unfold intsP
          rw [List.length_append, intsC, List.map_append]
          exact h9
        case measure => simp [intOf]
end Go.Proofs.Ytaejojbdkgccpaa

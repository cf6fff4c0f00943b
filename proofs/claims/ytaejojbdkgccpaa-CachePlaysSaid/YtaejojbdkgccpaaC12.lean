/-
  Take, Want.
-/
import Derived.Test.YtaejojbdkgccpaaC11
namespace Go.Proofs.Ytaejojbdkgccpaa
open Go.RowKit Go.Maps Go.ChangeMaps

theorem take_out (w0 w : World) (F : List HP) (c : Nat) (tb : List Cls) (bud : Int) (s : Nat → CL) (hs : St w0 (cacheP c tb bud s :: F) w) (k : Int) (hk : ¬ inC tb.length k) :
    Calls Try.prog 18 #[.pointer (some ⟨c, 0, none⟩), .int .i64 k] w fun e w' => e = .returned (.tuple #[.int .i64 0, .int .i64 1]) ∧ w = w' := by
  have H := Lib.hid (find_out w0 w F c tb bud s hs k hk)
  clear hs hk
  go_enter Try.func18, Try.ntmps18
  go_wp2_with fail
  refine H.out.mono ?_
  rintro e w1 ⟨rfl, rfl⟩
  go_wp2_with fail
  go_ret2
  exact ⟨rfl, rfl⟩
theorem want_out (w0 w : World) (F : List HP) (c : Nat) (tb : List Cls) (bud : Int) (s : Nat → CL) (hs : St w0 (cacheP c tb bud s :: F) w) (k : Int) (hk : ¬ inC tb.length k) :
    Calls Try.prog 37 #[.pointer (some ⟨c, 0, none⟩), .int .i64 k] w fun e w' => e = .returned (.tuple #[.int .i64 0, .int .i64 1]) ∧ w = w' := by
  have H := Lib.hid (find_out w0 w F c tb bud s hs k hk)
  clear hs hk
  go_enter Try.func37, Try.ntmps37
  go_wp2_with fail
  refine H.out.mono ?_
  rintro e w1 ⟨rfl, rfl⟩
  go_wp2_with fail
  go_ret2
  exact ⟨rfl, rfl⟩

set_option maxHeartbeats 2000000 in
theorem take_in (w0 w : World) (F : List HP) (c : Nat) (tb : List Cls) (bud : Int) (s : Nat → CL) (ht : tbOk tb) (hs : St w0 (cacheP c tb bud s :: F) w) (k : Nat) (hk : k < tb.length) (hok : (s k).ok) :
    Calls Try.prog 18 #[.pointer (some ⟨c, 0, none⟩), .int .i64 k] w fun e w' => e = .returned (.tuple #[.int .i64 (s k).takeV, .int .i64 (s k).takeE]) ∧ St w0 (cacheP c tb bud (updC s k ((s k).takeF (Bt tb k))) :: F) w' := by
  have H := Lib.hid (find_in w0 w F c tb bud s ht.2.1 hs k hk)
  have hB := Bt_range ht k
  obtain ⟨x, hx⟩ : ∃ x, tb[k]? = some x := ⟨tb[k], List.getElem?_eq_getElem hk⟩
  have hb := Bt_of ht hx
  have HX := Lib.hid hx
  clear hs hx ht
  generalize Bt tb k = B at *
  generalize hxk : s k = y at *
  have HK := Lib.hid hxk
  clear hxk
  obtain ⟨k1, k2, k3, k4⟩ := hok
  cases y with
  | mk l lim low =>
  dsimp only at *
  by_cases hl : l.length = 0
  · obtain rfl : l = [] := List.eq_nil_of_length_eq_zero hl
    have i0 : (k : Int) < (tb.length : Int) := by omega
    have q1 : IntKind.i64.wrap ((lim : Int) + 1) = ((lim + 1 : Nat) : Int) := by rw [IntWalk.i64_in _ (by omega)]; rfl
    have q2 : IntKind.i64.wrap ((lim : Int) + (B : Int)) = ((lim + B : Nat) : Int) := by rw [IntWalk.i64_in _ (by omega)]; rfl
    have e1 : CL.takeV ⟨[], lim, low⟩ = 0 := rfl
    have e2 : CL.takeE ⟨[], lim, low⟩ = 4 := rfl
    rw [e1, e2]
    have T : ∃ m : Nat, CL.takeF B ⟨[], lim, low⟩ = ⟨[], m, low⟩ ∧ m = if lim < B then lim + 1 else min (lim + B) 128 := ⟨_, rfl, rfl⟩
    obtain ⟨m, hm, hmv⟩ := T
    rw [hm]
    have MV := Lib.hid hmv
    clear e1 e2 hl hm hmv
    go_enter Try.func18, Try.ntmps18
    go_wp2_with fail
    refine H.out.mono ?_
    rintro e w1 ⟨b, D, R, rfl, hf⟩
    have BK := Lib.hid hf.back
    have hst := hf.st
    rw [HK.out] at hst
    obtain ⟨a, cap, g⟩ := lst_open hst
    obtain ⟨c0, c1, c2⟩ := g.cells3
    obtain ⟨d0, _, _⟩ := St.cells3 (g.front 2)
    obtain ⟨tbb, toff, tcap, tv, _, _, t2⟩ := tb_cells (HP.arr_reads (g.front 3)) HX.out
    rw [tv] at d0
    rw [hb] at t2
    have f1 := g.frozen 1
    have S1 := Lib.hid g
    clear hf H g tv hst
    have G : Hid (∀ v, v = Value.int .i64 m → St w0 (cacheP c tb bud (updC s k ⟨[], m, low⟩) :: F) (w1.setCell ⟨b, 1, none⟩ v)) := Lib.hid fun v hv => by subst hv; exact BK.out _ _ _ (lst_shut (S1.out.set 1 _))
    clear S1 BK
    by_cases hlb : lim < B
    · have j1 : decide ((lim : Int) < (B : Int)) = true := decide_eq_true (by omega)
      rw [if_pos hlb] at MV
      go_wp2_with fail
      go_ret2
      exact ⟨rfl, G.out _ (by rw [MV.out]; rfl)⟩
    · have j1 : decide ((lim : Int) < (B : Int)) = false := decide_eq_false (by omega)
      rw [if_neg hlb] at MV
      go_wp2_with fail
      all_goals go_ret2
      all_goals exact ⟨rfl, G.out _ (by rw [MV.out]; congr 1; omega)⟩
  · have hn : 0 < l.length := by omega
    have i0 : (0 : Int) ≤ (l.length : Int) - 1 := by omega
    have i1 : (l.length : Int) - 1 < (l.length : Int) := by omega
    have q0 : IntKind.i64.wrap ((l.length : Int) - 1) = ((l.length - 1 : Nat) : Int) := by rw [IntWalk.i64_in _ (by omega)]; omega
    have i2 : ((l.length : Int) == 0) = false := by rw [beq_eq_false_iff_ne]; omega
    obtain ⟨z, hz⟩ : ∃ z, l[l.length - 1]? = some z := ⟨l[l.length - 1]'(by omega), List.getElem?_eq_getElem (by omega)⟩
    have e1 : CL.takeV ⟨l, lim, low⟩ = z := by unfold CL.takeV; rw [List.getLast?_eq_getElem?, hz]; rfl
    have e2 : CL.takeE ⟨l, lim, low⟩ = 0 := if_neg hl
    have e3 : CL.takeF B ⟨l, lim, low⟩ = ⟨l.take (l.length - 1), lim, min low (l.length - 1)⟩ := if_neg hl
    rw [e1, e2, e3]
    generalize hlw : min low (l.length - 1) = lown
    have LW := Lib.hid hlw
    clear e1 e2 e3 hlw
    have HZ := Lib.hid hz
    clear hz
    go_enter Try.func18, Try.ntmps18
    go_wp2_with fail
    refine H.out.mono ?_
    rintro e w1 ⟨b, D, R, rfl, hf⟩
    have BK := Lib.hid hf.back
    have hst := hf.st
    rw [HK.out] at hst
    obtain ⟨a, cap, g⟩ := lst_open hst
    obtain ⟨c0, c1, c2⟩ := g.cells3
    obtain ⟨b1, o1, cap1, hv, hc, hcl⟩ := Reads.lies (HP.arr_reads (g.front 1)) hn
    injection hv with h1 h2 h3
    subst h1 h3
    have z1 := hcl (l.length - 1) (.int .i64 z) (by unfold intsC; rw [List.getElem?_map, HZ.out]; rfl)
    clear hf H hst hcl
    dsimp only at hc
    have i3 : (l.length : Int) - 1 ≤ (cap : Int) := by omega
    have f0 := g.frozen 0
    have g2 : St w0 (HP.blk b #[.slice (some ⟨b1, o1, none⟩) (l.length - 1) cap, .int .i64 lim, .int .i64 low] 72 :: intsP (.slice (some ⟨b1, o1, none⟩) l.length cap) l :: headP c tb.length bud D :: HP.arr 43 3 (.slice D.ta tb.length D.tcap) tb.length (clsC tb) :: (R ++ F)) (w1.setCell ⟨b, 0, none⟩ (.slice (some ⟨b1, o1, none⟩) (l.length - 1) cap)) := g.set 0 _
    have g3 := g2.swap.mono (HP.arr_take (k := l.length - 1) (by omega) hc)
    rw [Nat.mul_one, intsC_take] at g3
    obtain ⟨d0, d1, d2⟩ := (g3.front 1).cells3
    have f2 := (g3.front 1).frozen 2
    have g4 := g3.swap
    have S3 := Lib.hid g4
    have G : Hid (∀ v, v = Value.int .i64 lown → St w0 (cacheP c tb bud (updC s k ⟨l.take (l.length - 1), lim, lown⟩) :: F) ((w1.setCell ⟨b, 0, none⟩ (.slice (some ⟨b1, o1, none⟩) (l.length - 1) cap)).setCell ⟨b, 2, none⟩ v)) := Lib.hid fun v hv => by
      subst hv
      refine BK.out _ _ _ (lst_shut (v := .slice (some ⟨b1, o1, none⟩) (l.length - 1) cap) ?_)
      have e : intsP (.slice (some ⟨b1, o1, none⟩) (l.length - 1) cap) (l.take (l.length - 1)) = HP.arr 3 1 (.slice (some ⟨b1, o1, none⟩) (l.length - 1) cap) (l.length - 1) (intsC (l.take (l.length - 1))) := by
        unfold intsP
        rw [List.length_take, Nat.min_eq_left (by omega)]
      rw [e]
      exact S3.out.set 2 _
    clear S3 g g2 g3 g4 BK h2
    go_wp2_with fail
    all_goals go_ret2
    all_goals exact ⟨rfl, G.out _ (by rw [← LW.out]; congr 1; omega)⟩

set_option maxRecDepth 10000 in
set_option maxHeartbeats 1000000 in
theorem want_in (w0 w : World) (F : List HP) (c : Nat) (tb : List Cls) (bud : Int) (s : Nat → CL) (ht : tbOk tb) (hs : St w0 (cacheP c tb bud s :: F) w) (k : Nat) (hk : k < tb.length) :
    Calls Try.prog 37 #[.pointer (some ⟨c, 0, none⟩), .int .i64 k] w fun e w' => e = .returned (.tuple #[.int .i64 ((s k).wantV (Bt tb k) : Nat), .int .i64 0]) ∧ St w0 (cacheP c tb bud s :: F) w' := by
  have H := Lib.hid (find_in w0 w F c tb bud s ht.2.1 hs k hk)
  obtain ⟨x, hx⟩ : ∃ x, tb[k]? = some x := ⟨tb[k], List.getElem?_eq_getElem hk⟩
  have hb := Bt_of ht hx
  have HX := Lib.hid hx
  clear hs hx ht
  generalize Bt tb k = B at *
  unfold CL.wantV
  generalize hxk : s k = y at *
  have HK := Lib.hid hxk
  clear hxk
  have i0 : (k : Int) < (tb.length : Int) := by omega
  generalize hm : min y.lim B = m
  have HM := Lib.hid hm
  clear hm
  go_enter Try.func37, Try.ntmps37
  go_wp2_with fail
  refine H.out.mono ?_
  rintro e w1 ⟨b, D, R, rfl, hf⟩
  have BK := Lib.hid (hf.back (s k) F w1 hf.st)
  rw [updC_self] at BK
  have hst := hf.st
  rw [HK.out] at hst
  obtain ⟨a, cap, g⟩ := lst_open hst
  obtain ⟨c0, c1, c2⟩ := g.cells3
  obtain ⟨d0, _, _⟩ := St.cells3 (g.front 2)
  obtain ⟨tbb, toff, tcap, tv, _, _, t2⟩ := tb_cells (HP.arr_reads (g.front 3)) HX.out
  rw [tv] at d0
  rw [hb] at t2
  clear hf H g tv hst
  go_wp2_with fail
  refine wp_region_tail_drew 13 (by kernel_rfl) (by kernel_rfl) ?_
  simp only [List.take_succ_cons, List.take_zero, List.drop_succ_cons, List.drop_zero]
  repeat still_step
  refine wpStill_nil ?_
  go_wp2_with fail
  all_goals go_ret2
  all_goals exact ⟨by rw [← HM.out]; congr 3; first | omega | (simp; omega), BK.out.drew⟩
end Go.Proofs.Ytaejojbdkgccpaa

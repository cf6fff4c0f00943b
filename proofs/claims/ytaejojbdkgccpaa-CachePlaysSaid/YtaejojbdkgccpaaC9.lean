/-
  oldest at any list; Clip, add.
-/
import Derived.Test.YtaejojbdkgccpaaC8
namespace Go.Proofs.Ytaejojbdkgccpaa
open Go.RowKit Go.Maps Go.ChangeMaps

set_option maxRecDepth 10000 in
set_option maxHeartbeats 1000000 in
theorem oldest_none (w0 w : World) (F : List HP) (b lim low : Nat) (hlow : low ≤ 256)
    (hs : St w0 (HP.blk b #[.slice none 0 0, .int .i64 lim, .int .i64 low] 72 :: F) w) :
    Calls Try.prog 46 #[.pointer (some ⟨b, 0, none⟩), .int .i64 0] w fun e w' => ∃ a' c', e = .returned (.slice a' 0 c') ∧
      St w0 (intsP (.slice a' 0 c') [] :: lstP b ⟨[], lim, 0⟩ :: F) w' := by
  obtain ⟨c0, c1, c2⟩ := hs.cells3
  have H := Lib.hid fun (w1 : World) (G : List HP) (h1 : St w0 G w1) => sclone_any w0 w1 G none 0 0 [] h1 (Reads.nil w1 1) (by simp) (by omega)
  have HS := Lib.hid hs
  clear hs
  go_enter Try.func46, Try.ntmps46
  go_wp2_with fail
  refine (H.out w _ HS.out).mono ?_
  rintro e w1 ⟨a1, p1, rfl, g1⟩
  clear c0 c1 c2
  obtain ⟨c0, c1, c2⟩ := (g1.front 1).cells3
  have G1 := Lib.hid g1
  clear g1
  go_wp2_with fail
  refine (H.out w1 _ G1.out).mono ?_
  rintro e w2 ⟨a2, p2, rfl, g2⟩
  have g3 : St w0 (HP.blk b #[.slice none 0 0, .int .i64 lim, .int .i64 low] 72 :: HP.arr 3 1 (.slice a2 0 p2) 0 [] :: HP.arr 3 1 (.slice a1 0 p1) 0 [] :: F) w2 := g2.pick 3 [2, 0, 1]
  clear c0 c1 c2 g2
  obtain ⟨d0, d1, d2⟩ := St.cells3 g3
  have f0 := St.frozen g3 0
  have g4 : St w0 (HP.blk b #[.slice a2 0 p2, .int .i64 lim, .int .i64 low] 72 :: HP.arr 3 1 (.slice a2 0 p2) 0 [] :: HP.arr 3 1 (.slice a1 0 p1) 0 [] :: F) (w2.setCell ⟨b, 0, none⟩ (.slice a2 0 p2)) := St.set g3 0 _
  obtain ⟨e0, e1, e2⟩ := g4.cells3
  have f2 := g4.frozen 2
  have G5 : Hid (∀ m : Value, St w0 (HP.blk b #[.slice a2 0 p2, .int .i64 lim, m] 72 :: HP.arr 3 1 (.slice a2 0 p2) 0 [] :: HP.arr 3 1 (.slice a1 0 p1) 0 [] :: F) ((w2.setCell ⟨b, 0, none⟩ (.slice a2 0 p2)).drew.setCell ⟨b, 2, none⟩ m)) := Lib.hid fun m : Value => g4.drew.set 2 m
  have G6 : Hid (∀ m : Value, St w0 (HP.blk b #[.slice a2 0 p2, .int .i64 lim, m] 72 :: HP.arr 3 1 (.slice a2 0 p2) 0 [] :: HP.arr 3 1 (.slice a1 0 p1) 0 [] :: F) (((w2.setCell ⟨b, 0, none⟩ (.slice a2 0 p2)).setCell ⟨b, 2, none⟩ m).drew)) := Lib.hid fun m : Value => (g4.set 2 m).drew
  clear g3 g4
  go_wp2_with fail
  refine wp_region_tail_drew 13 (by kernel_rfl) (by kernel_rfl) ?_
  simp only [List.take_succ_cons, List.take_zero, List.drop_succ_cons, List.drop_zero]
  repeat still_step
  refine wpStill_nil ?_
  go_wp2_with fail
  all_goals go_ret
  all_goals refine ⟨a1, p1, rfl, ?_⟩
  all_goals first | exact oldest_end (l := []) (low := 0) (n := 0) (Nat.zero_le _) (G5.out _) rfl rfl (by first | rfl | (congr 1; omega)) | exact oldest_end (l := []) (low := 0) (n := 0) (Nat.zero_le _) (G6.out _) rfl rfl (by first | rfl | (congr 1; omega))
theorem oldest_any (w0 w : World) (F : List HP) (b : Nat) (x : CL) (n : Nat) (hn : n ≤ x.objs.length) (hl : x.objs.length ≤ 256) (hlow : x.low ≤ 256) (hs : St w0 (lstP b x :: F) w) :
    Calls Try.prog 46 #[.pointer (some ⟨b, 0, none⟩), .int .i64 n] w fun e w' => ∃ a' c', e = .returned (.slice a' n c') ∧
      St w0 (intsP (.slice a' n c') (x.objs.take n) :: lstP b (x.oldest n) :: F) w' := by
  obtain ⟨a, cap, h⟩ := lst_open hs
  cases x with
  | mk l lim low =>
  dsimp only at *
  rcases HP.arr_form (h.front 1) with ⟨hv, h0⟩ | ⟨b1, o1, cap1, hv, hc⟩
  · injection hv with h1 h2 h3
    subst h1 h3
    have e1 : l = [] := List.eq_nil_of_length_eq_zero h2
    subst e1
    have e2 : n = 0 := by simpa using hn
    subst e2
    have h' : St w0 (HP.blk b #[.slice none 0 0, .int .i64 lim, .int .i64 low] 72 :: F) w := (h.front 1).drop
    refine (oldest_none w0 w F b lim low hlow h').mono ?_
    rintro e w' ⟨a', c', rfl, g⟩
    refine ⟨a', c', rfl, ?_⟩
    have e3 : CL.oldest 0 ⟨[], lim, low⟩ = ⟨[], lim, 0⟩ := by unfold CL.oldest; simp
    rw [e3]
    exact g
  · injection hv with h1 h2 h3
    subst h1 h3
    exact oldest_some w0 w F b b1 o1 cap lim low _ l n hn hc hl hlow rfl h

theorem clip_some (w : World) (a : Addr) (n cap : Nat) (hn : n ≤ cap) : Calls Try.prog 65 #[.slice (some a) n cap] w fun e w' => e = .returned (.slice (some a) n n) ∧ w = w' := by
  have i0 : (0 : Int) ≤ (n : Int) := by omega
  have i1 : (n : Int) ≤ (cap : Int) := by omega
  go_enter Try.func65, Try.ntmps65
  go_wp2_with fail
  go_ret
  exact ⟨rfl, rfl⟩
theorem clip_none (w : World) : Calls Try.prog 65 #[.slice none 0 0] w fun e w' => e = .returned (.slice none 0 0) ∧ w = w' := by
  go_enter Try.func65, Try.ntmps65
  go_wp2_with fail
  go_ret
  exact ⟨rfl, rfl⟩
def CL.addF (x : CL) (ys : List Int) : CL := if 256 < x.objs.length + ys.length then x else ⟨x.objs ++ ys, x.lim, x.low⟩
theorem CL.fillF_add (x : CL) (ys : List Int) : x.fillF ys = x.addF ys.reverse := by unfold CL.fillF CL.addF; rw [List.length_reverse]
/-- clip at any list, the list of ours -/
theorem clip_st (w0 w : World) (F : List HP) (a : Option Addr) (l : List Int) (cap : Nat) (hs : St w0 (intsP (.slice a l.length cap) l :: F) w) :
    Calls Try.prog 65 #[.slice a l.length cap] w fun e w' => ∃ cap', e = .returned (.slice a l.length cap') ∧ w = w' ∧ St w0 (intsP (.slice a l.length cap') l :: F) w := by
  rcases HP.arr_form hs with ⟨hv, h0⟩ | ⟨b1, o1, cap1, hv, hc⟩
  · injection hv with h1 h2 h3
    subst h1 h3
    rw [h2] at hs ⊢
    refine (clip_none w).mono ?_
    rintro e w' ⟨rfl, rfl⟩
    exact ⟨0, rfl, rfl, hs⟩
  · injection hv with h1 h2 h3
    subst h1 h3
    refine (clip_some w _ l.length cap hc).mono ?_
    rintro e w' ⟨rfl, rfl⟩
    refine ⟨l.length, rfl, rfl, hs.mono fun m hm => ?_⟩
    have := HP.arr_cut (Nat.le_refl l.length) (Nat.le_refl l.length) hc m hm
    rwa [Nat.mul_one, List.take_of_length_le (by rw [intsC_len]; exact Nat.le_refl _)] at this
set_option maxRecDepth 10000 in
theorem add_any (w0 w : World) (F : List HP) (b : Nat) (x : CL) (a2 : Option Addr) (cap2 : Nat) (ys : List Int) (hs : St w0 (lstP b x :: F) w) (hr : Reads w 1 (.slice a2 ys.length cap2) ys.length (intsC ys)) (hx : x.objs.length ≤ 256) (hy : ys.length ≤ 300) :
    Calls Try.prog 43 #[.pointer (some ⟨b, 0, none⟩), .slice a2 ys.length cap2] w fun e w' => e = .returned (.int .i64 (if 256 < x.objs.length + ys.length then 6 else 0)) ∧ St w0 (lstP b (x.addF ys) :: F) w' := by
  obtain ⟨a, cap, h⟩ := lst_open hs
  obtain ⟨c0, c1, c2⟩ := h.cells3
  have hw : IntKind.i64.wrap ((x.objs.length : Int) + (ys.length : Int)) = (x.objs.length : Int) + (ys.length : Int) := IntWalk.i64_in _ (by omega)
  obtain ⟨i0, hi, hz0, hz1, hz2⟩ := info_parts info3
  have HI := Lib.hid hi
  have Z0 := Lib.hid hz0
  have Z1 := Lib.hid hz1
  have Z2 := Lib.hid hz2
  clear hi hz0 hz1 hz2
  unfold CL.addF
  cases x with
  | mk l lim low =>
  dsimp only at *
  by_cases hfull : 256 < l.length + ys.length
  · rw [if_pos hfull, if_pos hfull]
    have d0 : decide ((256 : Int) < (l.length : Int) + (ys.length : Int)) = true := decide_eq_true (by omega)
    have HS := Lib.hid hs
    clear hs hr h hfull
    go_enter Try.func43, Try.ntmps43
    go_wp2_with fail
    go_ret
    exact ⟨rfl, HS.out⟩
  · rw [if_neg hfull, if_neg hfull]
    have d0 : decide ((256 : Int) < (l.length : Int) + (ys.length : Int)) = false := decide_eq_false (by omega)
    have C := Lib.hid (clip_st w0 w (HP.blk b #[.slice a l.length cap, .int .i64 lim, .int .i64 low] 72 :: F) a l cap (h.front 1))
    have HR := Lib.hid hr
    clear hs hr h hfull
    go_enter Try.func43, Try.ntmps43
    go_wp2_with fail
    refine C.out.mono ?_
    rintro e w' ⟨cap', rfl, rfl, g⟩
    have G := Lib.hid g
    clear g
    go_wp2_with (at_builtin; refine wpList_append_st rfl _ _ 28 rfl 3 i0 _ 1 8 Try.underlying28 HI.out Z0.out Z1.out Z2.out rfl _ _ rfl rfl l.length (intsC l) G.out ys.length (intsC ys) HR.out (intsC_one ys) (by unfold maxLen; omega) (by omega) ?_; intro v' w' hs' hv'; obtain ⟨a3, cap3, rfl⟩ := (HP.arr_reads hs').form; have f0 := (hs'.front 1).frozen 0; obtain ⟨e0, e1, e2⟩ := (hs'.front 1).cells3; have HS := Lib.hid hs'; clear hs'; clear hv')
    go_ret
    have g5 := St.set (HS.out.front 1) 0 (.slice a3 (l.length + ys.length) cap3)
    refine ⟨rfl, lst_shut (v := .slice a3 (l.length + ys.length) cap3) ?_⟩
    unfold intsP
    rw [List.length_append, intsC, List.map_append]
    exact g5
end Go.Proofs.Ytaejojbdkgccpaa

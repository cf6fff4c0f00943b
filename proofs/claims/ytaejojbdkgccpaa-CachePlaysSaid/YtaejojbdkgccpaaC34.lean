/-
  The reference's Want.
-/
import Derived.Test.YtaejojbdkgccpaaC33
namespace Go.Proofs.Ytaejojbdkgccpaa
open Go.RowKit Go.Maps Go.ChangeMaps

theorem rwant_out {w0 w : World} {F : List HP} {c : Nat} {tb : List Cls} {bud : Int} {s : Nat → CL} (h1 : 1 ≤ tb.length) (h : St w0 (refP c tb bud s :: F) w) {k : Int} (hk : ¬ inC tb.length k) :
    Calls Try.prog 54 #[.pointer (some ⟨c, 0, none⟩), .int .i64 k] w fun e w' => e = .returned (.tuple #[.int .i64 0, .int .i64 1]) ∧ w = w' := by
  have H := Lib.hid (rwrong_in h1 h k)
  rw [if_neg hk] at H
  clear h
  go_enter Try.func54, Try.ntmps54
  go_wp2_with fail
  refine H.out.mono ?_
  rintro e w' ⟨rfl, rfl⟩
  go_wp2_with fail
  go_ret2
  exact ⟨rfl, rfl⟩
theorem rtake_out {w0 w : World} {F : List HP} {c : Nat} {tb : List Cls} {bud : Int} {s : Nat → CL} (h1 : 1 ≤ tb.length) (h : St w0 (refP c tb bud s :: F) w) {k : Int} (hk : ¬ inC tb.length k) :
    Calls Try.prog 53 #[.pointer (some ⟨c, 0, none⟩), .int .i64 k] w fun e w' => e = .returned (.tuple #[.int .i64 0, .int .i64 1]) ∧ w = w' := by
  have H := Lib.hid (rwrong_in h1 h k)
  rw [if_neg hk] at H
  clear h
  go_enter Try.func53, Try.ntmps53
  go_wp2_with fail
  refine H.out.mono ?_
  rintro e w' ⟨rfl, rfl⟩
  go_wp2_with fail
  go_ret2
  exact ⟨rfl, rfl⟩
theorem rfill_out {w0 w : World} {F : List HP} {c : Nat} {tb : List Cls} {bud : Int} {s : Nat → CL} (h1 : 1 ≤ tb.length) (h : St w0 (refP c tb bud s :: F) w) {k : Int} (hk : ¬ inC tb.length k) (v : Value) :
    Calls Try.prog 55 #[.pointer (some ⟨c, 0, none⟩), .int .i64 k, v] w fun e w' => e = .returned (.int .i64 1) ∧ w = w' := by
  have H := Lib.hid (rwrong_in h1 h k)
  rw [if_neg hk] at H
  clear h
  go_enter Try.func55, Try.ntmps55
  go_wp2_with fail
  refine H.out.mono ?_
  rintro e w' ⟨rfl, rfl⟩
  go_wp2_with fail
  go_ret
  exact ⟨rfl, rfl⟩
theorem rput_out {w0 w : World} {F : List HP} {c : Nat} {tb : List Cls} {bud : Int} {s : Nat → CL} (h1 : 1 ≤ tb.length) (h : St w0 (refP c tb bud s :: F) w) {k : Int} (hk : ¬ inC tb.length k) (o : Int) :
    Calls Try.prog 56 #[.pointer (some ⟨c, 0, none⟩), .int .i64 k, .int .i64 o] w fun e w' => e = .returned (.tuple #[.slice none 0 0, .int .i64 1]) ∧ w = w' := by
  have H := Lib.hid (rwrong_in h1 h k)
  rw [if_neg hk] at H
  clear h
  go_enter Try.func56, Try.ntmps56
  go_wp2_with fail
  refine H.out.mono ?_
  rintro e w' ⟨rfl, rfl⟩
  go_wp2_with fail
  go_ret2
  exact ⟨rfl, rfl⟩
set_option maxRecDepth 10000 in
theorem rwant_in {w0 w : World} {F : List HP} {c : Nat} {tb : List Cls} {bud : Int} {s : Nat → CL} (ht : tbOk tb) (h : St w0 (refP c tb bud s :: F) w) {k : Nat} (hk : k < tb.length) :
    Calls Try.prog 54 #[.pointer (some ⟨c, 0, none⟩), .int .i64 k] w fun e w' => e = .returned (.tuple #[.int .i64 ((s k).wantV (Bt tb k) : Nat), .int .i64 0]) ∧ St w0 (refP c tb bud s :: F) w' := by
  have H := Lib.hid (rwrong_in ht.1 h k)
  rw [if_pos (show inC tb.length (k : Int) by unfold inC; omega)] at H
  obtain ⟨x, hx⟩ : ∃ x, tb[k]? = some x := ⟨tb[k], List.getElem?_eq_getElem hk⟩
  have hb := Bt_of ht hx
  obtain ⟨D, g⟩ := ref_open h
  obtain ⟨bt, ot, hall⟩ := ref_all g hx
  obtain ⟨z0, z1, z2, z3, z4, z5, z6, z7, z8, z9⟩ := hall _ _ g
  rw [hb] at z9
  have HS := Lib.hid h
  have i0' : (0 : Int) ≤ (k : Int) := by omega
  have i1' : (k : Int) < (tb.length : Int) := by omega
  generalize Bt tb k = B at *
  unfold CL.wantV
  generalize hm : min (s k).lim B = m
  have HM := Lib.hid hm
  generalize (s k).lim = lim at *
  clear h hall hb hx g hm ht
  go_enter Try.func54, Try.ntmps54
  go_wp2_with fail
  refine H.out.mono ?_
  rintro e w' ⟨rfl, rfl⟩
  go_wp2_with fail
  refine wp_region_tail_drew 16 (by kernel_rfl) (by kernel_rfl) ?_
  simp only [List.take_succ_cons, List.take_zero, List.drop_succ_cons, List.drop_zero]
  repeat still_step
  refine wpStill_nil ?_
  go_wp2_with fail
  all_goals go_ret2
  all_goals exact ⟨by rw [← HM.out]; congr 3; first | omega | (simp; omega), HS.out.drew⟩
end Go.Proofs.Ytaejojbdkgccpaa

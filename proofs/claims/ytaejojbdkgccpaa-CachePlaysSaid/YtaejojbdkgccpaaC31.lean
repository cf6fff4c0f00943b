/-
  The reference's Len, Limit, Low, Objects, Want. (Printed by mkC31.py.)
-/
import Derived.Test.YtaejojbdkgccpaaC30
namespace Go.Proofs.Ytaejojbdkgccpaa
open Go.RowKit Go.Maps Go.ChangeMaps

theorem rlen_out {w0 w : World} {F : List HP} {c : Nat} {tb : List Cls} {bud : Int} {s : Nat → CL} (h1 : 1 ≤ tb.length) (h : St w0 (refP c tb bud s :: F) w) {k : Int} (hk : ¬ inC tb.length k) :
    Calls Try.prog 59 #[.pointer (some ⟨c, 0, none⟩), .int .i64 k] w fun e w' => e = .returned (.int .i64 0) ∧ w = w' := by
  have HA := Lib.hid (rhas_in h1 h k)
  rw [decide_eq_false hk] at HA
  clear h
  go_enter Try.func59, Try.ntmps59
  go_wp2_with fail
  refine HA.out.mono ?_
  rintro e w' ⟨rfl, rfl⟩
  go_wp2_with fail
  go_ret
  exact ⟨rfl, rfl⟩
theorem rlen_in {w0 w : World} {F : List HP} {c : Nat} {tb : List Cls} {bud : Int} {s : Nat → CL} (h1 : 1 ≤ tb.length) (h : St w0 (refP c tb bud s :: F) w) {k : Nat} (hk : k < tb.length) :
    Calls Try.prog 59 #[.pointer (some ⟨c, 0, none⟩), .int .i64 k] w fun e w' => e = .returned (.int .i64 (s k).objs.length) ∧ w = w' := by
  have HA := Lib.hid (rhas_in h1 h k)
  rw [decide_eq_true (show inC tb.length (k : Int) by unfold inC; omega)] at HA
  obtain ⟨D, g⟩ := ref_open h
  obtain ⟨c0, c1, c2, c3, c4⟩ := ref_head g
  obtain ⟨z0, z1, z2⟩ := ref_at g hk
  have i0' : (0 : Int) ≤ (k : Int) := by omega
  have i1' : (k : Int) < (tb.length : Int) := by omega
  clear h g
  go_enter Try.func59, Try.ntmps59
  go_wp2_with fail
  refine HA.out.mono ?_
  rintro e w' ⟨rfl, rfl⟩
  go_wp2_with fail
  go_ret
  exact ⟨rfl, rfl⟩
theorem rlimit_out {w0 w : World} {F : List HP} {c : Nat} {tb : List Cls} {bud : Int} {s : Nat → CL} (h1 : 1 ≤ tb.length) (h : St w0 (refP c tb bud s :: F) w) {k : Int} (hk : ¬ inC tb.length k) :
    Calls Try.prog 60 #[.pointer (some ⟨c, 0, none⟩), .int .i64 k] w fun e w' => e = .returned (.int .i64 0) ∧ w = w' := by
  have HA := Lib.hid (rhas_in h1 h k)
  rw [decide_eq_false hk] at HA
  clear h
  go_enter Try.func60, Try.ntmps60
  go_wp2_with fail
  refine HA.out.mono ?_
  rintro e w' ⟨rfl, rfl⟩
  go_wp2_with fail
  go_ret
  exact ⟨rfl, rfl⟩
theorem rlimit_in {w0 w : World} {F : List HP} {c : Nat} {tb : List Cls} {bud : Int} {s : Nat → CL} (h1 : 1 ≤ tb.length) (h : St w0 (refP c tb bud s :: F) w) {k : Nat} (hk : k < tb.length) :
    Calls Try.prog 60 #[.pointer (some ⟨c, 0, none⟩), .int .i64 k] w fun e w' => e = .returned (.int .i64 (s k).lim) ∧ w = w' := by
  have HA := Lib.hid (rhas_in h1 h k)
  rw [decide_eq_true (show inC tb.length (k : Int) by unfold inC; omega)] at HA
  obtain ⟨D, g⟩ := ref_open h
  obtain ⟨c0, c1, c2, c3, c4⟩ := ref_head g
  obtain ⟨z0, z1, z2⟩ := ref_at g hk
  have i0' : (0 : Int) ≤ (k : Int) := by omega
  have i1' : (k : Int) < (tb.length : Int) := by omega
  clear h g
  go_enter Try.func60, Try.ntmps60
  go_wp2_with fail
  refine HA.out.mono ?_
  rintro e w' ⟨rfl, rfl⟩
  go_wp2_with fail
  go_ret
  exact ⟨rfl, rfl⟩
theorem rlow_out {w0 w : World} {F : List HP} {c : Nat} {tb : List Cls} {bud : Int} {s : Nat → CL} (h1 : 1 ≤ tb.length) (h : St w0 (refP c tb bud s :: F) w) {k : Int} (hk : ¬ inC tb.length k) :
    Calls Try.prog 61 #[.pointer (some ⟨c, 0, none⟩), .int .i64 k] w fun e w' => e = .returned (.int .i64 0) ∧ w = w' := by
  have HA := Lib.hid (rhas_in h1 h k)
  rw [decide_eq_false hk] at HA
  clear h
  go_enter Try.func61, Try.ntmps61
  go_wp2_with fail
  refine HA.out.mono ?_
  rintro e w' ⟨rfl, rfl⟩
  go_wp2_with fail
  go_ret
  exact ⟨rfl, rfl⟩
theorem rlow_in {w0 w : World} {F : List HP} {c : Nat} {tb : List Cls} {bud : Int} {s : Nat → CL} (h1 : 1 ≤ tb.length) (h : St w0 (refP c tb bud s :: F) w) {k : Nat} (hk : k < tb.length) :
    Calls Try.prog 61 #[.pointer (some ⟨c, 0, none⟩), .int .i64 k] w fun e w' => e = .returned (.int .i64 (s k).low) ∧ w = w' := by
  have HA := Lib.hid (rhas_in h1 h k)
  rw [decide_eq_true (show inC tb.length (k : Int) by unfold inC; omega)] at HA
  obtain ⟨D, g⟩ := ref_open h
  obtain ⟨c0, c1, c2, c3, c4⟩ := ref_head g
  obtain ⟨z0, z1, z2⟩ := ref_at g hk
  have i0' : (0 : Int) ≤ (k : Int) := by omega
  have i1' : (k : Int) < (tb.length : Int) := by omega
  clear h g
  go_enter Try.func61, Try.ntmps61
  go_wp2_with fail
  refine HA.out.mono ?_
  rintro e w' ⟨rfl, rfl⟩
  go_wp2_with fail
  go_ret
  exact ⟨rfl, rfl⟩
theorem robjects_out {w0 w : World} {F : List HP} {c : Nat} {tb : List Cls} {bud : Int} {s : Nat → CL} (h1 : 1 ≤ tb.length) (h : St w0 (refP c tb bud s :: F) w) {k : Int} (hk : ¬ inC tb.length k) :
    Calls Try.prog 62 #[.pointer (some ⟨c, 0, none⟩), .int .i64 k] w fun e w' => e = .returned (.slice none 0 0) ∧ w = w' := by
  have HA := Lib.hid (rhas_in h1 h k)
  rw [decide_eq_false hk] at HA
  clear h
  go_enter Try.func62, Try.ntmps62
  go_wp2_with fail
  refine HA.out.mono ?_
  rintro e w' ⟨rfl, rfl⟩
  go_wp2_with fail
  go_ret
  exact ⟨rfl, rfl⟩
theorem ref_list {w0 w : World} {F : List HP} {c : Nat} {tb : List Cls} {bud : Int} {s : Nat → CL} {D : RD} (h : St w0 (refL c tb bud s D ++ F) w) {k : Nat} (hk : k < tb.length) :
    Reads w 1 (.slice (D.va k) (s k).objs.length (D.vc k)) (s k).objs.length (intsC (s k).objs) := by
  have g : St w0 ((stars tb.length fun k => intsP (D.v s k) (s k).objs) :: _) w := h.front 5 (by simp [refL])
  rw [stars_focus k _ hk] at g
  exact HP.arr_reads (St.two.1 g)
set_option maxRecDepth 10000 in
theorem robjects_in {w0 w : World} {F : List HP} {c : Nat} {tb : List Cls} {bud : Int} {s : Nat → CL} (h1 : 1 ≤ tb.length) (h : St w0 (refP c tb bud s :: F) w) {k : Nat} (hk : k < tb.length) (hok : (s k).ok) :
    Calls Try.prog 62 #[.pointer (some ⟨c, 0, none⟩), .int .i64 k] w fun e w' => ∃ a' c', e = .returned (.slice a' (s k).objs.length c') ∧ St w0 (intsP (.slice a' (s k).objs.length c') (s k).objs :: refP c tb bud s :: F) w' := by
  have HA := Lib.hid (rhas_in h1 h k)
  rw [decide_eq_true (show inC tb.length (k : Int) by unfold inC; omega)] at HA
  have hl := hok.2.2.2
  obtain ⟨i0, hi, hz0, hz1, hz2⟩ := info_parts info3
  have HI := Lib.hid hi
  have Z0 := Lib.hid hz0
  have Z1 := Lib.hid hz1
  have Z2 := Lib.hid hz2
  clear hi hz0 hz1 hz2 hok
  have gn := h.newArr 3 1 0 [] rfl (by decide)
  obtain ⟨D, g⟩ := ref_open gn.swap
  obtain ⟨c0, c1, c2, c3, c4⟩ := ref_head g
  obtain ⟨z0, z1, z2⟩ := ref_at g hk
  have R := Lib.hid (ref_list g hk)
  have i0' : (0 : Int) ≤ (k : Int) := by omega
  have i1' : (k : Int) < (tb.length : Int) := by omega
  have GN := Lib.hid gn
  clear h g gn
  go_enter Try.func62, Try.ntmps62
  go_wp2_with fail
  refine HA.out.mono ?_
  rintro e w' ⟨rfl, rfl⟩
  go_wp2_with (at_builtin; refine wpList_append_st rfl _ _ 28 rfl 3 i0 _ 1 8 Try.underlying28 HI.out Z0.out Z1.out Z2.out rfl _ _ rfl rfl 0 [] GN.out (s k).objs.length (intsC (s k).objs) R.out (intsC_one _) (by unfold maxLen; omega) (by omega) ?_; intro v' w' hs' hv'; simp only [Nat.zero_add, List.nil_append] at hs'; obtain ⟨a3, c3, rfl⟩ := (HP.arr_reads hs').form; have HS9 := Lib.hid hs'; clear hs' hv')
  go_ret
  exact ⟨a3, c3, rfl, HS9.out⟩
end Go.Proofs.Ytaejojbdkgccpaa

/-
  The reference's Bytes, Over, Want. (Printed by mkC32.py.)
-/
import Derived.Test.YtaejojbdkgccpaaC31
namespace Go.Proofs.Ytaejojbdkgccpaa
open Go.RowKit Go.Maps Go.ChangeMaps

/-- all that a function reads of a class, in every world in which the parts lie so -/
theorem ref_all {w0 w : World} {F : List HP} {c : Nat} {tb : List Cls} {bud : Int} {s : Nat → CL} {D : RD} (h : St w0 (refL c tb bud s D ++ F) w) {k : Nat} {x : Cls} (hx : tb[k]? = some x) :
    ∃ bt ot, ∀ w9 (F9 : List HP), St w0 (refL c tb bud s D ++ F9) w9 → w9.cell? ⟨c, 0, none⟩ = some (.slice (some ⟨bt, ot, none⟩) tb.length D.tc) ∧ w9.cell? ⟨c, 1, none⟩ = some (.int .i64 bud) ∧ w9.cell? ⟨c, 2, none⟩ = some (.slice (some ⟨D.lb, D.lo, none⟩) tb.length D.lc) ∧
      w9.cell? ⟨c, 3, none⟩ = some (.slice (some ⟨D.mb, D.mo, none⟩) tb.length D.mc) ∧ w9.cell? ⟨c, 4, none⟩ = some (.slice (some ⟨D.wb, D.wo, none⟩) tb.length D.wc) ∧
      w9.cell? ⟨D.lb, D.lo + k, none⟩ = some (.slice (D.va k) (s k).objs.length (D.vc k)) ∧ w9.cell? ⟨D.mb, D.mo + k, none⟩ = some (.int .i64 (s k).lim) ∧ w9.cell? ⟨D.wb, D.wo + k, none⟩ = some (.int .i64 (s k).low) ∧
      w9.cell? ⟨bt, ot + k * 3, none⟩ = some (.int .i64 x.size) ∧ w9.cell? ⟨bt, ot + k * 3 + 2, none⟩ = some (.int .i64 x.batch) := by
  have hk := (List.getElem?_eq_some_iff.1 hx).1
  obtain ⟨bt, ot, cap, hv, _⟩ := tb_cells (HP.arr_reads (h.front 1 (by simp [refL]))) hx
  injection hv with e1 e2 e3
  refine ⟨bt, ot, fun w9 F9 g => ?_⟩
  obtain ⟨c0, c1, c2, c3, c4⟩ := ref_head g
  obtain ⟨z0, z1, z2⟩ := ref_at g hk
  obtain ⟨b', o', cap', hv', y0, _, y2⟩ := tb_cells (HP.arr_reads (g.front 1 (by simp [refL]))) hx
  injection hv' with e4 e5 e6
  rw [e1] at c0 e4
  cases e4
  exact ⟨c0, c1, c2, c3, c4, z0, z1, z2, y0, y2⟩
theorem bytesN_upto {tb : List Cls} {s : Nat → CL} (ht : tbOk tb) (hok : ∀ k, (s k).ok) : ∀ n, 0 ≤ bytesN tb s n ∧ bytesN tb s n ≤ 131072 * n
  | 0 => ⟨Int.le_refl _, Int.le_refl _⟩
  | n + 1 => by
    have ih := bytesN_upto ht hok n
    obtain ⟨a1, a2⟩ := sizeT_range ht n
    have hl := (hok n).2.2.2
    have hm : sizeT tb n * ((s n).objs.length : Int) ≤ 512 * 256 := by
      have h1 : sizeT tb n * ((s n).objs.length : Int) ≤ 512 * ((s n).objs.length : Int) := Int.mul_le_mul_of_nonneg_right a2 (by omega)
      omega
    have h0 : 0 ≤ sizeT tb n * ((s n).objs.length : Int) := Int.mul_nonneg a1 (by omega)
    have e : bytesN tb s (n + 1) = bytesN tb s n + sizeT tb n * ((s n).objs.length : Int) := rfl
    rw [e]
    omega
set_option maxRecDepth 10000 in
theorem rbytes_in {w0 w : World} {F : List HP} {c : Nat} {tb : List Cls} {bud : Int} {s : Nat → CL} (ht : tbOk tb) (hok : ∀ k, (s k).ok) (h : St w0 (refP c tb bud s :: F) w) :
    Calls Try.prog 63 #[.pointer (some ⟨c, 0, none⟩)] w fun e w' => e = .returned (.int .i64 (bytesN tb s tb.length)) ∧ St w0 (refP c tb bud s :: F) w' := by
  have M := Lib.hid (rmade_in ht.1 h)
  have hN := ht.2.1
  obtain ⟨D, g⟩ := ref_open h
  have H1 := Lib.hid g
  have HT := Lib.hid ht
  have HOK := Lib.hid hok
  clear h g ht hok
  go_enter Try.func63, Try.ntmps63
  go_wp2_with fail
  refine M.out.mono ?_
  rintro e w' ⟨rfl, rfl⟩
  go_wp2_with fail
  clear M
  go_loopw [3, 4] (fun n i wr => ∃ k : Nat, k ≤ tb.length ∧ i = .int .i64 k ∧ n = .int .i64 (bytesN tb s k) ∧ Hid (St w0 (refL c tb bud s D ++ F) wr)) (fun _ i _ => tb.length - (intOf i).toNat)
  case atStart => exact ⟨0, Nat.zero_le _, rfl, rfl, H1⟩
  case round =>
    clear H1
    obtain ⟨k, hk, rfl, rfl, HS⟩ := hrel
    by_cases hlt : k < tb.length
    · obtain ⟨x, hx⟩ : ∃ x, tb[k]? = some x := ⟨tb[k], List.getElem?_eq_getElem hlt⟩
      obtain ⟨bt, ot, hall⟩ := ref_all HS.out hx
      have CA := Lib.hid fun w9 => hall w9 F
      obtain ⟨c0, _⟩ := CA.out _ HS.out
      have b1 := bytesN_upto HT.out HOK.out k
      have b2 := bytesN_upto HT.out HOK.out (k + 1)
      have ex : sizeT tb k = x.size := by unfold sizeT; rw [hx]; rfl
      have e : bytesN tb s (k + 1) = bytesN tb s k + sizeT tb k * ((s k).objs.length : Int) := rfl
      rw [ex, Int.mul_comm] at e
      have q0 : IntKind.i64.wrap (((s k).objs.length : Int) * x.size) = ((s k).objs.length : Int) * x.size := by rw [IntWalk.i64_in _ (by omega)]
      have q1 : IntKind.i64.wrap (bytesN tb s k + ((s k).objs.length : Int) * x.size) = bytesN tb s (k + 1) := by rw [← e, IntWalk.i64_in _ (by omega)]
      have i0' : (0 : Int) ≤ (k : Int) := by omega
      have i1' : (k : Int) < (tb.length : Int) := by omega
      generalize hbb : bytesN tb s (k + 1) = B at *
      have hbb := Lib.hid hbb
      clear hall hx e ex b1 b2
      go_wp2_with fail
      refine wp_region_qst (fun w' => St w0 (refL c tb bud s D ++ F) w') (by kernel_rfl) (by kernel_rfl) HS.out.drew ?_
      repeat (
        with_reducible refine wpQuiet_step (fun K hK => ?_)
        go_simp
        first
          | (refine hK _ ?_; clear hK K)
          | (apply Exists.intro
             refine ⟨fun w1 h1 => ?_, hK _ ?_⟩
             (first
              | (with_reducible rfl)
              | (obtain ⟨z0, z1, z2, z3, z4, z5, z6, z7, z8, z9⟩ := CA.out _ h1; go_simp; with_reducible rfl))
             clear hK K))
      refine wpQuiet_nil ?_
      intro w2 h2
      go_wp2_with fail
      go_roundw
      case rel => exact ⟨k + 1, hlt, by go_num, by rw [hbb.out], Lib.hid h2⟩
      case measure => simp [intOf]; omega
    · obtain rfl : k = tb.length := by omega
      obtain ⟨c0, _⟩ := ref_head HS.out
      go_wp2_with fail
      go_ret
      exact ⟨rfl, ref_shut HS.out⟩
set_option maxRecDepth 10000 in
theorem rover_in {w0 w : World} {F : List HP} {c : Nat} {tb : List Cls} {bud : Int} {s : Nat → CL} (ht : tbOk tb) (hok : ∀ k, (s k).ok) (h : St w0 (refP c tb bud s :: F) w) :
    Calls Try.prog 64 #[.pointer (some ⟨c, 0, none⟩)] w fun e w' => e = .returned (.bool (decide (bud < bytesN tb s tb.length))) ∧ St w0 (refP c tb bud s :: F) w' := by
  have M := Lib.hid fun w1 (g : St w0 (refP c tb bud s :: F) w1) => rmade_in ht.1 g
  have B := Lib.hid fun w1 (g : St w0 (refP c tb bud s :: F) w1) => rbytes_in ht hok g
  have HS := Lib.hid h
  generalize bytesN tb s tb.length = n at *
  generalize hv : decide (bud < n) = v
  clear h hok ht
  go_enter Try.func64, Try.ntmps64
  go_wp2_with fail
  refine wp_region_qst (fun w' => St w0 (refP c tb bud s :: F) w') (by kernel_rfl) (by kernel_rfl) HS.out.drew ?_
  repeat (
    with_reducible refine wpQuiet_step (fun K hK => ?_)
    go_simp
    first
      | (refine hK _ ?_; clear hK K)
      | (apply Exists.intro
         refine ⟨fun w1 h1 => ?_, hK _ ?_⟩
         (first
          | (with_reducible rfl)
          | (go_at_call 52; refine (M.out _ h1).mono ?_; rintro e w' ⟨rfl, rfl⟩; exact ⟨rfl, h1⟩)
          | (go_at_call 63; refine (B.out _ h1).mono ?_; rintro e w' ⟨rfl, h2⟩; exact ⟨rfl, h2⟩)
          | (obtain ⟨D, h3⟩ := ref_open h1; obtain ⟨z0, z1, z2, z3, z4⟩ := ref_head h3; go_simp; with_reducible rfl))
         clear hK K))
  refine wpQuiet_nil ?_
  intro w2 h2
  go_wp2_with fail
  go_ret
  exact ⟨by rw [← hv]; rfl, h2⟩
end Go.Proofs.Ytaejojbdkgccpaa

/-
  The reference's New. (Printed by mkC42.py.)
-/
import Derived.Test.YtaejojbdkgccpaaC41
namespace Go.Proofs.Ytaejojbdkgccpaa
open Go.RowKit Go.Maps Go.ChangeMaps

def CL.zero : CL := ⟨[], 0, 0⟩
theorem info28 : (Try.prog.info? 28).map (fun i => (i.zero, i.size, i.bytes)) = some (some (.slice none 0 0), 1, 24) := by kernel_rfl
theorem slcL_rep (n : Nat) (v : Value) : List.replicate n v = slcL n fun _ => v := by
  apply List.ext_getElem?
  intro j
  by_cases hj : j < n
  · rw [slcL_get hj]; simp [hj]
  · rw [List.getElem?_eq_none (by simp; omega), List.getElem?_eq_none (by rw [slcL_len]; omega)]
theorem numsF_rep (n : Nat) (x : Int) : List.replicate n (Value.int .i64 x) = numsF n fun _ => x := by
  apply List.ext_getElem?
  intro j
  by_cases hj : j < n
  · rw [numsF_get hj]; simp [hj]
  · rw [List.getElem?_eq_none (by simp; omega), List.getElem?_eq_none (by rw [numsF_len]; omega)]
/-- a new reference, out of its parts -/
theorem ref_new {w0 w : World} {F : List HP} {c bl bm bw cl cm cw : Nat} {ta : Option Addr} {tc : Nat} {tb : List Cls} {bud : Int}
    (h : St w0 (HP.blk c #[.slice ta tb.length tc, .int .i64 bud, .slice (some ⟨bl, 0, none⟩) tb.length cl, .slice (some ⟨bm, 0, none⟩) tb.length cm, .slice (some ⟨bw, 0, none⟩) tb.length cw] 83 ::
      HP.arr 43 3 (.slice ta tb.length tc) tb.length (clsC tb) :: HP.arr 28 1 (.slice (some ⟨bl, 0, none⟩) tb.length cl) tb.length (List.replicate tb.length (.slice none 0 0)) ::
      HP.arr 3 1 (.slice (some ⟨bm, 0, none⟩) tb.length cm) tb.length (List.replicate tb.length (.int .i64 0)) :: HP.arr 3 1 (.slice (some ⟨bw, 0, none⟩) tb.length cw) tb.length (List.replicate tb.length (.int .i64 0)) :: F) w) :
    St w0 (refP c tb bud (fun _ => CL.zero) :: F) w := by
  refine ref_shut (D := ⟨ta, tc, bl, 0, cl, bm, 0, cm, bw, 0, cw, fun _ => none, fun _ => 0⟩) ?_
  have hm : ∀ m, (HP.big (HP.blk c #[.slice ta tb.length tc, .int .i64 bud, .slice (some ⟨bl, 0, none⟩) tb.length cl, .slice (some ⟨bm, 0, none⟩) tb.length cm, .slice (some ⟨bw, 0, none⟩) tb.length cw] 83 ::
      HP.arr 43 3 (.slice ta tb.length tc) tb.length (clsC tb) :: HP.arr 28 1 (.slice (some ⟨bl, 0, none⟩) tb.length cl) tb.length (List.replicate tb.length (.slice none 0 0)) ::
      HP.arr 3 1 (.slice (some ⟨bm, 0, none⟩) tb.length cm) tb.length (List.replicate tb.length (.int .i64 0)) :: HP.arr 3 1 (.slice (some ⟨bw, 0, none⟩) tb.length cw) tb.length (List.replicate tb.length (.int .i64 0)) :: F)).sat m →
      (HP.big ((HP.blk c #[.slice ta tb.length tc, .int .i64 bud, .slice (some ⟨bl, 0, none⟩) tb.length cl, .slice (some ⟨bm, 0, none⟩) tb.length cm, .slice (some ⟨bw, 0, none⟩) tb.length cw] 83 ::
      HP.arr 43 3 (.slice ta tb.length tc) tb.length (clsC tb) :: HP.arr 28 1 (.slice (some ⟨bl, 0, none⟩) tb.length cl) tb.length (List.replicate tb.length (.slice none 0 0)) ::
      HP.arr 3 1 (.slice (some ⟨bm, 0, none⟩) tb.length cm) tb.length (List.replicate tb.length (.int .i64 0)) :: HP.arr 3 1 (.slice (some ⟨bw, 0, none⟩) tb.length cw) tb.length (List.replicate tb.length (.int .i64 0)) ::
      (stars tb.length fun _ => intsP (.slice none 0 0) []) :: F))).sat m := fun m hm => by
    have e : ∀ n, HP.emp = HP.emp ∧ ∀ m, HP.emp.sat m → (stars n fun _ => intsP (.slice none 0 0) []).sat m := fun n => ⟨rfl, by
      induction n with
      | zero => exact fun m h => h
      | succ n ih =>
        intro m hm
        exact ⟨m, HL.none, (HL.apart_none _).symm, by rw [HL.join_comm (HL.apart_none m).symm, HL.join_none], ih m hm, rfl, .inl ⟨rfl, rfl, rfl⟩⟩⟩
    simp only [HP.big] at hm ⊢
    have h2 : ∀ X : HP, ∀ m, X.sat m → ((stars tb.length fun _ => intsP (.slice none 0 0) []) * X).sat m := fun X m hx => by
      have : (HP.emp * X).sat m := by rw [HP.emp_sep]; exact hx
      exact HP.sep_mono (e tb.length).2 m this
    have h3 := h2 _ m hm
    have comm : ∀ A B C D E S X : HP, S * (A * (B * (C * (D * (E * X))))) = A * (B * (C * (D * (E * (S * X))))) := fun A B C D E S X => by ac_rfl
    rw [comm] at h3
    exact h3
  have h2 := h.monol hm
  refine h2.perm ?_
  simp only [refL, rheadP, HP.big, List.cons_append, List.nil_append, slcL_rep, numsF_rep]
  rfl

set_option maxRecDepth 10000 in
set_option maxHeartbeats 4000000 in
theorem rnew_any (w0 w : World) (F : List HP) (hs : St w0 F w) (a : Option Addr) (cap : Nat) (tb : List Cls) (ht : TabIn w0 F (.slice a tb.length cap) tb) (bud : Int) :
    Calls Try.prog 33 #[.slice a tb.length cap, .int .i64 bud] w fun e w' =>
      (¬ tabOk tb ∧ e = .returned (.tuple #[.pointer none, .int .i64 2]) ∧ St w0 F w') ∨ (tabOk tb ∧ (bud < 0 ∨ 65536 < bud) ∧ e = .returned (.tuple #[.pointer none, .int .i64 1]) ∧ St w0 F w') ∨
      (tabOk tb ∧ ¬ (bud < 0 ∨ 65536 < bud) ∧ ∃ c, e = .returned (.tuple #[.pointer (some ⟨c, 0, none⟩), .int .i64 0]) ∧ St w0 (refP c tb bud (fun _ => CL.new) :: F) w') := by
  have V := Lib.hid (rvalid_any w0 w F hs a cap tb ht)
  have HTI := Lib.hid ht
  clear ht hs
  go_enter Try.func33, Try.ntmps33
  go_wp2_with fail
  refine V.out.mono ?_
  rintro e w1 ⟨v, rfl, hv, h1⟩
  cases v with
  | false =>
    have NV := Lib.hid (show ¬ tabOk tb from fun h => by have := hv.2 h; cases this)
    have H1 := Lib.hid h1
    clear hv h1
    go_wp2_with fail
    go_ret2
    exact .inl ⟨NV.out, rfl, H1.out⟩
  | true =>
    have YV := Lib.hid (hv.1 rfl)
    have H1 := Lib.hid h1
    clear hv h1
    by_cases b1 : bud < 0
    · have j0 : decide (bud < 0) = true := decide_eq_true b1
      have BB := Lib.hid b1
      clear b1
      go_wp2_with fail
      go_ret2
      exact .inr (.inl ⟨YV.out, .inl BB.out, rfl, H1.out⟩)
    · have j0 : decide (bud < 0) = false := decide_eq_false b1
      by_cases b2 : 65536 < bud
      · have j1 : decide (65536 < bud) = true := decide_eq_true b2
        have BB := Lib.hid b2
        clear b1 b2
        go_wp2_with fail
        go_ret2
        exact .inr (.inl ⟨YV.out, .inr BB.out, rfl, H1.out⟩)
      · have j1 : decide (65536 < bud) = false := decide_eq_false b2
        have BB := Lib.hid (show ¬ (bud < 0 ∨ 65536 < bud) by omega)
        clear b1 b2
        obtain ⟨i0, hi, hz0, hz1, hz2⟩ := info_parts info43
        have HI := Lib.hid hi
        have Z0 := Lib.hid hz0
        have Z1 := Lib.hid hz1
        have Z2 := Lib.hid hz2
        obtain ⟨i2, hi2, hy0, hy1, hy2⟩ := info_parts info28
        obtain ⟨i3, hi3, hx0, hx1, hx2⟩ := info_parts info3
        have hN : tb.length ≤ 40 := YV.out.2.1
        have hm81 : ∀ w : World, (Instr.makeSlice 81 (.int .i64 (tb.length : Int)) (.int .i64 (tb.length : Int))).run Try.prog w = .ok (.slice (some ⟨w.heap.size, 0, none⟩) tb.length tb.length) (w.alloc (.cells (List.replicate tb.length (.slice none 0 0)).toArray 28)) :=
          make_run 81 28 i2 _ 24 Try.underlying81 hi2 hy0 hy1 hy2 rfl tb.length (by omega) (by omega)
        have hm28 : ∀ w : World, (Instr.makeSlice 28 (.int .i64 (tb.length : Int)) (.int .i64 (tb.length : Int))).run Try.prog w = .ok (.slice (some ⟨w.heap.size, 0, none⟩) tb.length tb.length) (w.alloc (.cells (List.replicate tb.length (.int .i64 0)).toArray 3)) :=
          make_run 28 3 i3 _ 8 Try.underlying28 hi3 hx0 hx1 hx2 rfl tb.length (by omega) (by omega)
        clear hi hz0 hz1 hz2 hi2 hy0 hy1 hy2 hi3 hx0 hx1 hx2
        go_wp2_with fail
        refine wp_region_par (w0 := w0) 0 15 [14] [] (F) [(0, []), (2, [0]), (6, []), (9, []), (12, []), (14, [2, 6, 9, 12])]
          (fun i v => if i = 0 then ∃ a, v = .slice (some a) 0 0 else if i = 2 then ∃ a' c', v = .slice a' tb.length c' else if i = 14 then ∃ b, v = .pointer (some ⟨b, 0, none⟩) else ∃ b, v = .slice (some ⟨b, 0, none⟩) tb.length tb.length)
          (fun i v => if i = 0 then HP.arr 43 3 v 0 [] else if i = 2 then HP.arr 43 3 v tb.length (clsC tb) else if i = 6 then HP.arr 28 1 v tb.length (List.replicate tb.length (.slice none 0 0)) else if i = 14 then (HP.ex fun b : Nat => HP.pur (v = .pointer (some ⟨b, 0, none⟩)) * refP b tb bud fun _ => CL.zero) else HP.arr 3 1 v tb.length (List.replicate tb.length (.int .i64 0))) (by kernel_rfl) (by kernel_rfl) rfl (by kernel_rfl) (by simpa using H1.out) ?_
        simp only [List.take_succ_cons, List.take_zero, List.drop_succ_cons, List.drop_zero]
        refine wpPar_eff (c := []) (by kernel_rfl) ⟨.slice (some ⟨0, 0, none⟩) 0 0, ⟨_, rfl⟩⟩ (fun G w1 h1 => ?_) (fun v hv K hK => ?_)
        · simp only [List.map_nil, List.nil_append] at h1
          go_simp
          simpa using h1.newArr 43 3 0 [] rfl (by decide)
        simp only [if_true] at hv
        obtain ⟨a5, rfl⟩ := hv
        refine hK _ ?_; clear hK K
        iterate 1
          with_reducible refine wpPar_pure (by kernel_rfl) (fun K hK => ?_)
          go_simp
          apply Exists.intro
          refine ⟨fun G w1 h1 => ?_, hK _ ?_⟩
          (first
            | (with_reducible rfl))
          clear hK K
        refine wpPar_eff (c := [0]) (by kernel_rfl) ⟨.slice none tb.length 0, (show ∃ a' c', (Value.slice none tb.length 0) = .slice a' tb.length c' from ⟨_, _, rfl⟩)⟩ (fun G w1 h1 => ?_) (fun v hv K hK => ?_)
        · simp [tokA, upd] at h1
          have R1 := HTI.out (HP.arr 43 3 (.slice (some a5) 0 0) 0 [] :: G) w1 (h1.perm (by simp only [HP.big, HP.big_append, List.cons_append]; ac_rfl))
          refine eff_append_st _ _ 22 rfl 43 i0 _ 3 24 Try.underlying22 HI.out Z0.out Z1.out Z2.out rfl _ _ rfl rfl 0 [] h1 tb.length (clsC tb) R1 (clsC_one tb) (by unfold maxLen; omega) (by omega) ?_
          intro v' w' hs' _
          simp only [Nat.zero_add, List.nil_append] at hs'
          obtain ⟨a7, p7, rfl⟩ := (HP.arr_reads hs').form
          refine ⟨⟨a7, p7, rfl⟩, ?_⟩
          simpa using hs'
        simp only [show ¬ ((2 : Nat) = 0) by decide, if_true, if_false] at hv
        obtain ⟨a6, p6, rfl⟩ := hv
        refine hK _ ?_; clear hK K
        iterate 3
          with_reducible refine wpPar_pure (by kernel_rfl) (fun K hK => ?_)
          go_simp
          apply Exists.intro
          refine ⟨fun G w1 h1 => ?_, hK _ ?_⟩
          (first
            | (with_reducible rfl))
          clear hK K
        refine wpPar_eff (c := []) (by kernel_rfl) ⟨.slice (some ⟨0, 0, none⟩) tb.length tb.length, ⟨_, rfl⟩⟩ (fun G w1 h1 => ?_) (fun v hv K hK => ?_)
        · simp only [List.map_nil, List.nil_append] at h1
          go_simp
          simpa using h1.newArr 28 1 tb.length (List.replicate tb.length (.slice none 0 0)) (by simp) (by unfold maxLen; omega)
        simp only [show ¬ ((6 : Nat) = 0) by decide, show ¬ ((6 : Nat) = 2) by decide, show ¬ ((6 : Nat) = 14) by decide, if_false] at hv
        obtain ⟨b6, rfl⟩ := hv
        refine hK _ ?_; clear hK K
        iterate 2
          with_reducible refine wpPar_pure (by kernel_rfl) (fun K hK => ?_)
          go_simp
          apply Exists.intro
          refine ⟨fun G w1 h1 => ?_, hK _ ?_⟩
          (first
            | (with_reducible rfl))
          clear hK K
        refine wpPar_eff (c := []) (by kernel_rfl) ⟨.slice (some ⟨0, 0, none⟩) tb.length tb.length, ⟨_, rfl⟩⟩ (fun G w1 h1 => ?_) (fun v hv K hK => ?_)
        · simp only [List.map_nil, List.nil_append] at h1
          go_simp
          simpa using h1.newArr 3 1 tb.length (List.replicate tb.length (.int .i64 0)) (by simp) (by unfold maxLen; omega)
        simp only [show ¬ ((9 : Nat) = 0) by decide, show ¬ ((9 : Nat) = 2) by decide, show ¬ ((9 : Nat) = 14) by decide, if_false] at hv
        obtain ⟨b9, rfl⟩ := hv
        refine hK _ ?_; clear hK K
        iterate 2
          with_reducible refine wpPar_pure (by kernel_rfl) (fun K hK => ?_)
          go_simp
          apply Exists.intro
          refine ⟨fun G w1 h1 => ?_, hK _ ?_⟩
          (first
            | (with_reducible rfl))
          clear hK K
        refine wpPar_eff (c := []) (by kernel_rfl) ⟨.slice (some ⟨0, 0, none⟩) tb.length tb.length, ⟨_, rfl⟩⟩ (fun G w1 h1 => ?_) (fun v hv K hK => ?_)
        · simp only [List.map_nil, List.nil_append] at h1
          go_simp
          simpa using h1.newArr 3 1 tb.length (List.replicate tb.length (.int .i64 0)) (by simp) (by unfold maxLen; omega)
        simp only [show ¬ ((12 : Nat) = 0) by decide, show ¬ ((12 : Nat) = 2) by decide, show ¬ ((12 : Nat) = 14) by decide, if_false] at hv
        obtain ⟨b12, rfl⟩ := hv
        refine hK _ ?_; clear hK K
        iterate 1
          with_reducible refine wpPar_pure (by kernel_rfl) (fun K hK => ?_)
          go_simp
          apply Exists.intro
          refine ⟨fun G w1 h1 => ?_, hK _ ?_⟩
          (first
            | (with_reducible rfl))
          clear hK K
        refine wpPar_eff (c := [2, 6, 9, 12]) (by kernel_rfl) ⟨.pointer (some ⟨0, 0, none⟩), ⟨_, rfl⟩⟩ (fun G w1 h1 => ?_) (fun v hv K hK => ?_)
        · simp [tokA, upd] at h1
          go_simp
          have h2 := h1.allocRow #[.slice a6 tb.length p6, .int .i64 bud, .slice (some ⟨b6, 0, none⟩) tb.length tb.length, .slice (some ⟨b9, 0, none⟩) tb.length tb.length, .slice (some ⟨b12, 0, none⟩) tb.length tb.length] 83
          have h3 := ref_new h2
          refine St.ex.2 ⟨w1.heap.size, St.two.2 (St.pur.2 ⟨rfl, ?_⟩)⟩
          exact h3
        simp only [show ¬ ((14 : Nat) = 0) by decide, show ¬ ((14 : Nat) = 2) by decide, if_true, if_false] at hv
        obtain ⟨b14, rfl⟩ := hv
        refine hK _ ?_; clear hK K
        refine wpPar_nil ?_
        intro w5 h5
        simp [tokA, upd] at h5
        obtain ⟨b, h5⟩ := St.ex.1 h5
        obtain ⟨eb, h5⟩ := St.pur.1 (St.two.1 h5)
        have eb : b14 = b := by simpa using eb
        subst eb
        have H5 := Lib.hid h5
        clear h5 hm81 hm28 H1 HTI V
        go_wp2_with fail
        go_loopw [7] (fun i wr => ∃ k : Nat, k ≤ tb.length ∧ i = .int .i64 k ∧ Hid (St w0 (refP b14 tb bud (stepS (fun _ _ => CL.new) (fun _ => CL.zero) k) :: F) wr)) (fun i _ => tb.length - (intOf i).toNat)
        case atStart => exact ⟨0, Nat.zero_le _, rfl, Lib.hid (by rw [stepS_zero]; exact H5.out)⟩
        case round =>
          clear H5
          obtain ⟨k, hk, rfl, HS⟩ := hrel
          by_cases hlt : k < tb.length
          · obtain ⟨D, g⟩ := ref_open HS.out
            have c3 := (ref_head g).2.2.2.1
            have z1 := (ref_at g hlt).2.1
            obtain ⟨hm1, fz⟩ := ref_setM hlt 1 g
            have HM := Lib.hid (ref_shut hm1)
            have i0' : (0 : Int) ≤ (k : Int) := by omega
            have i1' : (k : Int) < (tb.length : Int) := by omega
            have dk : decide ((k : Int) < (tb.length : Int)) = true := decide_eq_true (by omega)
            have dk' : decide (k < tb.length) = true := decide_eq_true hlt
            have qk : IntKind.i64.wrap ((k : Int) + 1) = ((k + 1 : Nat) : Int) := by rw [IntWalk.i64_in _ (by omega)]; rfl
            clear g hm1 HS
            go_wp2_with fail
            go_roundw
            case rel =>
              refine ⟨k + 1, by omega, by first | rfl | rw [qk], Lib.hid ?_⟩
              rw [← stepS_succ]
              have h9 := HM.out
              rw [stepS_at] at h9
              exact h9
            case measure => simp [intOf]; omega
          · have dk : decide ((k : Int) < (tb.length : Int)) = false := decide_eq_false (by omega)
            have dk' : decide (k < tb.length) = false := decide_eq_false hlt
            have KN := Lib.hid (show k = tb.length by omega)
            go_wp2_with fail
            go_ret2
            refine .inr (.inr ⟨YV.out, BB.out, b14, rfl, ?_⟩)
            have h9 := HS.out
            rw [refP_ext (s' := fun _ => CL.new) (fun j hj => by
              unfold stepS
              rw [if_pos (by rw [KN.out]; exact hj)])] at h9
            exact h9
end Go.Proofs.Ytaejojbdkgccpaa

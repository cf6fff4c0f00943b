/-
  The reference's Diff.
-/
import Derived.Test.YtcihbmifogfdpaaGreatDoorRE
namespace Go.Proofs.YtcihbmifogfdpaaGreatDoor
open Go.RowKit

theorem addAll_bnd {C : Int} (hC : 0 ≤ C) : ∀ (l : List Rw) {B : Int} {acc : List Rw}, 0 ≤ B → (∀ x ∈ l, Bnd C x) → (∀ x ∈ acc, Bnd B x) → ∀ x ∈ addAll l acc, Bnd (B + l.length * C) x
  | [], B, acc, _, _, h, x, hx => by
    have := h x hx
    simpa using this
  | r :: l, B, acc, hB, hl, h, x, hx => by
    have h1 := addR_bnd hC hB (hl r (List.mem_cons_self ..)) h
    have h2 := addAll_bnd hC l (B := B + C) (acc := addR r acc) (by omega) (fun y hy => hl y (List.mem_cons_of_mem _ hy)) h1 x hx
    have e : B + C + (l.length : Int) * C = B + ((r :: l).length : Int) * C := by
      simp only [List.length_cons, Int.natCast_add, Int.add_mul, Int.cast_ofNat_Int, Int.one_mul]
      omega
    rwa [e] at h2
theorem addAll_len : ∀ (l acc : List Rw), (addAll l acc).length ≤ acc.length + l.length
  | [], acc => by simp [addAll]
  | r :: l, acc => by
    have h1 := addAll_len l (addR r acc)
    have h2 := addR_len r acc
    show (addAll l (addR r acc)).length ≤ _
    simp only [List.length_cons]
    omega
theorem Bnd.mono {B C : Int} (h : B ≤ C) {r : Rw} (hr : Bnd B r) : Bnd C r := by
  obtain ⟨h1, h2, h3, h4⟩ := hr
  exact ⟨by omega, by omega, by omega, by omega⟩
theorem RwOk.bnd {r : Rw} (h : RwOk r) : Bnd 1099511627776 r := by
  have a := numOk_iff.1 h.a
  have b := numOk_iff.1 h.b
  have c := numOk_iff.1 h.c
  have d := numOk_iff.1 h.d
  exact ⟨by omega, by omega, by omega, by omega⟩
theorem Bnd.neg {B : Int} {r : Rw} (h : Bnd B r) : Bnd B (negR r) := by
  obtain ⟨h1, h2, h3, h4⟩ := h
  unfold Bnd negR
  simp only
  exact ⟨by omega, by omega, by omega, by omega⟩
def dfL (a b : List Rw) : List Rw := if isProfB a = true ∧ isProfB b = true then rDiff a b else []
def dfE (a b : List Rw) : Int := if isProfB a = true ∧ isProfB b = true then 0 else 2

set_option maxRecDepth 10000 in
set_option maxHeartbeats 4000000 in
theorem rdiff_any (w : World) (pa pb : Option Addr) (ca cb : Nat) (a b : List Rw) (hwa : ∀ r ∈ a, r.wf) (hwb : ∀ r ∈ b, r.wf) (hla : a.length ≤ 9223372036854775807) (hlb : b.length ≤ 9223372036854775807) (hra : RowsAt w (.slice pa a.length ca) a) (hrb : RowsAt w (.slice pb b.length cb) b) :
    Calls Tryz.prog 36 #[.slice pa a.length ca, .slice pb b.length cb] w fun e w' => ∃ v, e = .returned (.tuple #[v, .int .i64 (dfE a b)]) ∧ Rows0 w' v (dfL a b) ∧ Below w.heap.size w w' := by
  have cA := Lib.hid (is_any w pa ca a hwa hla hra)
  have cB : Hid (∀ w', Below w.heap.size w w' → Calls Tryz.prog 25 #[.slice pb b.length cb] w' fun e w'' => e = .returned (.bool (isProfB b)) ∧ RowKit.Below w'.heap.size w' w'') := Lib.hid fun w' hb => is_any w' pb cb b hwb hlb (Reads.grow hrb hb)
  by_cases ha : isProfB a = true
  rotate_left
  · have E1 := Lib.hid (show dfE a b = 2 from if_neg fun h => ha h.1)
    have E2 := Lib.hid (show dfL a b = [] from if_neg fun h => ha h.1)
    rw [Bool.not_eq_true] at ha
    rw [ha] at cA
    clear hwa hwb hra hrb ha
    go_enter Tryz.func36, Tryz.ntmps36
    go_wp2_with (go_at_call 25; refine cA.out.mono ?_; rintro e w2 ⟨rfl, hb2⟩)
    go_ret2
    exact ⟨_, by rw [E1.out]; rfl, .inl ⟨rfl, E2.out⟩, hb2⟩
  by_cases hb : isProfB b = true
  rotate_left
  · have E1 := Lib.hid (show dfE a b = 2 from if_neg fun h => hb h.2)
    have E2 := Lib.hid (show dfL a b = [] from if_neg fun h => hb h.2)
    rw [Bool.not_eq_true] at hb
    rw [ha] at cA
    rw [hb] at cB
    clear hwa hwb hra hrb ha hb
    go_enter Tryz.func36, Tryz.ntmps36
    go_wp2_with (first
      | (go_at_call 25; refine cA.out.mono ?_; rintro e w2 ⟨rfl, hb2⟩; clear cA)
      | (go_at_call 25; refine (cB.out _ hb2).mono ?_; rintro e w3 ⟨rfl, hb3⟩))
    go_ret2
    exact ⟨_, by rw [E1.out]; rfl, .inl ⟨rfl, E2.out⟩, hb2.trans (hb3.mono hb2.size)⟩
  have E1 := Lib.hid (show dfE a b = 0 from if_pos ⟨ha, hb⟩)
  have E2 := Lib.hid (show dfL a b = rDiff a b from if_pos ⟨ha, hb⟩)
  have OKA := Lib.hid (isProfB_ok ha)
  have OKB := Lib.hid (isProfB_ok hb)
  have la2 : a.length ≤ 200 := (isProfB_ok ha).1
  have lb2 : b.length ≤ 200 := (isProfB_ok hb).1
  have HRA := Lib.hid hra
  have HRB := Lib.hid hrb
  rw [ha] at cA
  rw [hb] at cB
  clear hwa hwb hra hrb ha hb
  have AB : Hid (∀ k, (∀ x ∈ addAll (b.take k) [], x.sm) ∧ (addAll (b.take k) []).length ≤ 200) := Lib.hid fun k => by
    constructor
    · intro x hx
      have := addAll_bnd (C := 1099511627776) (by decide) (b.take k) (B := 0) (acc := []) (by decide) (fun y hy => (OKB.out.2 y (List.mem_of_mem_take hy)).bnd) (fun y hy => by cases hy) x hx
      refine this.sm ?_
      have h2 : (b.take k).length ≤ 200 := by rw [List.length_take]; omega
      omega
    · have := addAll_len (b.take k) []
      rw [List.length_take] at this
      simp only [List.length_nil] at this
      omega
  have AA : Hid (∀ k, (∀ x ∈ addAll ((a.take k).map negR) (addAll b []), x.sm) ∧ (addAll ((a.take k).map negR) (addAll b [])).length ≤ 400) := Lib.hid fun k => by
    constructor
    · intro x hx
      have h1 := addAll_bnd (C := 1099511627776) (by decide) b (B := 0) (acc := []) (by decide) (fun y hy => (OKB.out.2 y hy).bnd) (fun y hy => by cases hy)
      have := addAll_bnd (C := 1099511627776) (by decide) ((a.take k).map negR) (B := 0 + b.length * 1099511627776) (acc := addAll b []) (by omega) (fun y hy => by
        obtain ⟨z, hz, rfl⟩ := List.mem_map.1 hy
        exact ((OKA.out.2 z (List.mem_of_mem_take hz)).bnd).neg) h1 x hx
      refine this.sm ?_
      have h2 : ((a.take k).map negR).length ≤ 200 := by rw [List.length_map, List.length_take]; omega
      omega
    · have := addAll_len ((a.take k).map negR) (addAll b [])
      have h3 := addAll_len b []
      rw [List.length_map, List.length_take] at this
      simp only [List.length_nil] at h3
      omega
  go_enter Tryz.func36, Tryz.ntmps36
  go_wp2_with (first
    | (go_at_call 25; refine cA.out.mono ?_; rintro e w2 ⟨rfl, hb2⟩; clear cA)
    | (go_at_call 25; refine (cB.out _ hb2).mono ?_; rintro e w3 ⟨rfl, hb3⟩; have HB3 := Lib.hid (hb2.trans (hb3.mono hb2.size)); clear hb2 hb3 cB))
  go_loopw [6, 7] (fun all i wr => ∃ k : Nat, k ≤ b.length ∧ i = .int .i64 k ∧ Hid (Rows0 wr all (addAll (b.take k) [])) ∧ Hid (Below w.heap.size w wr)) (fun _ i _ => b.length - (intOf i).toNat)
  case atStart => exact ⟨0, Nat.zero_le _, rfl, Lib.hid (.inl ⟨rfl, rfl⟩), HB3⟩
  case round =>
    clear HB3
    obtain ⟨k, hk, rfl, HR, HB⟩ := hrel
    by_cases hlt : k < b.length
    · obtain ⟨x, hxk⟩ : ∃ x, b[k]? = some x := ⟨b[k], List.getElem?_eq_getElem hlt⟩
      have ik0 : (0 : Int) ≤ (k : Int) := by omega
      have ik1 : (k : Int) < (b.length : Int) := by omega
      obtain ⟨xb, xo, xc, e1, x0, x1, x2, x3, x4⟩ := RowsAt.at (Reads.grow HRB.out HB.out) hxk
      injection e1 with e1 e11 e12
      subst e1
      clear e11 e12
      have hsx : x.sm := ((OKB.out.2 x (List.mem_of_getElem? hxk)).bnd).sm (by decide)
      have CA := Lib.hid (fun w1 v (h : Rows0 w1 v (addAll (b.take k) [])) => radd_any w1 v _ x (by have := (AB.out k).2; omega) h (AB.out k).1 hsx)
      have HT : Hid (addAll (b.take (k + 1)) [] = addR x (addAll (b.take k) [])) := Lib.hid (by rw [List.take_add_one, hxk]; exact addAll_snoc _ _ _)
      clear hxk hsx
      obtain ⟨xs, xa, xb', xc', xd⟩ := x
      simp only at x0 x1 x2 x3 x4
      simp only [Rw.val] at CA
      go_wp2_with (go_at_call 72; refine (CA.out _ _ HR.out).mono ?_; rintro e w4 ⟨v4, rfl, hr4, hb4⟩; have HR4 := Lib.hid hr4; have HB4 := Lib.hid (HB.out.trans (hb4.mono HB.out.size)); clear hr4 hb4)
      go_roundw
      case rel => exact ⟨k + 1, hlt, by go_num, Lib.hid (by rw [HT.out]; exact HR4.out), HB4⟩
      case measure => simp [intOf]; omega
    · have ik1 : ¬ (k : Int) < (b.length : Int) := by omega
      have HR0 : Hid (Rows0 wr u6 (addAll b [])) := Lib.hid (by have := HR.out; rwa [List.take_of_length_le (by omega)] at this)
      clear HR
      go_wp2_with fail
      go_loopw [6, 8] (fun all i wr => ∃ k : Nat, k ≤ a.length ∧ i = .int .i64 k ∧ Hid (Rows0 wr all (addAll ((a.take k).map negR) (addAll b []))) ∧ Hid (Below w.heap.size w wr)) (fun _ i _ => a.length - (intOf i).toNat)
      case atStart => exact ⟨0, Nat.zero_le _, rfl, HR0, HB⟩
      case round =>
        clear HR0 HB
        obtain ⟨k2, hk2, rfl, HR, HB⟩ := hrel
        by_cases hlt2 : k2 < a.length
        · obtain ⟨x, hxk⟩ : ∃ x, a[k2]? = some x := ⟨a[k2], List.getElem?_eq_getElem hlt2⟩
          have ik0 : (0 : Int) ≤ (k2 : Int) := by omega
          have ik2 : (k2 : Int) < (a.length : Int) := by omega
          obtain ⟨xb, xo, xc, e1, x0, x1, x2, x3, x4⟩ := RowsAt.at (Reads.grow HRA.out HB.out) hxk
          injection e1 with e1 e11 e12
          subst e1
          clear e11 e12
          have hbx := (OKA.out.2 x (List.mem_of_getElem? hxk)).bnd
          have hsx : (negR x).sm := hbx.neg.sm (by decide)
          have CA := Lib.hid (fun w1 v (h : Rows0 w1 v (addAll ((a.take k2).map negR) (addAll b []))) => radd_any w1 v _ (negR x) (by have := (AA.out k2).2; omega) h (AA.out k2).1 hsx)
          have HT : Hid (addAll ((a.take (k2 + 1)).map negR) (addAll b []) = addR (negR x) (addAll ((a.take k2).map negR) (addAll b []))) := Lib.hid (by rw [List.take_add_one, hxk, List.map_append]; exact addAll_snoc _ _ _)
          clear hxk hsx
          obtain ⟨xs, xa, xb', xc', xd⟩ := x
          obtain ⟨n1, n2, n3, n4⟩ := hbx
          have s1 : IntKind.i64.wrap (-xa) = -xa := IntWalk.i64_in _ (by simp only at n1; omega)
          have s2 : IntKind.i64.wrap (-xb') = -xb' := IntWalk.i64_in _ (by simp only at n2; omega)
          have s3 : IntKind.i64.wrap (-xc') = -xc' := IntWalk.i64_in _ (by simp only at n3; omega)
          have s4 : IntKind.i64.wrap (-xd) = -xd := IntWalk.i64_in _ (by simp only at n4; omega)
          clear n1 n2 n3 n4
          simp only at x0 x1 x2 x3 x4
          simp only [Rw.val, negR] at CA
          go_wp2_with fail
          refine wp_region_tail_drew 31 (by kernel_rfl) (by kernel_rfl) ?_
          simp only [List.take_succ_cons, List.take_zero, List.drop_succ_cons, List.drop_zero]
          repeat still_step
          refine wpStill_nil ?_
          go_wp2_with (go_at_call 72; refine (CA.out _ _ (HR.out.grow (Below.refl _ _).drew)).mono ?_; rintro e w4 ⟨v4, rfl, hr4, hb4⟩; have HR4 := Lib.hid hr4; have HB4 := Lib.hid (HB.out.drew.trans (hb4.mono HB.out.drew.size)); clear hr4 hb4)
          go_roundw
          case rel => exact ⟨k2 + 1, hlt2, by go_num, Lib.hid (by rw [HT.out]; exact HR4.out), HB4⟩
          case measure => simp [intOf]; omega
        · have ik2 : ¬ (k2 : Int) < (a.length : Int) := by omega
          have HR0 : Hid (Rows0 wr u6 (addAll (a.map negR) (addAll b []))) := Lib.hid (by have := HR.out; rwa [List.take_of_length_le (by omega)] at this)
          have LN : (addAll (a.map negR) (addAll b [])).length ≤ 400 := by have := (AA.out a.length).2; rwa [List.take_of_length_le (Nat.le_refl _)] at this
          obtain ⟨M, hM⟩ : ∃ M, addAll (a.map negR) (addAll b []) = M := ⟨_, rfl⟩
          have E2M : Hid (dfL a b = M.filter nz) := Lib.hid (by rw [E2.out, rDiff, hM])
          rw [hM] at HR0 LN
          obtain ⟨⟨qa, qc, e6⟩, hr6⟩ := HR0.out.at
          subst e6
          have HR6 := Lib.hid hr6
          clear HR hr6 HR0 hM AA AB
          obtain ⟨w3, hw3⟩ : ∃ w3, w3 = wr := ⟨_, rfl⟩
          subst hw3
          obtain ⟨i0, hi0, hz0, hz1, hz2⟩ := info_row
          have HI := Lib.hid hi0; have Z0 := Lib.hid hz0; have Z1 := Lib.hid hz1; have Z2 := Lib.hid hz2
          clear hi0 hz0 hz1 hz2
          have H0 : Hid (St w3 [HP.arr 47 5 (.slice none 0 0) 0 (rowsC [])] w3) := Lib.hid ((St.start w3).arr_nil 47 5)
          go_wp2_with fail
          go_loopw [9, 10] (fun out i wl => ∃ (k : Nat) (oa : Option Addr) (oc n : Nat), k ≤ M.length ∧ i = .int .i64 k ∧ out = .slice oa n oc ∧ n ≤ k ∧ Hid (n = ((M.take k).filter nz).length) ∧ Hid (St w3 [HP.arr 47 5 (.slice oa n oc) n (rowsC ((M.take k).filter nz))] wl)) (fun _ i _ => M.length - (intOf i).toNat)
          case atStart => exact ⟨0, none, 0, 0, Nat.zero_le _, rfl, rfl, Nat.le_refl _, Lib.hid rfl, H0⟩
          case round =>
            clear H0
            obtain ⟨k3, oa, oc, n, hk3, rfl, rfl, hnk, HN, HS⟩ := hrel
            by_cases hlt3 : k3 < M.length
            · obtain ⟨x, hxk⟩ : ∃ x, M[k3]? = some x := ⟨M[k3], List.getElem?_eq_getElem hlt3⟩
              have ik0 : (0 : Int) ≤ (k3 : Int) := by omega
              have ik3 : (k3 : Int) < (M.length : Int) := by omega
              obtain ⟨xb, xo, xc, e1, x0, x1, x2, x3, x4⟩ := RowsAt.at (Reads.grow HR6.out HS.out.below) hxk
              injection e1 with e1 e11 e12
              subst e1
              clear e11 e12
              have HT : Hid ((M.take (k3 + 1)).filter nz = (M.take k3).filter nz ++ [x].filter nz) := Lib.hid (by rw [List.take_add_one, hxk, List.filter_append]; rfl)
              clear hxk
              obtain ⟨xs, xa, xb', xc', xd⟩ := x
              simp only at x0 x1 x2 x3 x4
              by_cases h1 : xa ≠ 0
              · have b1 : (xa != 0) = true := bne_iff_ne.2 h1
                have HZ : Hid (nz (⟨xs, xa, xb', xc', xd⟩ : Rw) = true) := Lib.hid (by simp only [nz, Bool.or_eq_true, decide_eq_true_eq]; exact .inl (.inl (.inl h1)))
                have H9 := Lib.hid (HS.out.newArr 47 5 1 [.string xs, .int .i64 xa, .int .i64 xb', .int .i64 xc', .int .i64 xd] rfl (by decide))
                go_wp2_with (at_builtin; refine wpList_append_st rfl _ _ 22 rfl 47 i0 _ 5 48 Tryz.underlying22 HI.out Z0.out Z1.out Z2.out rfl _ _ rfl rfl n (rowsC ((M.take k3).filter nz)) (by exact H9.out.swap) 1 [.string xs, .int .i64 xa, .int .i64 xb', .int .i64 xc', .int .i64 xd] (by exact (HP.arr_reads H9.out)) (by intro u hu; simp at hu; rcases hu with rfl | rfl | rfl | rfl | rfl <;> rfl) (by unfold maxLen; omega) (by omega) ?_; intro v' w10 hs2 hv2; clear hv2; obtain ⟨a10, p10, rfl⟩ := (HP.arr_reads hs2).form; have H10 := Lib.hid hs2; clear hs2)
                go_roundw
                case rel => exact ⟨k3 + 1, a10, p10, n + 1, hlt3, by go_num, rfl, by omega, Lib.hid (by rw [HT.out, List.filter_cons, if_pos HZ.out, List.length_append, ← HN.out]; rfl), Lib.hid (by rw [HT.out, List.filter_cons, if_pos HZ.out, rowsC_app]; exact H10.out.pick 2 [0])⟩
                case measure => simp [intOf]; omega
              · have b1 : (xa != 0) = false := by simpa using h1
                by_cases h2 : xb' ≠ 0
                · have b2 : (xb' != 0) = true := bne_iff_ne.2 h2
                  have HZ : Hid (nz (⟨xs, xa, xb', xc', xd⟩ : Rw) = true) := Lib.hid (by simp only [nz, Bool.or_eq_true, decide_eq_true_eq]; exact .inl (.inl (.inr h2)))
                  have H9 := Lib.hid (HS.out.newArr 47 5 1 [.string xs, .int .i64 xa, .int .i64 xb', .int .i64 xc', .int .i64 xd] rfl (by decide))
                  go_wp2_with (at_builtin; refine wpList_append_st rfl _ _ 22 rfl 47 i0 _ 5 48 Tryz.underlying22 HI.out Z0.out Z1.out Z2.out rfl _ _ rfl rfl n (rowsC ((M.take k3).filter nz)) (by exact H9.out.swap) 1 [.string xs, .int .i64 xa, .int .i64 xb', .int .i64 xc', .int .i64 xd] (by exact (HP.arr_reads H9.out)) (by intro u hu; simp at hu; rcases hu with rfl | rfl | rfl | rfl | rfl <;> rfl) (by unfold maxLen; omega) (by omega) ?_; intro v' w10 hs2 hv2; clear hv2; obtain ⟨a10, p10, rfl⟩ := (HP.arr_reads hs2).form; have H10 := Lib.hid hs2; clear hs2)
                  go_roundw
                  case rel => exact ⟨k3 + 1, a10, p10, n + 1, hlt3, by go_num, rfl, by omega, Lib.hid (by rw [HT.out, List.filter_cons, if_pos HZ.out, List.length_append, ← HN.out]; rfl), Lib.hid (by rw [HT.out, List.filter_cons, if_pos HZ.out, rowsC_app]; exact H10.out.pick 2 [0])⟩
                  case measure => simp [intOf]; omega
                · have b2 : (xb' != 0) = false := by simpa using h2
                  by_cases h3 : xc' ≠ 0
                  · have b3 : (xc' != 0) = true := bne_iff_ne.2 h3
                    have HZ : Hid (nz (⟨xs, xa, xb', xc', xd⟩ : Rw) = true) := Lib.hid (by simp only [nz, Bool.or_eq_true, decide_eq_true_eq]; exact .inl (.inr h3))
                    have H9 := Lib.hid (HS.out.newArr 47 5 1 [.string xs, .int .i64 xa, .int .i64 xb', .int .i64 xc', .int .i64 xd] rfl (by decide))
                    go_wp2_with (at_builtin; refine wpList_append_st rfl _ _ 22 rfl 47 i0 _ 5 48 Tryz.underlying22 HI.out Z0.out Z1.out Z2.out rfl _ _ rfl rfl n (rowsC ((M.take k3).filter nz)) (by exact H9.out.swap) 1 [.string xs, .int .i64 xa, .int .i64 xb', .int .i64 xc', .int .i64 xd] (by exact (HP.arr_reads H9.out)) (by intro u hu; simp at hu; rcases hu with rfl | rfl | rfl | rfl | rfl <;> rfl) (by unfold maxLen; omega) (by omega) ?_; intro v' w10 hs2 hv2; clear hv2; obtain ⟨a10, p10, rfl⟩ := (HP.arr_reads hs2).form; have H10 := Lib.hid hs2; clear hs2)
                    go_roundw
                    case rel => exact ⟨k3 + 1, a10, p10, n + 1, hlt3, by go_num, rfl, by omega, Lib.hid (by rw [HT.out, List.filter_cons, if_pos HZ.out, List.length_append, ← HN.out]; rfl), Lib.hid (by rw [HT.out, List.filter_cons, if_pos HZ.out, rowsC_app]; exact H10.out.pick 2 [0])⟩
                    case measure => simp [intOf]; omega
                  · have b3 : (xc' != 0) = false := by simpa using h3
                    by_cases h4 : xd ≠ 0
                    · have b4 : (xd != 0) = true := bne_iff_ne.2 h4
                      have HZ : Hid (nz (⟨xs, xa, xb', xc', xd⟩ : Rw) = true) := Lib.hid (by simp only [nz, Bool.or_eq_true, decide_eq_true_eq]; exact .inr h4)
                      have H9 := Lib.hid (HS.out.newArr 47 5 1 [.string xs, .int .i64 xa, .int .i64 xb', .int .i64 xc', .int .i64 xd] rfl (by decide))
                      go_wp2_with (at_builtin; refine wpList_append_st rfl _ _ 22 rfl 47 i0 _ 5 48 Tryz.underlying22 HI.out Z0.out Z1.out Z2.out rfl _ _ rfl rfl n (rowsC ((M.take k3).filter nz)) (by exact H9.out.swap) 1 [.string xs, .int .i64 xa, .int .i64 xb', .int .i64 xc', .int .i64 xd] (by exact (HP.arr_reads H9.out)) (by intro u hu; simp at hu; rcases hu with rfl | rfl | rfl | rfl | rfl <;> rfl) (by unfold maxLen; omega) (by omega) ?_; intro v' w10 hs2 hv2; clear hv2; obtain ⟨a10, p10, rfl⟩ := (HP.arr_reads hs2).form; have H10 := Lib.hid hs2; clear hs2)
                      go_roundw
                      case rel => exact ⟨k3 + 1, a10, p10, n + 1, hlt3, by go_num, rfl, by omega, Lib.hid (by rw [HT.out, List.filter_cons, if_pos HZ.out, List.length_append, ← HN.out]; rfl), Lib.hid (by rw [HT.out, List.filter_cons, if_pos HZ.out, rowsC_app]; exact H10.out.pick 2 [0])⟩
                      case measure => simp [intOf]; omega
                    · have b4 : (xd != 0) = false := by simpa using h4
                      have HZ : Hid (nz (⟨xs, xa, xb', xc', xd⟩ : Rw) = false) := Lib.hid (by simp only [nz, Bool.or_eq_false_iff, decide_eq_false_iff_not]; exact ⟨⟨⟨h1, h2⟩, h3⟩, h4⟩)
                      clear h1 h2 h3 h4
                      go_wp2_with fail
                      go_roundw
                      case rel => exact ⟨k3 + 1, oa, oc, n, hlt3, by go_num, rfl, by omega, Lib.hid (by rw [HT.out, List.filter_cons, if_neg (by rw [HZ.out]; decide), List.filter_nil, List.append_nil]; exact HN.out), Lib.hid (by rw [HT.out, List.filter_cons, if_neg (by rw [HZ.out]; decide), List.filter_nil, List.append_nil]; exact HS.out)⟩
                      case measure => simp [intOf]; omega
            · have ik3 : ¬ (k3 : Int) < (M.length : Int) := by omega
              have HF : Hid (M.take k3 = M) := Lib.hid (List.take_of_length_le (by omega))
              go_wp2_with fail
              go_ret2
              refine ⟨_, by rw [E1.out]; rfl, ?_, HB.out.trans (HS.out.below.mono HB.out.size)⟩
              rw [E2M.out]
              have h1 := HS.out
              rw [HF.out] at h1
              have h2 := HN.out
              rw [HF.out] at h2
              rw [h2] at h1
              have h3 := rows0_of h1
              rwa [← h2] at h3
end Go.Proofs.YtcihbmifogfdpaaGreatDoor

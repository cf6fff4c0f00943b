/-
  SampleSums: its walk.
-/
import Derived.Test.YtcihbmifogfdpaaGreatDoorRL
namespace Go.Proofs.YtcihbmifogfdpaaGreatDoor
open Go.RowKit

theorem diff_neg (a b : List Rw) : rDiff b a = (rDiff a b).map negR := (rDiff_is b a).one (rDiff_is a b).neg
theorem diff_self (a : List Rw) : rDiff a a = [] := (rDiff_is a a).one (IsDiff.self a)

set_option maxRecDepth 10000 in
set_option maxHeartbeats 4000000 in
theorem sums_walk (pa : Option Addr) (ca : Nat) (a : List Rw) (pb : Option Addr) (cb : Nat) (b : List Rw) (w : World) (hwa : (∀ r ∈ a, r.wf) ∧ RowsAt w (.slice pa a.length ca) a) (hla : a.length ≤ 9223372036854775807) (hwb : (∀ r ∈ b, r.wf) ∧ RowsAt w (.slice pb b.length cb) b) (hlb : b.length ≤ 9223372036854775807) (hg : Globs w) :
    Calls Tryz.prog 10 #[.slice pa a.length ca, .slice pb b.length cb] w fun e w' => e = .returned (.bool true) ∧ Below w.heap.size w w' := by
  have cW : Hid (∀ w', Below w.heap.size w w' → Calls Tryz.prog 16 #[] w' fun e w'' => e = .returned (.bool true) ∧ Below w'.heap.size w' w'') := Lib.hid fun w' hb => awake_any (hg.grow hb)
  have cA := Lib.hid (is_any w pa ca a hwa.1 hla hwa.2)
  have cB : Hid (∀ w', Below w.heap.size w w' → Calls Tryz.prog 25 #[.slice pb b.length cb] w' fun e w'' => e = .returned (.bool (isProfB b)) ∧ RowKit.Below w'.heap.size w' w'') := Lib.hid fun w' hb => is_any w' pb cb b hwb.1 hlb (Reads.grow hwb.2 hb)
  by_cases ha : isProfB a = true
  rotate_left
  · rw [Bool.not_eq_true] at ha
    rw [ha] at cA
    clear hwa hwb hg ha cB
    go_enter Tryz.func10, Tryz.ntmps10
    go_wp2_with (first
      | (go_at_call 25; refine cA.out.mono ?_; rintro e w2 ⟨rfl, hb2⟩)
      | (go_at_call 16; refine (cW.out _ hb2).mono ?_; rintro e w3 ⟨rfl, hb3⟩))
    go_ret
    exact ⟨rfl, hb2.trans (hb3.mono hb2.size)⟩
  by_cases hb : isProfB b = true
  rotate_left
  · rw [Bool.not_eq_true] at hb
    rw [ha] at cA
    rw [hb] at cB
    clear hwa hwb hg ha hb
    go_enter Tryz.func10, Tryz.ntmps10
    go_wp2_with (first
      | (go_at_call 25; refine cA.out.mono ?_; rintro e w2 ⟨rfl, hb2⟩; clear cA)
      | (go_at_call 25; refine (cB.out _ hb2).mono ?_; rintro e w3 ⟨rfl, hb3'⟩; have hb3 := hb2.trans (hb3'.mono hb2.size); clear hb3')
      | (go_at_call 16; refine (cW.out _ hb3).mono ?_; rintro e w4 ⟨rfl, hb4⟩))
    go_ret
    exact ⟨rfl, hb3.trans (hb4.mono hb3.size)⟩
  have OKA := isProfB_ok ha
  have OKB := isProfB_ok hb
  have e1 : dfL a b = rDiff a b := if_pos ⟨ha, hb⟩
  have e2 : dfL b a = (rDiff a b).map negR := by rw [← diff_neg]; exact if_pos ⟨hb, ha⟩
  have e3 : dfL a a = [] := by rw [← diff_self a]; exact if_pos ⟨ha, ha⟩
  have f1 : dfE a b = 0 := if_pos ⟨ha, hb⟩
  have f2 : dfE b a = 0 := if_pos ⟨hb, ha⟩
  have f3 : dfE a a = 0 := if_pos ⟨ha, ha⟩
  have hD := rDiff_is a b
  have sD := sumd_diff a b
  have LD : (rDiff a b).length ≤ 400 := by
    unfold rDiff
    refine Nat.le_trans (List.length_filter_le _ _) ?_
    have h3 := addAll_len (a.map negR) (addAll b [])
    have h4 := addAll_len b []
    rw [List.length_map] at h3
    simp only [List.length_nil] at h4
    have := OKA.1; have := OKB.1
    omega
  have BD : ∀ r ∈ rDiff a b, Bnd 1099511627776000 r := fun r hr => by
    have h1 := addAll_bnd (C := 1099511627776) (by decide) b (B := 0) (acc := []) (by decide) (fun y hy => (OKB.2 y hy).bnd) (fun y hy => by cases hy)
    have := addAll_bnd (C := 1099511627776) (by decide) (a.map negR) (B := 0 + b.length * 1099511627776) (acc := addAll b []) (by omega) (fun y hy => by
      obtain ⟨z, hz, rfl⟩ := List.mem_map.1 hy
      exact ((OKA.2 z hz).bnd).neg) h1 r (List.mem_filter.1 hr).1
    refine this.mono ?_
    rw [List.length_map]
    have := OKA.1; have := OKB.1
    omega
  have cP : Hid (∀ w', Below w.heap.size w w' → Calls Tryz.prog 35 #[.slice pa a.length ca, .slice pb b.length cb] w' fun e w'' => ∃ a1 c1, e = .returned (.tuple #[.slice a1 (rDiff a b).length c1, .int .i64 0]) ∧ RowsAt w'' (.slice a1 (rDiff a b).length c1) (rDiff a b) ∧ Below w'.heap.size w' w'') := Lib.hid fun w' hb => (pdiff_any w' pa pb ca cb a b hwa.1 hwb.1 hla hlb (Reads.grow hwa.2 hb) (Reads.grow hwb.2 hb)).mono fun e w'' ⟨v, h1, h2, h3⟩ => by
    rw [e1] at h2; rw [f1] at h1
    obtain ⟨⟨a1, c1, rfl⟩, h4⟩ := h2.at
    exact ⟨a1, c1, h1, h4, h3⟩
  have cQ : Hid (∀ w', Below w.heap.size w w' → Calls Tryz.prog 35 #[.slice pb b.length cb, .slice pa a.length ca] w' fun e w'' => ∃ a1 c1, e = .returned (.tuple #[.slice a1 (rDiff a b).length c1, .int .i64 0]) ∧ Reads w'' 5 (.slice a1 (rDiff a b).length c1) ((rDiff a b).map negR).length (rowsC ((rDiff a b).map negR)) ∧ Below w'.heap.size w' w'') := Lib.hid fun w' hb => (pdiff_any w' pb pa cb ca b a hwb.1 hwa.1 hlb hla (Reads.grow hwb.2 hb) (Reads.grow hwa.2 hb)).mono fun e w'' ⟨v, h1, h2, h3⟩ => by
    rw [e2] at h2; rw [f2] at h1
    obtain ⟨⟨a1, c1, rfl⟩, h4⟩ := h2.at
    have hl : ((rDiff a b).map negR).length = (rDiff a b).length := List.length_map _
    unfold RowsAt at h4
    exact ⟨a1, c1, by rw [h1, hl], by rw [hl] at h4 ⊢; exact h4, h3⟩
  have cR : Hid (∀ w', Below w.heap.size w w' → Calls Tryz.prog 35 #[.slice pa a.length ca, .slice pa a.length ca] w' fun e w'' => ∃ a1 c1, e = .returned (.tuple #[.slice a1 0 c1, .int .i64 0]) ∧ Below w'.heap.size w' w'') := Lib.hid fun w' hb => (pdiff_any w' pa pa ca ca a a hwa.1 hwa.1 hla hla (Reads.grow hwa.2 hb) (Reads.grow hwa.2 hb)).mono fun e w'' ⟨v, h1, h2, h3⟩ => by
    rw [e3] at h2; rw [f3] at h1
    obtain ⟨⟨a1, c1, rfl⟩, _⟩ := h2.at
    exact ⟨a1, c1, h1, h3⟩
  have o1 : Hid (∀ w' a1 c1, RowsAt w' (.slice a1 (rDiff a b).length c1) (rDiff a b) → Calls Tryz.prog 37 #[.slice a1 (rDiff a b).length c1] w' fun e w'' => e = .returned (.int .i64 (sumd b - sumd a)) ∧ Below w'.heap.size w' w'') := Lib.hid fun w' a1 c1 h => by rw [← sD]; exact of_any w' a1 c1 _ (by omega) BD h
  have o2 : Hid (∀ w', Below w.heap.size w w' → Calls Tryz.prog 37 #[.slice pb b.length cb] w' fun e w'' => e = .returned (.int .i64 (sumd b)) ∧ Below w'.heap.size w' w'') := Lib.hid fun w' hb => of_any w' pb cb b (by have := OKB.1; omega) (fun r hr => (OKB.2 r hr).bnd.mono (by decide)) (Reads.grow hwb.2 hb)
  have o3 : Hid (∀ w', Below w.heap.size w w' → Calls Tryz.prog 37 #[.slice pa a.length ca] w' fun e w'' => e = .returned (.int .i64 (sumd a)) ∧ Below w'.heap.size w' w'') := Lib.hid fun w' hb => of_any w' pa ca a (by have := OKA.1; omega) (fun r hr => (OKA.2 r hr).bnd.mono (by decide)) (Reads.grow hwa.2 hb)
  have sw : IntKind.i64.wrap (sumd b - sumd a) = sumd b - sumd a := IntWalk.i64_in _ (by
    rw [← sD]
    have := sumd_bnd (B := 1099511627776000) (by decide) BD
    omega)
  have HSRT := Lib.hid hD.srt
  have HBD := Lib.hid BD
  rw [ha] at cA
  rw [hb] at cB
  generalize rDiff a b = D at *
  generalize sumd b = sb at *
  generalize sumd a = sa at *
  have eqs : (sb - sa == sb - sa) = true := beq_iff_eq.2 rfl
  have eqn : ((D.length : Int) != (D.length : Int)) = false := by simp
  clear hwa hwb hg ha hb OKA OKB e1 e2 e3 f1 f2 f3 hD sD BD
  go_enter Tryz.func10, Tryz.ntmps10
  go_wp2_with (first
    | (go_at_call 25; refine cA.out.mono ?_; rintro e w2 ⟨rfl, hb2⟩; clear cA)
    | (go_at_call 25; refine (cB.out _ hb2).mono ?_; rintro e w3 ⟨rfl, hb3'⟩; have hb3 := hb2.trans (hb3'.mono hb2.size); clear hb3' cB)
    | (go_at_call 35; first
        | (refine (cP.out _ hb3).mono ?_; rintro e w4 ⟨a4, c4, rfl, hr4', hb4'⟩; have hr4 := Lib.hid hr4'; have hb4 := hb3.trans (hb4'.mono hb3.size); clear hb4' hr4' cP)
        | (refine (cQ.out _ hb4).mono ?_; rintro e w5 ⟨a5, c5, rfl, hr5', hb5'⟩; have hr5 := Lib.hid hr5'; have hr45 := Lib.hid (Reads.grow hr4.out hb5'); have hb5 := hb4.trans (hb5'.mono hb4.size); clear hb5' hr5' cQ)
        | (refine (cR.out _ hb5).mono ?_; rintro e w6 ⟨a6, c6, rfl, hb6'⟩; have hr46 := Lib.hid (Reads.grow hr45.out hb6'); have hr56 := Lib.hid (Reads.grow hr5.out hb6'); have hb6 := Lib.hid (hb5.trans (hb6'.mono hb5.size)); clear hb6' cR)))

  go_loopw [11] (fun i wr => ∃ k : Nat, k ≤ D.length ∧ i = .int .i64 k ∧ Hid (Below w6.heap.size w6 wr)) (fun i _ => D.length - (intOf i).toNat)
  case atStart => exact ⟨0, Nat.zero_le _, rfl, Lib.hid (Below.refl _ _)⟩
  case round =>
    obtain ⟨k, hk, rfl, HB⟩ := hrel
    by_cases hlt : k < D.length
    · obtain ⟨x, hxk⟩ : ∃ x, D[k]? = some x := ⟨D[k], List.getElem?_eq_getElem hlt⟩
      have hyk : (D.map negR)[k]? = some (negR x) := by rw [List.getElem?_map, hxk]; rfl
      have ik0 : (0 : Int) ≤ (k : Int) := by omega
      have ik1 : (k : Int) < (D.length : Int) := by omega
      obtain ⟨xb, xo, xc, ex, x0, x1, x2, x3, x4⟩ := RowsAt.at (Reads.grow hr46.out HB.out) hxk
      obtain ⟨yb, yo, yc, ey, y0, y1, y2, y3, y4⟩ := RowsAt.at (l := D.map negR) (Reads.grow hr56.out HB.out) hyk
      injection ex with ex ex1 ex2
      injection ey with ey ey1 ey2
      subst ex ey
      clear ex1 ex2 ey1 ey2 hyk
      have hbx := HBD.out x (List.mem_of_getElem? hxk)
      have hprev : k = 0 ∨ ∃ k1 q, k = k1 + 1 ∧ D[k1]? = some q ∧ ltB q.site x.site = true := by
        rcases Nat.eq_zero_or_pos k with h | h
        · exact .inl h
        · refine .inr ⟨k - 1, D[k - 1]'(by omega), by omega, List.getElem?_eq_getElem (by omega), ?_⟩
          have h1 := (List.pairwise_iff_getElem.1 HSRT.out) (k - 1) k (by omega) hlt (by omega)
          obtain ⟨_, e⟩ := List.getElem?_eq_some_iff.1 hxk
          rwa [e] at h1
      clear hxk
      obtain ⟨xs, xa, xb', xc', xd⟩ := x
      obtain ⟨n1, n2, n3, n4⟩ := hbx
      simp only [negR] at x0 x1 x2 x3 x4 y0 y1 y2 y3 y4 hprev n1 n2 n3 n4
      have s1 : IntKind.i64.wrap (- -xa) = xa := by rw [Int.neg_neg]; exact IntWalk.i64_in _ (by omega)
      have s2 : IntKind.i64.wrap (- -xb') = xb' := by rw [Int.neg_neg]; exact IntWalk.i64_in _ (by omega)
      have s3 : IntKind.i64.wrap (- -xc') = xc' := by rw [Int.neg_neg]; exact IntWalk.i64_in _ (by omega)
      have s4 : IntKind.i64.wrap (- -xd) = xd := by rw [Int.neg_neg]; exact IntWalk.i64_in _ (by omega)
      have t1 : IntKind.i64.wrap xa = xa := IntWalk.i64_in _ (by omega)
      have t2 : IntKind.i64.wrap xb' = xb' := IntWalk.i64_in _ (by omega)
      have t3 : IntKind.i64.wrap xc' = xc' := IntWalk.i64_in _ (by omega)
      have t4 : IntKind.i64.wrap xd = xd := IntWalk.i64_in _ (by omega)
      clear n1 n2 n3 n4
      have FACTS : Hid (∀ G wx, St wr G wx → wx.cell? ⟨xb, xo + k * 5, none⟩ = some (.string xs) ∧ wx.cell? ⟨xb, xo + k * 5 + 1, none⟩ = some (.int .i64 xa) ∧ wx.cell? ⟨xb, xo + k * 5 + 2, none⟩ = some (.int .i64 xb') ∧ wx.cell? ⟨xb, xo + k * 5 + 3, none⟩ = some (.int .i64 xc') ∧ wx.cell? ⟨xb, xo + k * 5 + 4, none⟩ = some (.int .i64 xd) ∧
          wx.cell? ⟨yb, yo + k * 5, none⟩ = some (.string xs) ∧ wx.cell? ⟨yb, yo + k * 5 + 1, none⟩ = some (.int .i64 (-xa)) ∧ wx.cell? ⟨yb, yo + k * 5 + 2, none⟩ = some (.int .i64 (-xb')) ∧ wx.cell? ⟨yb, yo + k * 5 + 3, none⟩ = some (.int .i64 (-xc')) ∧ wx.cell? ⟨yb, yo + k * 5 + 4, none⟩ = some (.int .i64 (-xd))) := Lib.hid (fun G wx hx => by
        have up : ∀ p v, wr.cell? p = some v → wx.cell? p = some v := fun p v hv => (hx.was (World.block_lt_of_cell? _ _ hv)).trans hv
        exact ⟨up _ _ x0, up _ _ x1, up _ _ x2, up _ _ x3, up _ _ x4, up _ _ y0, up _ _ y1, up _ _ y2, up _ _ y3, up _ _ y4⟩)
      clear x0 x1 x2 x3 x4 y0 y1 y2 y3 y4
      have HPV := Lib.hid hprev
      clear hprev
      go_wp2_with fail
      have SK : Hid (∀ G w', St wr G w' → w'.cell? ⟨xb, xo + k * 5, none⟩ = some (.string xs) ∧ w'.cell? ⟨xb, xo + k * 5 + 1, none⟩ = some (.int .i64 xa) ∧ w'.cell? ⟨xb, xo + k * 5 + 2, none⟩ = some (.int .i64 xb') ∧ w'.cell? ⟨xb, xo + k * 5 + 3, none⟩ = some (.int .i64 xc') ∧ w'.cell? ⟨xb, xo + k * 5 + 4, none⟩ = some (.int .i64 xd) ∧ w'.cell? ⟨yb, yo + k * 5, none⟩ = some (.string xs) ∧ w'.cell? ⟨yb, yo + k * 5 + 1, none⟩ = some (.int .i64 (-xa)) ∧ w'.cell? ⟨yb, yo + k * 5 + 2, none⟩ = some (.int .i64 (-xb')) ∧ w'.cell? ⟨yb, yo + k * 5 + 3, none⟩ = some (.int .i64 (-xc')) ∧ w'.cell? ⟨yb, yo + k * 5 + 4, none⟩ = some (.int .i64 (-xd)) ∧ ∃ G, St wr G w') := Lib.hid (fun G w' h => by
        obtain ⟨q0, q1, q2, q3, q4, q5, q6, q7, q8, q9⟩ := FACTS.out _ w' h
        exact ⟨q0, q1, q2, q3, q4, q5, q6, q7, q8, q9, G, h⟩)
      go_region_held3 (fun w' => w'.cell? ⟨xb, xo + k * 5, none⟩ = some (.string xs) ∧ w'.cell? ⟨xb, xo + k * 5 + 1, none⟩ = some (.int .i64 xa) ∧ w'.cell? ⟨xb, xo + k * 5 + 2, none⟩ = some (.int .i64 xb') ∧ w'.cell? ⟨xb, xo + k * 5 + 3, none⟩ = some (.int .i64 xc') ∧ w'.cell? ⟨xb, xo + k * 5 + 4, none⟩ = some (.int .i64 xd) ∧ w'.cell? ⟨yb, yo + k * 5, none⟩ = some (.string xs) ∧ w'.cell? ⟨yb, yo + k * 5 + 1, none⟩ = some (.int .i64 (-xa)) ∧ w'.cell? ⟨yb, yo + k * 5 + 2, none⟩ = some (.int .i64 (-xb')) ∧ w'.cell? ⟨yb, yo + k * 5 + 3, none⟩ = some (.int .i64 (-xc')) ∧ w'.cell? ⟨yb, yo + k * 5 + 4, none⟩ = some (.int .i64 (-xd)) ∧ ∃ G, St wr G w') (first | exact SK.out _ _ (St.start wr).drew | exact SK.out _ _ ((St.start wr).drew.allocRow _ _) | exact SK.out _ _ (((St.start wr).drew.allocRow _ _).allocRow _ _))
        (fail)
      · have HS := (((St.start wr).allocRow #[.string xs, .int .i64 xa, .int .i64 xb', .int .i64 xc', .int .i64 xd] 47).allocRow #[.string xs, .int .i64 (-xa), .int .i64 (-xb'), .int .i64 (-xc'), .int .i64 (-xd)] 47).drew
        simp only [World.size_alloc] at HS
        have HQ := Lib.hid HS
        obtain ⟨u0, u1, u2, u3, u4⟩ := St.cells5 (HS.front 1)
        obtain ⟨z0, z1, z2, z3, z4⟩ := St.cells5 (HS.front 0)
        clear HS
        generalize World.drew _ = W at *
        rcases HPV.out with hk0 | ⟨k1, q, hkk, hq, hlq⟩
        · have g0 : ¬ (0 : Int) < (k : Int) := by omega
          have g0n : ¬ 0 < k := by omega
          clear hk0
          go_wp2_with fail
          go_quiet (fail)
          go_wp2_with fail
          go_roundw
          case rel => exact ⟨k + 1, hlt, by go_num, Lib.hid (Below.drewN' (HB.out.trans (HQ.out.below.mono HB.out.size)) _)⟩
          case measure => simp [intOf]; omega
        · obtain ⟨pb', po, pc, ep, p0, p1, p2, p3, p4⟩ := RowsAt.at (Reads.grow hr46.out (HB.out.trans (HQ.out.below.mono HB.out.size))) hq
          injection ep with ep ep1 ep2
          injection ep with ep
          injection ep with ep ep3
          subst ep ep3
          subst hkk
          have kk : (0 : Int) < ((k1 + 1 : Nat) : Int) := by omega
          have hq1 : ((k1 + 1 : Nat) : Int) - 1 = (k1 : Int) := by omega
          have k10 : (0 : Int) ≤ (k1 : Int) := Int.natCast_nonneg _
          have k1l : (k1 : Int) < (D.length : Int) := by omega
          have qw : IntKind.i64.wrap (k1 : Int) = (k1 : Int) := IntWalk.i64_in _ (by omega)
          have hbl : Op.bytesLess q.site.toList xs.toList = true := hlq
          obtain ⟨qs, hqs⟩ : ∃ qs, q.site = qs := ⟨_, rfl⟩
          rw [hqs] at hbl p0
          clear hlq hq hqs p1 p2 p3 p4 ep1 ep2 HPV
          go_wp2_with fail
          go_quiet (fail)
          go_wp2_with fail
          go_roundw
          case rel => exact ⟨k1 + 1 + 1, hlt, by go_num, Lib.hid (Below.drewN' (HB.out.trans (HQ.out.below.mono HB.out.size)) _)⟩
          case measure => simp [intOf]; omega
      · have HS := (((St.start wr).allocRow #[.string xs, .int .i64 (-xa), .int .i64 (-xb'), .int .i64 (-xc'), .int .i64 (-xd)] 47).allocRow #[.string xs, .int .i64 xa, .int .i64 xb', .int .i64 xc', .int .i64 xd] 47).drew
        simp only [World.size_alloc] at HS
        have HQ := Lib.hid HS
        obtain ⟨u0, u1, u2, u3, u4⟩ := St.cells5 (HS.front 0)
        obtain ⟨z0, z1, z2, z3, z4⟩ := St.cells5 (HS.front 1)
        clear HS
        generalize World.drew _ = W at *
        rcases HPV.out with hk0 | ⟨k1, q, hkk, hq, hlq⟩
        · have g0 : ¬ (0 : Int) < (k : Int) := by omega
          have g0n : ¬ 0 < k := by omega
          clear hk0
          go_wp2_with fail
          go_quiet (fail)
          go_wp2_with fail
          go_roundw
          case rel => exact ⟨k + 1, hlt, by go_num, Lib.hid (Below.drewN' (HB.out.trans (HQ.out.below.mono HB.out.size)) _)⟩
          case measure => simp [intOf]; omega
        · obtain ⟨pb', po, pc, ep, p0, p1, p2, p3, p4⟩ := RowsAt.at (Reads.grow hr46.out (HB.out.trans (HQ.out.below.mono HB.out.size))) hq
          injection ep with ep ep1 ep2
          injection ep with ep
          injection ep with ep ep3
          subst ep ep3
          subst hkk
          have kk : (0 : Int) < ((k1 + 1 : Nat) : Int) := by omega
          have hq1 : ((k1 + 1 : Nat) : Int) - 1 = (k1 : Int) := by omega
          have k10 : (0 : Int) ≤ (k1 : Int) := Int.natCast_nonneg _
          have k1l : (k1 : Int) < (D.length : Int) := by omega
          have qw : IntKind.i64.wrap (k1 : Int) = (k1 : Int) := IntWalk.i64_in _ (by omega)
          have hbl : Op.bytesLess q.site.toList xs.toList = true := hlq
          obtain ⟨qs, hqs⟩ : ∃ qs, q.site = qs := ⟨_, rfl⟩
          rw [hqs] at hbl p0
          clear hlq hq hqs p1 p2 p3 p4 ep1 ep2 HPV
          go_wp2_with fail
          go_quiet (fail)
          go_wp2_with fail
          go_roundw
          case rel => exact ⟨k1 + 1 + 1, hlt, by go_num, Lib.hid (Below.drewN' (HB.out.trans (HQ.out.below.mono HB.out.size)) _)⟩
          case measure => simp [intOf]; omega
    · have ik1 : ¬ (k : Int) < (D.length : Int) := by omega
      have O1 := Lib.hid (o1.out wr a4 c4 (Reads.grow hr46.out HB.out))
      have HBB := Lib.hid (hb6.out.trans (HB.out.mono hb6.out.size))
      go_wp2_with (first
        | (go_at_call 37; first
            | (refine O1.out.mono ?_; rintro e w7 ⟨rfl, hb7⟩; have hb7' := HBB.out.trans (hb7.mono HBB.out.size); clear hb7 O1)
            | (refine (o2.out _ hb7').mono ?_; rintro e w8 ⟨rfl, hb8⟩; have hb8' := hb7'.trans (hb8.mono hb7'.size); clear hb8 o2)
            | (refine (o3.out _ hb8').mono ?_; rintro e w9 ⟨rfl, hb9⟩; have hb9' := hb8'.trans (hb9.mono hb8'.size); clear hb9 o3))
        | (go_at_call 16; refine (cW.out _ hb9').mono ?_; rintro e w10 ⟨rfl, hb10⟩))
      go_ret
      exact ⟨rfl, hb9'.trans (hb10.mono hb9'.size)⟩
end Go.Proofs.YtcihbmifogfdpaaGreatDoor

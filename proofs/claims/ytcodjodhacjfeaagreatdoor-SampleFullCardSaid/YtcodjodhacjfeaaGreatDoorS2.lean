/-
  A sampler's Malloc and Free, over whatever the heap's do.
-/
import Derived.Test.YtcodjodhacjfeaaGreatDoorS1
import Derived.Deep.QuietTactic
import Derived.BigQuiet
namespace Go.Proofs.YtcodjodhacjfeaaGreatDoor
open Go.RowKit

/-- a sampler in memory, in three parts -/
abbrev smpL (b mk mr : Nat) (hv : Value) (every total : Int) (K : List Smp) (R : List Rw) (F : List HP) : List HP :=
  HP.blk b #[hv, .int .i64 every, .int .i64 total, .map (some mk), .map (some mr)] 43 :: mapP intE mk (kvk K) :: mapP strE mr (kvs R) :: F
theorem smade_yes (w : World) (b p : Nat) (hc : w.cell? ⟨b, 0, none⟩ = some (.pointer (some ⟨p, 0, none⟩))) : Calls Tryz.prog 21 #[.pointer (some ⟨b, 0, none⟩)] w fun e w' => e = .returned (.bool true) ∧ w' = w := by
  go_enter Tryz.func21, Tryz.ntmps21
  go_wp2
  go_ret
  exact ⟨rfl, rfl⟩
section
variable {w0 w : World} {F : List HP} {b mk mr hp : Nat} {every total : Int} {K : List Smp} {R : List Rw}
set_option maxRecDepth 10000 in
set_option maxHeartbeats 4000000 in
theorem smalloc_full (thread size align : Int) (site : ByteArray) (hsz : site.size ≤ 1000) (hsite : isSiteB site = true) (hno : look R site = none) (hfull : 200 ≤ R.length)
    (hs : St w0 (smpL b mk mr (.pointer (some ⟨hp, 0, none⟩)) every total K R F) w) :
    Calls Tryz.prog 7 #[.pointer (some ⟨b, 0, none⟩), .int .i64 thread, .string site, .int .i64 size, .int .i64 align] w fun e w' => e = .returned (.tuple #[.int .i64 0, .int .i64 6]) ∧ St w0 (smpL b mk mr (.pointer (some ⟨hp, 0, none⟩)) every total K R F) w' := by
  have hm : site.size ≤ maxLen := by unfold maxLen; omega
  have cM := Lib.hid (smade_yes w b hp (hs.cell rfl))
  have cI := Lib.hid (isSite_any w site (by omega))
  rw [hsite] at cI
  have HS := Lib.hid hs
  have HM := Lib.hid hm
  have HN := Lib.hid hno
  have HF : Hid ((200 : Int) ≤ ((kvs R).length : Int)) := Lib.hid (by unfold kvs; rw [List.length_map]; omega)
  clear hs hsite hm hno hfull
  go_enter Tryz.func7, Tryz.ntmps7
  go_wp2_with (first
    | (go_at_call 21; refine cM.out.mono ?_; rintro e w1 ⟨rfl, rfl⟩)
    | (go_at_call 22; go_loud (refine cI.out.mono ?_; rintro e w2 ⟨rfl, hb2⟩; have H2 := Lib.hid (HS.out.grow hb2); have c4 := H2.out.cell (i := 4) rfl; have hl2 := (St.lookG (H2.out.front 2) Tryz.underlying41 (zero_row _) (c := site) HM.out).2; rw [getG_kvs, getD_val, isSome_row, HN.out] at hl2; simp only [Option.getD_none, Option.isSome_none, zeroR, Rw.val, strE, strKey] at hl2; have H3 := Lib.hid (H2.out.allocRow #[.string ⟨#[]⟩, .int .i64 0, .int .i64 0, .int .i64 0, .int .i64 0] 63).drop; have c5 := H3.out.cell (i := 4) rfl; have hln := St.lenMap (H3.out.front 2) Tryz.underlying41 3; have hF := HF.out; clear hb2)))
  go_ret2
  exact ⟨rfl, H3.out⟩

/-- what a block that is granted adds, where a mark is passed -/
def addK (K : List Smp) (ad size w : Int) (site : ByteArray) : List Smp := putK K ⟨ad, size, w, site⟩
def moreR (R : List Rw) (w : Int) (site : ByteArray) : List Rw := let r := (look R site).getD (zeroR ⟨#[]⟩); putR R ⟨site, r.a + 1, r.b + w, r.c + 1, r.d + w⟩
theorem look_bnd {R : List Rw} {B : Int} (hB : 0 ≤ B) (h : ∀ r ∈ R, Bnd B r) (s : ByteArray) : Bnd B ((look R s).getD (zeroR ⟨#[]⟩)) := by
  cases hl : look R s with
  | none => exact ⟨⟨by simp [zeroR]; omega, by simp [zeroR]; omega⟩, ⟨by simp [zeroR]; omega, by simp [zeroR]; omega⟩, ⟨by simp [zeroR]; omega, by simp [zeroR]; omega⟩, ⟨by simp [zeroR]; omega, by simp [zeroR]; omega⟩⟩
  | some x => exact h x (lookR_mem hl).1
set_option maxRecDepth 10000 in
set_option maxHeartbeats 8000000 in
theorem smalloc_ok (A : HP) (A' : HP) (thread size align ad : Int) (site : ByteArray) (hsz : site.size ≤ 1000) (hsite : isSiteB site = true) (hroom : (look R site).isSome = true ∨ R.length < 200)
    (had : i64r ad) (m wt : Int) (hm1 : 0 < m) (hm : Int.tdiv (total + size) every - Int.tdiv total every = m) (hwt : m * every = wt) (he : 1 ≤ every ∧ every ≤ 65536) (hT : 0 ≤ total) (hS : 0 ≤ size) (hTS : total + size ≤ 1152921504606846976)
    (hw0 : 0 ≤ wt) (hw1 : wt ≤ 1152921504606846976) (hd0 : 0 ≤ Int.tdiv (total + size) every ∧ Int.tdiv (total + size) every ≤ 1152921504606846976) (hd1 : 0 ≤ Int.tdiv total every ∧ Int.tdiv total every ≤ 1152921504606846976)
    (hwf : SmWf K R) (hbf : ∀ r ∈ forgetR K R ad, Bnd 2305843009213693952 r)
    (hH : ∀ w', St w0 (smpL b mk mr (.pointer (some ⟨hp, 0, none⟩)) every total K R (A :: F)) w' → Calls Tryz.prog 23 #[.pointer (some ⟨hp, 0, none⟩), .int .i64 thread, .int .i64 size, .int .i64 align] w' fun e w'' => e = .returned (.tuple #[.int .i64 ad, .int .i64 0]) ∧ St w0 (smpL b mk mr (.pointer (some ⟨hp, 0, none⟩)) every total K R (A' :: F)) w'')
    (hs : St w0 (smpL b mk mr (.pointer (some ⟨hp, 0, none⟩)) every total K R (A :: F)) w) :
    Calls Tryz.prog 7 #[.pointer (some ⟨b, 0, none⟩), .int .i64 thread, .string site, .int .i64 size, .int .i64 align] w fun e w' => e = .returned (.tuple #[.int .i64 ad, .int .i64 0]) ∧
      St w0 (smpL b mk mr (.pointer (some ⟨hp, 0, none⟩)) every (total + size) (addK (dropK K ad) ad size wt site) (moreR (forgetR K R ad) wt site) (A' :: F)) w' := by
  have hm' : site.size ≤ maxLen := by unfold maxLen; omega
  have cM := Lib.hid (smade_yes w b hp (hs.cell rfl))
  have cI := Lib.hid (isSite_any w site (by omega))
  rw [hsite] at cI
  have HS := Lib.hid hs
  have HM := Lib.hid hm'
  have HW := Lib.hid hwf
  have HA := Lib.hid had
  have HH := Lib.hid hH
  have hx := look_bnd (B := 2305843009213693952) (by decide) hbf site
  have s0 : IntKind.i64.wrap (total + size) = total + size := IntWalk.i64_in _ (by omega)
  have s1 : IntKind.i64.wrap (Int.tdiv (total + size) every) = Int.tdiv (total + size) every := IntWalk.i64_in _ (by omega)
  have s2 : IntKind.i64.wrap (Int.tdiv total every) = Int.tdiv total every := IntWalk.i64_in _ (by omega)
  have s3 : IntKind.i64.wrap (Int.tdiv (total + size) every - Int.tdiv total every) = m := by rw [hm]; exact IntWalk.i64_in _ (by omega)
  have s4 : IntKind.i64.wrap (m * every) = wt := by rw [hwt]; exact IntWalk.i64_in _ (by omega)
  have he0 : ¬ every = 0 := by omega
  have HF : Hid (moreR (forgetR K R ad) wt site = putR (forgetR K R ad) ⟨site, ((look (forgetR K R ad) site).getD (zeroR ⟨#[]⟩)).a + 1, ((look (forgetR K R ad) site).getD (zeroR ⟨#[]⟩)).b + wt, ((look (forgetR K R ad) site).getD (zeroR ⟨#[]⟩)).c + 1, ((look (forgetR K R ad) site).getD (zeroR ⟨#[]⟩)).d + wt⟩) := Lib.hid rfl
  obtain ⟨r, hr⟩ : ∃ r, (look (forgetR K R ad) site).getD (zeroR ⟨#[]⟩) = r := ⟨_, rfl⟩
  rw [hr] at HF hx
  have HR := Lib.hid hr
  obtain ⟨⟨n1, n2⟩, ⟨n3, n4⟩, ⟨n5, n6⟩, ⟨n7, n8⟩⟩ := hx
  obtain ⟨rs, ra, rb, rc, rd⟩ := r
  simp only at n1 n2 n3 n4 n5 n6 n7 n8
  have t1 : IntKind.i64.wrap (ra + 1) = ra + 1 := IntWalk.i64_in _ (by omega)
  have t2 : IntKind.i64.wrap (rb + wt) = rb + wt := IntWalk.i64_in _ (by omega)
  have t3 : IntKind.i64.wrap (rc + 1) = rc + 1 := IntWalk.i64_in _ (by omega)
  have t4 : IntKind.i64.wrap (rd + wt) = rd + wt := IntWalk.i64_in _ (by omega)
  clear hs hsite hm' hwf hbf hH hr n1 n2 n3 n4 n5 n6 n7 n8 hm hwt hT hS hTS hw0 hw1 hd0 hd1 had he
  -- ahead of the test
  rcases hl : look R site with _ | q
  · have HL := Lib.hid hl
    have HRM : Hid (((kvs R).length : Int) < 200) := Lib.hid (by unfold kvs; rw [List.length_map]; rw [hl] at hroom; simp at hroom; omega)
    clear hl hroom
    go_enter Tryz.func7, Tryz.ntmps7
    go_wp2_with (first
      | (go_at_call 21; refine cM.out.mono ?_; rintro e w1 ⟨rfl, rfl⟩)
      | (go_at_call 22; go_loud (refine cI.out.mono ?_; rintro e w2 ⟨rfl, hb2⟩; have H2 := Lib.hid (HS.out.grow hb2); have c4 := H2.out.cell (i := 4) rfl; have hl2 := (St.lookG (H2.out.front 2) Tryz.underlying41 (zero_row _) (c := site) HM.out).2; rw [getG_kvs, getD_val, isSome_row, HL.out] at hl2; simp only [Option.getD_none, Option.isSome_none, zeroR, Rw.val, strE, strKey] at hl2; have H3 := Lib.hid (H2.out.allocRow #[.string ⟨#[]⟩, .int .i64 0, .int .i64 0, .int .i64 0, .int .i64 0] 63).drop; have c5 := H3.out.cell (i := 0) rfl; have c6 := H3.out.cell (i := 4) rfl; have hln := St.lenMap (H3.out.front 2) Tryz.underlying41 3; have hF := HRM.out; clear hb2))
      | (go_at_call 23; go_loud (refine (HH.out _ H3.out).mono ?_; rintro e w4 ⟨rfl, h4⟩; have H4 := Lib.hid h4; clear h4))
      | (go_at_call 24; go_loud (refine (forget_any _ _ _ _ _ _ _ _ _ _ _ _ HA.out HW.out H4.out).mono ?_; rintro e w5 ⟨rfl, h5⟩; have H5 := Lib.hid h5; have d1 := H5.out.cell (i := 1) rfl; have d2 := H5.out.cell (i := 2) rfl; clear h5)))
    go_quiet (fail)
    obtain ⟨n1, hn1⟩ : ∃ n1, n1 = nq := ⟨nq, rfl⟩
    subst hn1
    have H6 := St.set (H5.out.drewN n1) 2 (.int .i64 (total + size))
    have f6 := St.frozen (H5.out.drewN n1) 2
    have d6 := (H5.out.drewN n1).cell (i := 2) rfl
    simp only [List.setIfInBounds_toArray, List.set_cons_succ, List.set_cons_zero] at H6
    obtain ⟨w7, hk7, h7⟩ := St.putMap (H6.front 1) Tryz.underlying40 (c := ad) HA.out (Smp.val ⟨ad, size, wt, site⟩)
    have e7 := putG_kvk (dropK K ad) ⟨ad, size, wt, site⟩
    simp only at e7
    rw [e7] at h7
    simp only [Smp.val, intE, intKey] at hk7
    have H7 := Lib.hid h7
    have k1 := H6.cell (i := 1) rfl
    have k3 := H6.cell (i := 3) rfl
    have l4 := (H7.out.front 1).cell (i := 4) rfl
    have hl7 := (St.lookG (H7.out.front 2) Tryz.underlying41 (zero_row _) (c := site) HM.out).1
    rw [getG_kvs, getD_val, HR.out] at hl7
    simp only [Rw.val, strE, strKey] at hl7
    have H8 := (H7.out.allocRow #[.string site, .int .i64 (ra + 1), .int .i64 (rb + wt), .int .i64 (rc + 1), .int .i64 (rd + wt)] 63).drew
    have g4 := (H8.front 2).cell (i := 4) rfl
    have g0 := H8.row
    obtain ⟨w9, hk9, h9⟩ := St.putMap (H8.front 3) Tryz.underlying41 (c := site) HM.out (Rw.val ⟨site, ra + 1, rb + wt, rc + 1, rd + wt⟩)
    have e9 := putG_row (forgetR K R ad) ⟨site, ra + 1, rb + wt, rc + 1, rd + wt⟩
    simp only at e9
    rw [e9] at h9
    simp only [Rw.val, strE, strKey] at hk9
    have H9 := Lib.hid h9
    clear h7 h9 H6 H8 e7 e9
    go_wp2_with fail
    refine wp_region_tail_drew 6 (by kernel_rfl) (by kernel_rfl) ?_
    simp only [List.take_succ_cons, List.take_zero, List.drop_succ_cons, List.drop_zero]
    repeat still_step
    refine wpStill_nil ?_
    go_wp2_with fail
    go_ret2
    refine ⟨rfl, ?_⟩
    rw [HF.out]
    exact H9.out.pick 4 [3, 2, 0]
  · have HL := Lib.hid hl
    clear hl hroom
    obtain ⟨qs, qa, qb, qc, qd⟩ := q
    go_enter Tryz.func7, Tryz.ntmps7
    go_wp2_with (first
      | (go_at_call 21; refine cM.out.mono ?_; rintro e w1 ⟨rfl, rfl⟩)
      | (go_at_call 22; go_loud (refine cI.out.mono ?_; rintro e w2 ⟨rfl, hb2⟩; have H2 := Lib.hid (HS.out.grow hb2); have c4 := H2.out.cell (i := 4) rfl; have hl2 := (St.lookG (H2.out.front 2) Tryz.underlying41 (zero_row _) (c := site) HM.out).2; rw [getG_kvs, getD_val, isSome_row, HL.out] at hl2; simp only [Option.getD_some, Option.isSome_some, Rw.val, strE, strKey] at hl2; have H3 := Lib.hid (H2.out.allocRow #[.string qs, .int .i64 qa, .int .i64 qb, .int .i64 qc, .int .i64 qd] 63).drop; have c5 := H3.out.cell (i := 0) rfl; clear hb2))
      | (go_at_call 23; go_loud (refine (HH.out _ H3.out).mono ?_; rintro e w4 ⟨rfl, h4⟩; have H4 := Lib.hid h4; clear h4))
      | (go_at_call 24; go_loud (refine (forget_any _ _ _ _ _ _ _ _ _ _ _ _ HA.out HW.out H4.out).mono ?_; rintro e w5 ⟨rfl, h5⟩; have H5 := Lib.hid h5; have d1 := H5.out.cell (i := 1) rfl; have d2 := H5.out.cell (i := 2) rfl; clear h5)))
    go_quiet (fail)
    obtain ⟨n1, hn1⟩ : ∃ n1, n1 = nq := ⟨nq, rfl⟩
    subst hn1
    have H6 := St.set (H5.out.drewN n1) 2 (.int .i64 (total + size))
    have f6 := St.frozen (H5.out.drewN n1) 2
    have d6 := (H5.out.drewN n1).cell (i := 2) rfl
    simp only [List.setIfInBounds_toArray, List.set_cons_succ, List.set_cons_zero] at H6
    obtain ⟨w7, hk7, h7⟩ := St.putMap (H6.front 1) Tryz.underlying40 (c := ad) HA.out (Smp.val ⟨ad, size, wt, site⟩)
    have e7 := putG_kvk (dropK K ad) ⟨ad, size, wt, site⟩
    simp only at e7
    rw [e7] at h7
    simp only [Smp.val, intE, intKey] at hk7
    have H7 := Lib.hid h7
    have k1 := H6.cell (i := 1) rfl
    have k3 := H6.cell (i := 3) rfl
    have l4 := (H7.out.front 1).cell (i := 4) rfl
    have hl7 := (St.lookG (H7.out.front 2) Tryz.underlying41 (zero_row _) (c := site) HM.out).1
    rw [getG_kvs, getD_val, HR.out] at hl7
    simp only [Rw.val, strE, strKey] at hl7
    have H8 := (H7.out.allocRow #[.string site, .int .i64 (ra + 1), .int .i64 (rb + wt), .int .i64 (rc + 1), .int .i64 (rd + wt)] 63).drew
    have g4 := (H8.front 2).cell (i := 4) rfl
    have g0 := H8.row
    obtain ⟨w9, hk9, h9⟩ := St.putMap (H8.front 3) Tryz.underlying41 (c := site) HM.out (Rw.val ⟨site, ra + 1, rb + wt, rc + 1, rd + wt⟩)
    have e9 := putG_row (forgetR K R ad) ⟨site, ra + 1, rb + wt, rc + 1, rd + wt⟩
    simp only at e9
    rw [e9] at h9
    simp only [Rw.val, strE, strKey] at hk9
    have H9 := Lib.hid h9
    clear h7 h9 H6 H8 e7 e9
    go_wp2_with fail
    refine wp_region_tail_drew 6 (by kernel_rfl) (by kernel_rfl) ?_
    simp only [List.take_succ_cons, List.take_zero, List.drop_succ_cons, List.drop_zero]
    repeat still_step
    refine wpStill_nil ?_
    go_wp2_with fail
    go_ret2
    refine ⟨rfl, ?_⟩
    rw [HF.out]
    exact H9.out.pick 4 [3, 2, 0]
end
end Go.Proofs.YtcodjodhacjfeaaGreatDoor

/-
  A sampler's Malloc where no mark is passed.
-/
import Derived.Test.YtcodjodhacjfeaaGreatDoorS2
namespace Go.Proofs.YtcodjodhacjfeaaGreatDoor
open Go.RowKit
section
variable {w0 w : World} {F : List HP} {b mk mr hp : Nat} {every total : Int} {K : List Smp} {R : List Rw}
set_option maxRecDepth 10000 in
set_option maxHeartbeats 8000000 in
theorem smalloc_ok0 (A : HP) (A' : HP) (thread size align ad : Int) (site : ByteArray) (hsz : site.size ≤ 1000) (hsite : isSiteB site = true) (hroom : (look R site).isSome = true ∨ R.length < 200)
    (had : i64r ad) (hm : Int.tdiv (total + size) every - Int.tdiv total every = 0) (he : 1 ≤ every ∧ every ≤ 65536) (hT : 0 ≤ total) (hS : 0 ≤ size) (hTS : total + size ≤ 1152921504606846976)
    (hd0 : 0 ≤ Int.tdiv (total + size) every ∧ Int.tdiv (total + size) every ≤ 1152921504606846976) (hd1 : 0 ≤ Int.tdiv total every ∧ Int.tdiv total every ≤ 1152921504606846976)
    (hwf : SmWf K R)
    (hH : ∀ w', St w0 (smpL b mk mr (.pointer (some ⟨hp, 0, none⟩)) every total K R (A :: F)) w' → Calls Tryz.prog 23 #[.pointer (some ⟨hp, 0, none⟩), .int .i64 thread, .int .i64 size, .int .i64 align] w' fun e w'' => e = .returned (.tuple #[.int .i64 ad, .int .i64 0]) ∧ St w0 (smpL b mk mr (.pointer (some ⟨hp, 0, none⟩)) every total K R (A' :: F)) w'')
    (hs : St w0 (smpL b mk mr (.pointer (some ⟨hp, 0, none⟩)) every total K R (A :: F)) w) :
    Calls Tryz.prog 7 #[.pointer (some ⟨b, 0, none⟩), .int .i64 thread, .string site, .int .i64 size, .int .i64 align] w fun e w' => e = .returned (.tuple #[.int .i64 ad, .int .i64 0]) ∧
      St w0 (smpL b mk mr (.pointer (some ⟨hp, 0, none⟩)) every (total + size) (dropK K ad) (forgetR K R ad) (A' :: F)) w' := by
  have hm' : site.size ≤ maxLen := by unfold maxLen; omega
  have cM := Lib.hid (smade_yes w b hp (hs.cell rfl))
  have cI := Lib.hid (isSite_any w site (by omega))
  rw [hsite] at cI
  have HS := Lib.hid hs
  have HM := Lib.hid hm'
  have HW := Lib.hid hwf
  have HA := Lib.hid had
  have HH := Lib.hid hH
  have s0 : IntKind.i64.wrap (total + size) = total + size := IntWalk.i64_in _ (by omega)
  have s1 : IntKind.i64.wrap (Int.tdiv (total + size) every) = Int.tdiv (total + size) every := IntWalk.i64_in _ (by omega)
  have s2 : IntKind.i64.wrap (Int.tdiv total every) = Int.tdiv total every := IntWalk.i64_in _ (by omega)
  have s3 : IntKind.i64.wrap (Int.tdiv (total + size) every - Int.tdiv total every) = 0 := by rw [hm]; exact IntWalk.i64_in _ (by omega)
  have he0 : ¬ every = 0 := by omega
  clear hs hsite hm' hwf hH hm hT hS hTS hd0 hd1 had he
  -- ahead of the test
  rcases hl : look R site with _ | q
  · have HL := Lib.hid hl
    have HRM : Hid (((kvs R).length : Int) < 200) := Lib.hid (by unfold kvs; rw [List.length_map]; rw [hl] at hroom; simp at hroom; omega)
    clear hl hroom
    go_enter Tryz.func7, Tryz.ntmps7
    go_wp2_with (first
      | (go_at_call 21; refine cM.out.mono ?_; rintro e w1 ⟨rfl, rfl⟩)
      | (go_at_call 22; go_loud (refine cI.out.mono ?_; rintro e w2 ⟨rfl, hb2⟩; have H2 := Lib.hid (HS.out.grow hb2); have c4 := H2.out.cell (i := 4) rfl; have hl2 := (St.lookG (H2.out.front 2) Tryz.underlying41 (zero_row _) (c := site) HM.out).2; rw [getG_kvs, getD_val, isSome_row, HL.out] at hl2; simp only [Option.getD_none, Option.isSome_none, zeroR, Rw.val, strE, strKey] at hl2; have H3 := Lib.hid (H2.out.allocRow #[.string ⟨#[]⟩, .int .i64 0, .int .i64 0, .int .i64 0, .int .i64 0] 63).drop; have c5 := H3.out.cell (i := 0) rfl; have c6 := H3.out.cell (i := 4) rfl; have hln := St.lenMap (H3.out.front 2) Tryz.underlying41 3; have hF := HRM.out; clear hb2))
      | (go_at_call 23; go_loud (refine (HH.out _ H3.out).mono ?_; rintro e w4 ⟨rfl, h4⟩; have H4 := Lib.hid h4; clear h4))
      | (go_at_call 24; go_loud (refine (forget_any _ _ _ _ _ _ _ _ _ _ _ _ HA.out HW.out H4.out).mono ?_; rintro e w5 ⟨rfl, h5⟩; have H5 := Lib.hid h5; have d1 := H5.out.cell (i := 1) rfl; have d2 := H5.out.cell (i := 2) rfl; clear h5)))
    go_quiet (fail)
    obtain ⟨n1, hn1⟩ : ∃ n1, n1 = nq := ⟨nq, rfl⟩
    subst hn1
    have H6 := St.set (H5.out.drewN n1) 2 (.int .i64 (total + size))
    have f6 := St.frozen (H5.out.drewN n1) 2
    have d6 := (H5.out.drewN n1).cell (i := 2) rfl
    simp only [List.setIfInBounds_toArray, List.set_cons_succ, List.set_cons_zero] at H6
    have H6' := Lib.hid H6
    clear H6
    go_wp2_with fail
    go_ret2
    exact ⟨rfl, H6'.out⟩
  · have HL := Lib.hid hl
    clear hl hroom
    obtain ⟨qs, qa, qb, qc, qd⟩ := q
    go_enter Tryz.func7, Tryz.ntmps7
    go_wp2_with (first
      | (go_at_call 21; refine cM.out.mono ?_; rintro e w1 ⟨rfl, rfl⟩)
      | (go_at_call 22; go_loud (refine cI.out.mono ?_; rintro e w2 ⟨rfl, hb2⟩; have H2 := Lib.hid (HS.out.grow hb2); have c4 := H2.out.cell (i := 4) rfl; have hl2 := (St.lookG (H2.out.front 2) Tryz.underlying41 (zero_row _) (c := site) HM.out).2; rw [getG_kvs, getD_val, isSome_row, HL.out] at hl2; simp only [Option.getD_some, Option.isSome_some, Rw.val, strE, strKey] at hl2; have H3 := Lib.hid (H2.out.allocRow #[.string qs, .int .i64 qa, .int .i64 qb, .int .i64 qc, .int .i64 qd] 63).drop; have c5 := H3.out.cell (i := 0) rfl; clear hb2))
      | (go_at_call 23; go_loud (refine (HH.out _ H3.out).mono ?_; rintro e w4 ⟨rfl, h4⟩; have H4 := Lib.hid h4; clear h4))
      | (go_at_call 24; go_loud (refine (forget_any _ _ _ _ _ _ _ _ _ _ _ _ HA.out HW.out H4.out).mono ?_; rintro e w5 ⟨rfl, h5⟩; have H5 := Lib.hid h5; have d1 := H5.out.cell (i := 1) rfl; have d2 := H5.out.cell (i := 2) rfl; clear h5)))
    go_quiet (fail)
    obtain ⟨n1, hn1⟩ : ∃ n1, n1 = nq := ⟨nq, rfl⟩
    subst hn1
    have H6 := St.set (H5.out.drewN n1) 2 (.int .i64 (total + size))
    have f6 := St.frozen (H5.out.drewN n1) 2
    have d6 := (H5.out.drewN n1).cell (i := 2) rfl
    simp only [List.setIfInBounds_toArray, List.set_cons_succ, List.set_cons_zero] at H6
    have H6' := Lib.hid H6
    clear H6
    go_wp2_with fail
    go_ret2
    exact ⟨rfl, H6'.out⟩
end
end Go.Proofs.YtcodjodhacjfeaaGreatDoor

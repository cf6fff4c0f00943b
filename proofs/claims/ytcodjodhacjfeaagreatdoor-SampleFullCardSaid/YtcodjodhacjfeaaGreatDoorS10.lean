/-
  SampleFull: the walk of the law.
-/
import Derived.Test.YtcodjodhacjfeaaGreatDoorS9
namespace Go.Proofs.YtcodjodhacjfeaaGreatDoor
open Go.RowKit Cl

section
variable {w0 w : World} {F : List HP} {b mk mr hp : Nat} {every total : Int} {K : List Smp} {R : List Rw}
set_option maxRecDepth 10000 in
set_option maxHeartbeats 4000000 in
theorem smalloc_fullB (thread size align : Int) (site : ByteArray) (hsz : site.size ≤ 1000) (hsite : isSiteB site = true) (hno : look R site = none) (hfull : 200 ≤ R.length)
    (hs : St w0 (smpL b mk mr (.pointer (some ⟨hp, 0, none⟩)) every total K R F) w) :
    Calls Tryz.prog 7 #[.pointer (some ⟨b, 0, none⟩), .int .i64 thread, .string site, .int .i64 size, .int .i64 align] w fun e w' => e = .returned (.tuple #[.int .i64 0, .int .i64 6]) ∧ St w0 (smpL b mk mr (.pointer (some ⟨hp, 0, none⟩)) every total K R F) w' ∧ Below w.heap.size w w' := by
  have hm : site.size ≤ maxLen := by unfold maxLen; omega
  have cM := Lib.hid (smade_yes w b hp (hs.cell rfl))
  have cI := Lib.hid (isSite_any w site (by omega))
  rw [hsite] at cI
  have HS := Lib.hid hs
  have HM := Lib.hid hm
  have HN := Lib.hid hno
  have HF : Hid ((200 : Int) ≤ ((kvs R).length : Int)) := Lib.hid (by unfold kvs; rw [List.length_map]; omega)
  clear hs hsite hm hno hfull
  go_enter Tryz.func7, Tryz.ntmps7
  go_wp2_with (first
    | (go_at_call 21; refine cM.out.mono ?_; rintro e w1 ⟨rfl, rfl⟩)
    | (go_at_call 22; go_loud (refine cI.out.mono ?_; rintro e w2 ⟨rfl, hb2⟩; have H2 := Lib.hid (HS.out.grow hb2); have HBL := Lib.hid (hb2.alloc hb2.size (.cells #[.string ⟨#[]⟩, .int .i64 0, .int .i64 0, .int .i64 0, .int .i64 0] 63)); have c4 := H2.out.cell (i := 4) rfl; have hl2 := (St.lookG (H2.out.front 2) Tryz.underlying41 (zero_row _) (c := site) HM.out).2; rw [getG_kvs, getD_val, isSome_row, HN.out] at hl2; simp only [Option.getD_none, Option.isSome_none, zeroR, Rw.val, strE, strKey] at hl2; have H3 := Lib.hid (H2.out.allocRow #[.string ⟨#[]⟩, .int .i64 0, .int .i64 0, .int .i64 0, .int .i64 0] 63).drop; have c5 := H3.out.cell (i := 4) rfl; have hln := St.lenMap (H3.out.front 2) Tryz.underlying41 3; have hF := HF.out; clear hb2)))
  go_ret2
  exact ⟨rfl, H3.out, HBL.out⟩
end
set_option maxRecDepth 10000 in
set_option maxHeartbeats 8000000 in
theorem full_walk (size : Int) (hsz : (Lit.int .u8 size).wf = true) (w : World) (hg : Globs w) : Calls Tryz.prog 3 #[.int .u8 size] w fun e w' => e = .returned (.bool true) ∧ Below w.heap.size w w' := by
  have hb8 : 0 ≤ size ∧ size ≤ 255 := by
    simp only [Lit.wf, decide_eq_true_eq, Bool.and_eq_true] at hsz
    exact hsz
  obtain ⟨s, rfl⟩ : ∃ s : Nat, size = (s : Int) := ⟨size.toNat, by omega⟩
  have hs255 : s ≤ 255 := by omega
  have HG := Lib.hid hg
  have cS := Lib.hid (small_st hg (St.start w))
  have cN : Hid (∀ (p : Pl) (w1 : World), p.base = 0 → St w [hpF w p 0] w1 → Calls Tryz.prog 6 #[.pointer (some ⟨p.blk, 0, none⟩), .int .i64 8] w1 fun e w' => ∃ b mk mr : Nat, e = .returned (.tuple #[.pointer (some ⟨b, 0, none⟩), .int .i64 0]) ∧ St w (smpL b mk mr (.pointer (some ⟨p.blk, 0, none⟩)) 8 0 [] [] [hpF w p 0]) w') := Lib.hid fun p w1 hb h => snew_st hg hb h
  clear hg hsz hb8
  go_enter Tryz.func3, Tryz.ntmps3
  go_wp2_with (first
    | (go_at_call 5; go_loud (refine cS.out.mono ?_; rintro e w1 ⟨p, he, h1⟩; have hb : p.base = 0 := (let ⟨_, _, h⟩ := m16; base_of h1 h); rw [hb] at he; subst he; have HB := Lib.hid hb; have H1 := Lib.hid h1; clear hb h1))
    | (go_at_call 6; go_loud (refine (cN.out p _ HB.out H1.out).mono ?_; rintro e w2 ⟨b, mk, mr, rfl, h2⟩; have H2 := Lib.hid h2; clear h2)))
  clear cS cN
  go_loopw [6] (fun i wr => ∃ k : Nat, k ≤ 200 ∧ i = .int .i64 k ∧ Hid (St w (smpL b mk mr (.pointer (some ⟨p.blk, 0, none⟩)) 8 (8 * (k : Int)) [] (rowsF k) [hpF w p k]) wr)) (fun i _ => 200 - (intOf i).toNat)
  case atStart => exact ⟨0, Nat.zero_le _, rfl, H2⟩
  case round =>
    clear H2 H1
    obtain ⟨k, hk, rfl, HS⟩ := hrel
    by_cases hlt : k < 200
    · have ik0 : (0 : Int) ≤ (k : Int) := Int.natCast_nonneg _
      have ik1 : (k : Int) < 200 := by omega
      have hcast : (100 : Int) + (k : Int) = ((100 + k : Nat) : Int) := by omega
      have cD : Hid (∀ w1, Calls Tryz.prog 8 #[.int .i64 (100 + (k : Int))] w1 fun e w' => e = .returned (.string ⟨(Lib.decDigits (100 + k)).toArray⟩) ∧ Below w1.heap.size w1 w') := Lib.hid fun w1 => by rw [hcast]; exact rdig_nat w1 (100 + k) (by omega)
      have hcat := siteD hlt
      have cM : Hid (∀ w1, St w (smpL b mk mr (.pointer (some ⟨p.blk, 0, none⟩)) 8 (8 * (k : Int)) [] (rowsF k) [hpF w p k]) w1 → Calls Tryz.prog 7 #[.pointer (some ⟨b, 0, none⟩), .int .i64 0, .string (siteF k), .int .i64 8, .int .i64 8] w1 fun e w' => e = .returned (.tuple #[.int .i64 4096, .int .i64 0]) ∧ St w (smpL b mk mr (.pointer (some ⟨p.blk, 0, none⟩)) 8 (8 * (k : Int) + 8) [⟨4096, 8, 8, siteF k⟩] (rowsF k ++ [⟨siteF k, 1, 8, 1, 8⟩]) [midF w p k]) w') := Lib.hid fun w1 h => rnd_malloc hlt HG.out HB.out h
      have cF : Hid (∀ w1, St w (smpL b mk mr (.pointer (some ⟨p.blk, 0, none⟩)) 8 (8 * (k : Int) + 8) [⟨4096, 8, 8, siteF k⟩] (rowsF k ++ [⟨siteF k, 1, 8, 1, 8⟩]) [midF w p k]) w1 → Calls Tryz.prog 9 #[.pointer (some ⟨b, 0, none⟩), .int .i64 0, .int .i64 4096] w1 fun e w' => e = .returned (.int .i64 0) ∧ St w (smpL b mk mr (.pointer (some ⟨p.blk, 0, none⟩)) 8 (8 * ((k + 1 : Nat) : Int)) [] (rowsF (k + 1)) [hpF w p (k + 1)]) w') := Lib.hid fun w1 h => rnd_free hlt HG.out HB.out h
      obtain ⟨D, hD⟩ : ∃ D : ByteArray, (⟨(Lib.decDigits (100 + k)).toArray⟩ : ByteArray) = D := ⟨_, rfl⟩
      have hDs : ¬ 9223372036854775807 < 1 + D.size := by rw [← hD, dec3 (by omega) (by omega)]; simp [dig3, ByteArray.size]
      rw [hD] at cD hcat
      generalize siteF k = S at hcat cM cF
      clear hD hcast
      go_wp2_with (first
        | (go_at_call 8; go_loud (refine (cD.out _).mono ?_; rintro e w3 ⟨rfl, h3⟩; have H3 := Lib.hid (HS.out.grow h3); clear h3))
        | (go_at_call 7; go_loud (refine (cM.out _ H3.out).mono ?_; rintro e w4 ⟨rfl, h4⟩; have H4 := Lib.hid h4; clear h4))
        | (go_at_call 9; go_loud (refine (cF.out _ H4.out).mono ?_; rintro e w5 ⟨rfl, h5⟩; have H5 := Lib.hid h5; clear h5)))
      go_roundw
      case rel => exact ⟨k + 1, hlt, by go_num, H5⟩
      case measure => simp [intOf]; omega
    · obtain rfl : k = 200 := by omega
      have HS0 : Hid (St w (smpL b mk mr (.pointer (some ⟨p.blk, 0, none⟩)) 8 1600 [] (rowsF 200) [hpF w p 200]) wr) := Lib.hid (by have := HS.out; exact this)
      clear HS hlt hk
      obtain ⟨q, hq⟩ : ∃ q, s % 32 = q := ⟨_, rfl⟩
      obtain ⟨q2, hq2⟩ : ∃ q2, s % 200 = q2 := ⟨_, rfl⟩
      have hr32 : Int.tmod (s : Int) 32 = (q : Int) := by rw [Int.tmod_eq_emod_of_nonneg (by omega)]; omega
      have hr200 : Int.tmod (s : Int) 200 = (q2 : Int) := by rw [Int.tmod_eq_emod_of_nonneg (by omega)]; omega
      have q32 : q < 32 := by omega
      have q200 : q2 < 200 := by omega
      obtain ⟨ad, A1, A2, had0, had1, cM9, cF9⟩ := fin_st (wr := w) (p := p) HG.out q q32
      have cM9' := fun (w1 : World) (h : St w (smpL b mk mr (.pointer (some ⟨p.blk, 0, none⟩)) 8 1600 [] (rowsF 200) [hpF w p 200]) w1) => last_malloc q32 q200 had1 HB.out (fun h => cM9 h) h
      rw [Int.natCast_add, Int.cast_ofNat_Int] at cM9'
      have cM := Lib.hid cM9'
      have cF : Hid (∀ w1, St w (smpL b mk mr (.pointer (some ⟨p.blk, 0, none⟩)) 8 (1600 + ((q : Int) + 1)) (endK q q2 ad) (endR q q2) [A1]) w1 → Calls Tryz.prog 9 #[.pointer (some ⟨b, 0, none⟩), .int .i64 0, .int .i64 (ad : Int)] w1 fun e w' => e = .returned (.int .i64 0) ∧ Below w.heap.size w w') := Lib.hid fun w1 h => (sfree_ok A1 A2 0 (ad : Int) (by unfold i64r; omega) (endWf q32 q200) (fun w' h' => by
        have := cF9 (h'.pick 4 [3, 0, 1, 2])
        rw [HB.out] at this
        exact this.mono fun e w'' ⟨h1, h2⟩ => ⟨h1, h2.pick 4 [1, 2, 3, 0]⟩) h).mono fun e w' ⟨h1, h2⟩ => ⟨h1, h2.below⟩
      have cZ : Hid (∀ w1, St w (smpL b mk mr (.pointer (some ⟨p.blk, 0, none⟩)) 8 1600 [] (rowsF 200) [hpF w p 200]) w1 → Calls Tryz.prog 7 #[.pointer (some ⟨b, 0, none⟩), .int .i64 0, .string ⟨#[122, 122]⟩, .int .i64 ((q : Int) + 1), .int .i64 8] w1 fun e w' => e = .returned (.tuple #[.int .i64 0, .int .i64 6]) ∧ St w (smpL b mk mr (.pointer (some ⟨p.blk, 0, none⟩)) 8 1600 [] (rowsF 200) [hpF w p 200]) w' ∧ Below w1.heap.size w1 w') := Lib.hid fun w1 h => smalloc_fullB 0 _ 8 ⟨#[122, 122]⟩ (by decide) zz_ok (lookR_no fun r hr e => by
        obtain ⟨j, _, rfl⟩ := rowsF_mem hr
        have := congrArg ByteArray.size e
        rw [show (rowF j).site = siteF j from rfl, siteF_size] at this
        cases this) (by rw [rowsF_len]; exact Nat.le_refl _) h
      have cP : Hid (∀ w1, St w (smpL b mk mr (.pointer (some ⟨p.blk, 0, none⟩)) 8 1600 [] (rowsF 200) [hpF w p 200]) w1 → Calls Tryz.prog 10 #[.pointer (some ⟨b, 0, none⟩)] w1 fun e w' => ∃ (a : Option Addr) (cap : Nat) (O : List Rw), e = .returned (.slice a 200 cap) ∧ (O.length = 200 ∧ RowsAt w' (.slice a O.length cap) O ∧ Srt O ∧ O.Perm (rowsF 200)) ∧ Below w1.heap.size w1 w') := Lib.hid fun w1 h => (sprofile_st (by rw [rowsF_len]; decide) (rowsF_site 200) (rowsF_nodup (Nat.le_refl _)) h).mono fun e w' ⟨v, O, h1, h2, h3, h4, h5⟩ => by
        obtain ⟨⟨a, cap, rfl⟩, h6⟩ := h2.at
        have hl : O.length = 200 := by rw [h4.length_eq, rowsF_len]
        exact ⟨a, cap, O, by rw [h1, hl], ⟨hl, h6, h3, h4⟩, h5⟩
      have cP3 : Hid (∀ w1, St w (smpL b mk mr (.pointer (some ⟨p.blk, 0, none⟩)) 8 (1600 + ((q : Int) + 1)) (endK q q2 ad) (endR q q2) [A1]) w1 → Calls Tryz.prog 10 #[.pointer (some ⟨b, 0, none⟩)] w1 fun e w' => ∃ (a : Option Addr) (cap : Nat), e = .returned (.slice a 200 cap) ∧ Below w1.heap.size w1 w') := Lib.hid fun w1 h => (sprofile_st (by rw [endR_len q q2 q200]; decide) (fun r hr => (endR_mem q32 hr).1) (by rw [endR_site q q2 q200]; exact rowsF_nodup (Nat.le_refl _)) h).mono fun e w' ⟨v, O, h1, h2, h3, h4, h5⟩ => by
        obtain ⟨⟨a, cap, rfl⟩, h6⟩ := h2.at
        have hl : O.length = 200 := by rw [h4.length_eq, endR_len q q2 q200]
        exact ⟨a, cap, by rw [h1, hl], h5⟩
      have cT : Hid (∀ w1, St w (smpL b mk mr (.pointer (some ⟨p.blk, 0, none⟩)) 8 1600 [] (rowsF 200) [hpF w p 200]) w1 → Calls Tryz.prog 11 #[.pointer (some ⟨b, 0, none⟩)] w1 fun e w' => e = .returned (.int .i64 1600) ∧ w' = w1) := Lib.hid fun w1 h => stotal_st h
      have cT3 : Hid (∀ w1, St w (smpL b mk mr (.pointer (some ⟨p.blk, 0, none⟩)) 8 (1600 + ((q : Int) + 1)) (endK q q2 ad) (endR q q2) [A1]) w1 → Calls Tryz.prog 11 #[.pointer (some ⟨b, 0, none⟩)] w1 fun e w' => e = .returned (.int .i64 (1600 + ((q : Int) + 1))) ∧ w' = w1) := Lib.hid fun w1 h => stotal_st h
      have cL : Hid (∀ w1, St w (smpL b mk mr (.pointer (some ⟨p.blk, 0, none⟩)) 8 1600 [] (rowsF 200) [hpF w p 200]) w1 → Calls Tryz.prog 13 #[.pointer (some ⟨p.blk, 0, none⟩)] w1 fun e w' => e = .returned (.slice none 0 0) ∧ St w (smpL b mk mr (.pointer (some ⟨p.blk, 0, none⟩)) 8 1600 [] (rowsF 200) [hpF w p 200]) w') := Lib.hid fun w1 h => by
        have := live_st (h.pick 4 [3, 0, 1, 2])
        rw [HB.out] at this
        exact this.mono fun e w'' ⟨h1, h2⟩ => ⟨h1, h2.pick 4 [1, 2, 3, 0]⟩
      have hcast : (100 : Int) + (q2 : Int) = ((100 + q2 : Nat) : Int) := by omega
      have cD : Hid (∀ w1, Calls Tryz.prog 8 #[.int .i64 (100 + (q2 : Int))] w1 fun e w' => e = .returned (.string ⟨(Lib.decDigits (100 + q2)).toArray⟩) ∧ Below w1.heap.size w1 w') := Lib.hid fun w1 => by rw [hcast]; exact rdig_nat w1 (100 + q2) (by omega)
      have hcat := siteD q200
      obtain ⟨D, hD⟩ : ∃ D : ByteArray, (⟨(Lib.decDigits (100 + q2)).toArray⟩ : ByteArray) = D := ⟨_, rfl⟩
      have hDs : ¬ 9223372036854775807 < 1 + D.size := by rw [← hD, dec3 (by omega) (by omega)]; simp [dig3, ByteArray.size]
      rw [hD] at cD hcat
      obtain ⟨S, hS⟩ : ∃ S, siteF q2 = S := ⟨_, rfl⟩
      rw [hS] at hcat cM
      have iq0 : (0 : Int) ≤ (q : Int) := by omega
      have iq1 : (q : Int) < 32 := by omega
      have iq2 : (0 : Int) ≤ (q2 : Int) := by omega
      have iq3 : (q2 : Int) < 200 := by omega
      have iad : (0 : Int) < (ad : Int) := by omega
      have is0 : (0 : Int) ≤ (s : Int) := by omega
      have is1 : (s : Int) ≤ 255 := by omega
      have cR : Hid (∀ (w1 : World) (a a' : Option Addr) (cap cap' : Nat) (O O' : List Rw), O.length = 200 → O'.length = 200 → O = O' → RowsAt w1 (.slice a O.length cap) O → RowsAt w1 (.slice a' O'.length cap') O' → Calls Tryz.prog 12 #[.slice a 200 cap, .slice a' 200 cap'] w1 fun e w' => e = .returned (.bool true) ∧ Below w1.heap.size w1 w') := Lib.hid fun w1 a a' cap cap' O O' h1 h2 h3 h4 h5 => by
        have := rrows_any w1 a a' cap cap' O O' (by omega) h4 h5
        rw [h1, h2, decide_eq_true h3] at this
        exact this
      have cA : Hid (∀ w1, Below w.heap.size w w1 → Calls Tryz.prog 14 #[] w1 fun e w' => e = .returned (.bool true) ∧ Below w1.heap.size w1 w') := Lib.hid fun w1 h => awake_any (HG.out.grow h)
      clear hD hS hcast hq hq2 cM9 cF9 cM9' q32 q200 had0 had1 hs255
      go_wp2_with (first
        | (go_at_call 14; go_loud (refine (cA.out _ HB14.out).mono ?_; rintro e w15 ⟨rfl, hb15⟩; have HB15 := Lib.hid hb15; clear hb15))
        | (go_at_call 9; refine (cF.out _ HS13.out).mono ?_; rintro e w14 ⟨rfl, hb14⟩; have HB14 := Lib.hid hb14; clear hb14)
        | (go_at_call 10; refine (cP3.out _ HS11.out).mono ?_; rintro e w13 ⟨oa3, oc3, rfl, hb13⟩; have HS13 := Lib.hid (HS11.out.grow hb13); clear hb13)
        | (go_at_call 11; refine (cT3.out _ HS11.out).mono ?_; rintro e w12 ⟨rfl, rfl⟩)
        | (go_at_call 7; refine (cM.out _ HS10.out).mono ?_; rintro e w11 ⟨rfl, h11⟩; have HS11 := Lib.hid h11; clear h11)
        | (go_at_call 8; go_loud (refine (cD.out _).mono ?_; rintro e w10 ⟨rfl, hb10⟩; have HS10 := Lib.hid (HS9.out.grow hb10); clear hb10))
        | (go_at_call 13; go_loud (refine (cL.out _ HS7.out).mono ?_; rintro e w9 ⟨rfl, h9⟩; have HS9 := Lib.hid h9; clear h9))
        | (go_at_call 11; refine (cT.out _ HS7.out).mono ?_; rintro e w8 ⟨rfl, rfl⟩)
        | (go_at_call 12; go_loud (refine (cR.out w6 _ _ _ _ O O2 H3.out.1 H6.out.1 (srt_unique H3.out.2.2.1 H6.out.2.2.1 (H3.out.2.2.2.trans H6.out.2.2.2.symm)) H56.out H6.out.2.1).mono ?_; rintro e w7 ⟨rfl, hb7⟩; have HS7 := Lib.hid (HS6.out.grow hb7); clear hb7))
        | (go_at_call 10; refine (cP.out _ HS5.out).mono ?_; rintro e w6 ⟨oa2, oc2, O2, rfl, h6, hb6⟩; have H6 := Lib.hid h6; have HS6 := Lib.hid (HS5.out.grow hb6); have H56 := Lib.hid (Reads.grow H5.out hb6); clear h6 hb6)
        | (go_at_call 7; go_loud (refine (cZ.out _ HS3.out).mono ?_; rintro e w5 ⟨rfl, h5, hb5⟩; have HS5 := Lib.hid h5; have H5 := Lib.hid (Reads.grow H3.out.2.1 hb5); clear h5 hb5))
        | (go_at_call 11; refine (cT.out _ HS3.out).mono ?_; rintro e w4 ⟨rfl, rfl⟩)
        | (go_at_call 10; refine (cP.out _ HS0.out).mono ?_; rintro e w3 ⟨oa, oc, O, rfl, h3, hb3⟩; have H3 := Lib.hid h3; have HS3 := Lib.hid (HS0.out.grow hb3); clear h3 hb3))
      go_ret
      exact ⟨rfl, HB14.out.trans (HB15.out.mono HB14.out.size)⟩
end Go.Proofs.YtcodjodhacjfeaaGreatDoor

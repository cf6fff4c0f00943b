/-
  The law CacheStack.
-/
import Derived.Test.YtaejojbdkgccpaaC26
namespace Go.Proofs.Ytaejojbdkgccpaa
open Go.RowKit Go.Maps Go.ChangeMaps

theorem St.below_of {w w' : World} {L : List HP} (h : St w L w') : Below w.heap.size w w' := h.1
theorem acts_ok {acts : List ActV} (h : greatB acts = false) : acts.length ≤ 60 ∧ ∀ x ∈ acts, x.l.length ≤ 300 := great_no h
theorem mk_ok {tb : List Cls} {bud : Int} (h : mkOk tb bud) (acts : List ActV) : tbOk tb ∧ ∀ k, (actsS tb newS acts k).ok := ⟨h.1.tb, actsS_ok h.1.tb acts newS_ok⟩

set_option maxRecDepth 10000 in
set_option maxHeartbeats 4000000 in
theorem stack_walk (a : Option Addr) (cap : Nat) (tb : List Cls) (bud : Int) (_w1 : (Lit.int .i64 bud).wf = true) (a2 : Option Addr) (cap2 : Nat) (acts : List ActV) (cls : Int) (_w2 : (Lit.int .i64 cls).wf = true) (w : World)
    (ht : Reads w 3 (.slice a tb.length cap) tb.length (clsC tb)) (_hn : tb.length ≤ 9223372036854775807) (h : ActsAt w (.slice a2 acts.length cap2) acts) (hn2 : acts.length ≤ 9223372036854775807) :
    Calls Try.prog 3 #[.slice a tb.length cap, .int .i64 bud, .slice a2 acts.length cap2, .int .i64 cls] w fun e w' => e = .returned (.bool true) ∧ Below w.heap.size w w' := by
  have GR := Lib.hid (great_any w a2 cap2 acts h hn2)
  have AL := Lib.hid fun w1 (L : List HP) (h1 : St w L w1) => alive_any w w1 L h1
  cases hg : greatB acts with
  | true =>
    rw [hg] at GR
    clear h ht hg
    go_enter Try.func3, Try.ntmps3
    go_wp2_with fail
    refine GR.out.mono ?_
    rintro e w' ⟨rfl, rfl⟩
    go_wp2_with fail
    refine (AL.out w [] (St.start w)).mono ?_
    rintro e w1 ⟨rfl, h1⟩
    go_wp2_with fail
    go_ret
    exact ⟨rfl, h1.1⟩
  | false =>
  obtain ⟨n60, n300⟩ := acts_ok hg
  rw [hg] at GR
  have MD := Lib.hid (made_any w w [] (St.start w) a cap tb (fun G w' h => h.reads0 ht) bud a2 cap2 acts h n60 n300)
  clear h ht hg n300
  go_enter Try.func3, Try.ntmps3
  go_wp2_with fail
  refine GR.out.mono ?_
  rintro e w' ⟨rfl, rfl⟩
  go_wp2_with fail
  refine MD.out.mono ?_
  rintro e w1 (⟨_, rfl, h1⟩ | ⟨hmk, c, rfl, h1⟩)
  · have H1 := Lib.hid h1
    clear h1
    go_wp2_with fail
    refine (AL.out w1 [] H1.out).mono ?_
    rintro e w1 ⟨rfl, h1⟩
    go_wp2_with fail
    go_ret
    exact ⟨rfl, h1.1⟩
  obtain ⟨T, OK⟩ := mk_ok hmk acts
  have T := Lib.hid T
  have OK := Lib.hid OK
  have H1 := Lib.hid h1
  have hN := T.out.2.1
  clear h1 hmk MD GR
  generalize actsS tb newS acts = s at *
  by_cases hin : inC tb.length cls
  rotate_left
  · have O := Lib.hid (objects_out w w1 [] c tb bud s H1.out cls hin)
    have K := Lib.hid (take_out w w1 [] c tb bud s H1.out cls hin)
    by_cases h0 : cls < 0
    · have j0 : decide (cls < 0) = true := decide_eq_true h0
      clear hin h0
      go_wp2_with fail
      refine O.out.mono ?_
      rintro e w' ⟨rfl, rfl⟩
      go_wp2_with fail
      refine K.out.mono ?_
      rintro e w' ⟨rfl, rfl⟩
      go_wp2_with fail
      refine (AL.out w1 _ H1.out).mono ?_
      rintro e w1 ⟨rfl, h1⟩
      go_wp2_with fail
      go_ret
      exact ⟨rfl, h1.1⟩
    · have j0 : decide (cls < 0) = false := decide_eq_false h0
      have j1 : decide ((tb.length : Int) ≤ cls) = true := decide_eq_true (by unfold inC at hin; omega)
      clear hin h0
      go_wp2_with fail
      refine O.out.mono ?_
      rintro e w' ⟨rfl, rfl⟩
      go_wp2_with fail
      refine K.out.mono ?_
      rintro e w' ⟨rfl, rfl⟩
      go_wp2_with fail
      refine (AL.out w1 _ H1.out).mono ?_
      rintro e w1 ⟨rfl, h1⟩
      go_wp2_with fail
      go_ret
      exact ⟨rfl, h1.1⟩
  obtain ⟨e1, e2⟩ := inC_nat hin
  generalize cls.toNat = k at *
  subst e1
  have j0 : decide ((k : Int) < 0) = false := decide_eq_false (by omega)
  have j1 : decide ((tb.length : Int) ≤ (k : Int)) = false := decide_eq_false (by omega)
  have okk := OK.out k
  have hl256 := okk.2.2.2
  have O := Lib.hid (objects_in w w1 [] c tb bud s k hN okk H1.out e2)
  have K := Lib.hid fun w2 (L : List HP) (h2 : St w (cacheP c tb bud s :: L) w2) => take_in w w2 L c tb bud s T.out h2 k e2 okk
  clear hin
  obtain ⟨l, hlx⟩ : ∃ l, (s k).objs = l := ⟨_, rfl⟩
  obtain ⟨B, hBx⟩ : ∃ B, Bt tb k = B := ⟨_, rfl⟩
  have hB := Bt_range T.out k
  rw [hBx] at K hB
  rw [hlx] at O hl256
  generalize hy : s k = y at *
  by_cases hz : l.length = 0
  · have E1 : y.takeE = 4 := if_pos (by rw [hlx]; exact hz)
    have E2 : y.takeV = 0 := by
      have : y.objs = [] := List.eq_nil_of_length_eq_zero (by rw [hlx]; exact hz)
      unfold CL.takeV
      rw [this]
      rfl
    rw [E1, E2] at K
    clear E1 E2 hlx hy okk
    go_wp2_with fail
    refine O.out.mono ?_
    rintro e w2 ⟨a4, c4, rfl, h2⟩
    have h2 := h2.drop
    go_wp2_with fail
    refine (K.out w2 [] h2).mono ?_
    rintro e w3 ⟨rfl, h3⟩
    go_wp2_with fail
    refine (AL.out w3 _ h3).mono ?_
    rintro e w1 ⟨rfl, h1⟩
    go_wp2_with fail
    go_ret
    exact ⟨rfl, h1.1⟩
  have hzb : ((l.length : Int) == 0) = false := by rw [beq_eq_false_iff_ne]; omega
  obtain ⟨z, hzz⟩ : ∃ z, l[l.length - 1]? = some z := ⟨l[l.length - 1]'(by omega), List.getElem?_eq_getElem (by omega)⟩
  have E1 : y.takeE = 0 := if_neg (by rw [hlx]; exact hz)
  have E2 : y.takeV = z := by unfold CL.takeV; rw [hlx, List.getLast?_eq_getElem?, hzz]; rfl
  obtain ⟨y2, hy2⟩ : ∃ y2, y.takeF B = y2 := ⟨_, rfl⟩
  have ok2 : y2.ok := by rw [← hy2]; exact CL.ok_take okk hB
  have hy2o : y2.objs = l.take (l.length - 1) := by rw [← hy2]; unfold CL.takeF; rw [hlx, if_neg hz]
  rw [E1, E2, hy2] at K
  obtain ⟨s2, hs2⟩ : ∃ s2, updC s k y2 = s2 := ⟨_, rfl⟩
  have hs2k : s2 k = y2 := by rw [← hs2]; exact updC_same _ _ _
  rw [hs2] at K
  have O2 := Lib.hid fun w2 (L : List HP) (h2 : St w (cacheP c tb bud s2 :: L) w2) => objects_in w w2 L c tb bud s2 k hN (by rw [hs2k]; exact ok2) h2 e2
  rw [hs2k, hy2o] at O2
  have hlt : (l.take (l.length - 1)).length = l.length - 1 := by rw [List.length_take]; omega
  rw [hlt] at O2
  have FE : y2.fillE [z] = 0 := by unfold CL.fillE; rw [hy2o, hlt]; exact if_neg (by simp; omega)
  obtain ⟨y3, hy3⟩ : ∃ y3, y2.fillF [z] = y3 := ⟨_, rfl⟩
  have hy3o : y3.objs = l := by
    rw [← hy3]
    unfold CL.fillF
    rw [hy2o, hlt, if_neg (by simp; omega)]
    show l.take (l.length - 1) ++ [z] = l
    have h9 := List.take_add_one (l := l) (i := l.length - 1)
    rw [hzz, show l.length - 1 + 1 = l.length by omega, List.take_of_length_le (Nat.le_refl _)] at h9
    exact h9.symm
  have ok3 : y3.ok := by rw [← hy3]; exact CL.ok_fill ok2 _
  have FL := Lib.hid fun w2 (L : List HP) (a9 : Option Addr) (c9 : Nat) (h2 : St w (cacheP c tb bud s2 :: L) w2) (hr : ∀ (G : List HP) w', St w (G ++ L) w' → Reads w' 1 (.slice a9 [z].length c9) [z].length (intsC [z])) => fill_in w w2 L c tb bud s2 hN h2 k e2 (by rw [hs2k]; exact ok2) a9 c9 [z] hr (by simp)
  rw [hs2k, FE, hy3] at FL
  obtain ⟨s3, hs3⟩ : ∃ s3, updC s2 k y3 = s3 := ⟨_, rfl⟩
  have hs3k : s3 k = y3 := by rw [← hs3]; exact updC_same _ _ _
  rw [hs3] at FL
  have O3 := Lib.hid fun w2 (L : List HP) (h2 : St w (cacheP c tb bud s3 :: L) w2) => objects_in w w2 L c tb bud s3 k hN (by rw [hs3k]; exact ok3) h2 e2
  rw [hs3k, hy3o] at O3
  have HZ := Lib.hid hzz
  have q0 : IntKind.i64.wrap ((l.length : Int) - 1) = ((l.length - 1 : Nat) : Int) := by rw [IntWalk.i64_in _ (by omega)]; omega
  have q1 : (0 : Int) ≤ ((l.length - 1 : Nat) : Int) := by omega
  have q2 : ((l.length - 1 : Nat) : Int) < (l.length : Int) := by omega
  clear E1 E2 hlx hy okk hy2 hy3 hs2 hs3 hs2k hs3k hy2o hy3o ok2 ok3 FE hzz hBx hB
  go_wp2_with fail
  refine O.out.mono ?_
  rintro e w2 ⟨a4, c4, rfl, h2⟩
  go_wp2_with fail
  refine (K.out w2 _ h2.swap).mono ?_
  rintro e w3 ⟨rfl, h3⟩
  obtain ⟨ob, oo, oc, hov, hoc, hocl⟩ := Reads.lies (HP.arr_reads (h3.front 1)) (by omega)
  injection hov with e3 _ e4
  subst e3 e4
  have z0 := hocl (l.length - 1) (.int .i64 z) (by unfold intsC; rw [List.getElem?_map, HZ.out]; rfl)
  have H3 := Lib.hid h3.drew
  have q3 : ((l.length - 1 : Nat) : Int) ≤ (c4 : Int) := by omega
  clear hocl
  go_wp2_with fail
  have CO : Hid (∀ w9 (A B : HP), St w (A :: B :: intsP (.slice (some ⟨ob, oo, none⟩) l.length c4) l :: []) w9 → w9.cell? ⟨ob, oo + (l.length - 1), none⟩ = some (.int .i64 z)) := Lib.hid fun w9 A B g => by
    obtain ⟨b', o', c', hv, _, hc⟩ := Reads.lies (HP.arr_reads (g.front 2)) (by omega)
    cases hv
    exact hc (l.length - 1) (.int .i64 z) (by unfold intsC; rw [List.getElem?_map, HZ.out]; rfl)
  have HLT := Lib.hid hlt
  have IN : Hid (∀ w4 a5 c5, St w (intsP (.slice a5 (l.length - 1) c5) (l.take (l.length - 1)) :: cacheP c tb bud s2 :: intsP (.slice (some ⟨ob, oo, none⟩) l.length c4) l :: []) w4 →
      Calls Try.prog 19 #[.slice a5 (l.length - 1) c5, .slice (some ⟨ob, oo, none⟩) (l.length - 1) c4] w4 fun e w' => e = .returned (.bool true) ∧ ∃ n, w' = w4.drewN n) := Lib.hid fun w4 a5 c5 g => by
    have r1 := HP.arr_reads g
    rw [HLT.out] at r1
    have r2 := (HP.arr_reads (g.front 2)).take1 (k := l.length - 1) (by omega)
    rw [intsC_take] at r2
    exact Ints_is w4 true a5 _ (l.length - 1) c5 c4 (l.take (l.length - 1)) (l.take (l.length - 1)) HLT.out HLT.out (decide_eq_true rfl) r1 r2 (by omega)
  have FP : Hid (∀ w4 n a5 c5, St w (intsP (.slice a5 (l.length - 1) c5) (l.take (l.length - 1)) :: cacheP c tb bud s2 :: intsP (.slice (some ⟨ob, oo, none⟩) l.length c4) l :: []) w4 →
      St w (cacheP c tb bud s2 :: HP.arr 3 1 (.slice (some ⟨w4.heap.size, 0, none⟩) 1 1) 1 [.int .i64 z] :: intsP (.slice (some ⟨ob, oo, none⟩) l.length c4) l :: []) ((w4.drewN n).alloc (.cells #[.int .i64 z] 3))) := Lib.hid fun w4 n a5 c5 g =>
    ((g.drewN n).newArr 3 1 1 [.int .i64 z] rfl (by decide)).pick 4 [2, 0, 3]
  have FR : Hid (∀ (b9 : Nat) (G : List HP) w', St w (G ++ (HP.arr 3 1 (.slice (some ⟨b9, 0, none⟩) 1 1) 1 [.int .i64 z] :: intsP (.slice (some ⟨ob, oo, none⟩) l.length c4) l :: [])) w' → Reads w' 1 (.slice (some ⟨b9, 0, none⟩) [z].length 1) [z].length (intsC [z])) := Lib.hid fun b9 G w' g =>
    HP.arr_reads (g.perm (L' := HP.arr 3 1 (.slice (some ⟨b9, 0, none⟩) 1 1) 1 [.int .i64 z] :: (G ++ (intsP (.slice (some ⟨ob, oo, none⟩) l.length c4) l :: []))) (by simp only [HP.big, HP.big_append]; ac_rfl))
  clear hlt
  go_region_held3 (fun w' => w'.cell? ⟨ob, oo + (l.length - 1), none⟩ = some (.int .i64 z)) (first | exact CO.out _ _ _ h6 | exact CO.out _ _ _ h4 | go_keep)
    (first
      | (go_at_call 17; refine (O2.out _ _ H3.out).mono ?_; rintro e w4 ⟨a5, c5, rfl, h4⟩)
      | (go_at_call 19; refine (IN.out _ _ _ h4).mono ?_; rintro e w5 ⟨rfl, n5, rfl⟩; have h5 := FP.out _ n5 _ _ h4)
      | (go_at_call 20; refine (FL.out _ _ _ _ h5 (FR.out _)).mono ?_; rintro e w6 ⟨rfl, h6⟩))
  all_goals go_wp2_with fail
  refine (O3.out _ _ h6).mono ?_
  rintro e w7 ⟨a7, c7, rfl, h7⟩
  go_wp2_with fail
  refine (Ints_is w7 true a7 _ l.length c7 c4 l l rfl rfl (decide_eq_true rfl) (HP.arr_reads h7) (HP.arr_reads (h7.front 3)) (by omega)).mono ?_
  rintro e w8 ⟨rfl, n8, rfl⟩
  have H8 := Lib.hid (h7.drewN n8)
  go_wp2_with fail
  refine (AL.out _ _ H8.out).mono ?_
  rintro e w9 ⟨rfl, h9⟩
  go_wp2_with fail
  go_ret
  exact ⟨rfl, h9.1⟩
end Go.Proofs.Ytaejojbdkgccpaa

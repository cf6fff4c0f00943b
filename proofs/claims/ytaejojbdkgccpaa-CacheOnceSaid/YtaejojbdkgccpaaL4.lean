/-
  The law CacheDrains. (Printed by mkL4.py.)
-/
import Derived.Test.YtaejojbdkgccpaaL3
namespace Go.Proofs.Ytaejojbdkgccpaa
open Go.RowKit Go.Maps Go.ChangeMaps

theorem bats_snoc {w0 w : World} {F : List HP} {v : Value} {zs : List BO} {z : BO} (h : St w0 (HP.arr 48 2 v (zs.length + 1) (batC (zs.map BO.bat) ++ [.int .i64 (z.c : Int), z.v]) :: z.P :: (zs.map BO.P ++ F)) w) : St w0 (batsZ v (zs ++ [z]) :: F) w := by
  have ez : (zs ++ [z]).length = zs.length + 1 := by rw [List.length_append]; rfl
  refine h.perm ?_
  simp only [HP.big, HP.big_append, batsZ, List.map_append, List.map_cons, List.map_nil, ez, batC, List.flatMap_append, List.flatMap_cons, List.flatMap_nil, List.append_nil]
  simp only [BO.bat, encB, HP.sep_emp]
  ac_rfl
def limL (s : Nat → CL) (n : Nat) : List Int := (List.range n).map fun i => ((s i).lim : Int)
theorem limL_len (s : Nat → CL) (n : Nat) : (limL s n).length = n := by simp [limL]
theorem limL_succ (s : Nat → CL) (n : Nat) : limL s (n + 1) = limL s n ++ [((s n).lim : Int)] := by simp [limL, List.range_succ]
theorem limL_get {s : Nat → CL} {n i : Nat} (h : i < n) : (limL s n)[i]? = some ((s i).lim : Int) := by simp [limL, h]
theorem outB_yes {fL : CL → List Int} {s : Nat → CL} {n : Nat} (h : 0 < (fL (s n)).length) : outB fL s (n + 1) = outB fL s n ++ [(n, fL (s n))] := by
  unfold outB
  rw [List.range_succ, List.filterMap_append]
  simp [h]
theorem outB_no {fL : CL → List Int} {s : Nat → CL} {n : Nat} (h : ¬ 0 < (fL (s n)).length) : outB fL s (n + 1) = outB fL s n := by
  unfold outB
  rw [List.range_succ, List.filterMap_append]
  simp [h]
theorem ints_at {w0 w : World} {F : List HP} {v : Value} {l : List Int} (h : St w0 (intsP v l :: F) w) {k : Nat} {x : Int} (hx : l[k]? = some x) : ∃ b off cap, v = .slice (some ⟨b, off, none⟩) l.length cap ∧ w.cell? ⟨b, off + k, none⟩ = some (.int .i64 x) := by
  have hk := (List.getElem?_eq_some_iff.1 hx).1
  obtain ⟨b, off, cap, hv, _, hc⟩ := Reads.lies (HP.arr_reads h) (by omega)
  exact ⟨b, off, cap, hv, hc k _ (by unfold intsC; rw [List.getElem?_map, hx]; rfl)⟩

set_option maxRecDepth 10000 in
set_option maxHeartbeats 4000000 in
theorem drains_walk (a : Option Addr) (cap : Nat) (tb : List Cls) (bud : Int) (_w1 : (Lit.int .i64 bud).wf = true) (a2 : Option Addr) (cap2 : Nat) (acts : List ActV) (w : World)
    (ht : Reads w 3 (.slice a tb.length cap) tb.length (clsC tb)) (_hn : tb.length ≤ 9223372036854775807) (h : ActsAt w (.slice a2 acts.length cap2) acts) (hn2 : acts.length ≤ 9223372036854775807) :
    Calls Try.prog 10 #[.slice a tb.length cap, .int .i64 bud, .slice a2 acts.length cap2] w fun e w' => e = .returned (.bool true) ∧ Below w.heap.size w w' := by
  have GR := Lib.hid (great_any w a2 cap2 acts h hn2)
  have AL := Lib.hid fun w1 (L : List HP) (h1 : St w L w1) => alive_any w w1 L h1
  cases hg : greatB acts with
  | true =>
    rw [hg] at GR
    clear h ht hg
    go_enter Try.func10, Try.ntmps10
    go_wp2_with fail
    refine GR.out.mono ?_
    rintro e w' ⟨rfl, rfl⟩
    go_wp2_with fail
    refine (AL.out w _ (St.start w)).mono ?_
    rintro e w1 ⟨rfl, h1⟩
    go_wp2_with fail
    go_ret
    exact ⟨rfl, h1.1⟩
  | false =>
  obtain ⟨n60, n300⟩ := acts_ok hg
  rw [hg] at GR
  have MD := Lib.hid (made_any w w [] (St.start w) a cap tb (fun G w' h => h.reads0 ht) bud a2 cap2 acts h n60 n300)
  have HT := Lib.hid ht
  clear h ht hg n300
  go_enter Try.func10, Try.ntmps10
  go_wp2_with fail
  refine GR.out.mono ?_
  rintro e w' ⟨rfl, rfl⟩
  go_wp2_with fail
  refine MD.out.mono ?_
  rintro e w1 (⟨_, rfl, h1⟩ | ⟨hmk, c, rfl, h1⟩)
  · have H1 := Lib.hid h1
    clear h1
    go_wp2_with fail
    refine (AL.out w1 _ H1.out).mono ?_
    rintro e w1 ⟨rfl, h1⟩
    go_wp2_with fail
    go_ret
    exact ⟨rfl, h1.1⟩
  obtain ⟨T, OK⟩ := mk_ok hmk acts
  have T' := Lib.hid T
  clear T
  have T := T'
  clear T'
  have OK' := Lib.hid OK
  clear OK
  have OK := OK'
  clear OK'
  have H1 := Lib.hid h1
  have hN := T.out.2.1
  have BUD := Lib.hid hmk.2
  have TAB := Lib.hid hmk.1
  clear h1 hmk MD GR
  generalize actsS tb newS acts = s at *
  obtain ⟨i0, hi, hz0, hz1, hz2⟩ := info_parts info3
  have HI := Lib.hid hi
  have Z0 := Lib.hid hz0
  have Z1 := Lib.hid hz1
  have Z2 := Lib.hid hz2
  obtain ⟨j0, hj, hy0, hy1, hy2⟩ := info_parts info48
  have JI := Lib.hid hj
  have Y0 := Lib.hid hy0
  have Y1 := Lib.hid hy1
  have Y2 := Lib.hid hy2
  clear hi hz0 hz1 hz2 hj hy0 hy1 hy2
  go_wp2_with fail
  go_loopw [8, 9, 10] (fun wt lm i wr => ∃ k : Nat, k ≤ tb.length ∧ i = .int .i64 k ∧ ∃ aw cw al cl, wt = .slice aw (drainB s k).length cw ∧ lm = .slice al k cl ∧ Hid (St w (batsP wt (drainB s k) :: intsP lm (limL s k) :: cacheP c tb bud s :: []) wr)) (fun _ _ i _ => tb.length - (intOf i).toNat)
  case atStart =>
    refine ⟨0, Nat.zero_le _, rfl, none, 0, none, 0, rfl, rfl, Lib.hid ?_⟩
    refine St.ex.2 ⟨⟨[], rfl⟩, ?_⟩
    have h2 := (H1.out.arr_nil 3 1).arr_nil 48 2
    refine h2.perm ?_
    simp only [HP.big, batsZ, List.map_nil, HP.sep_emp, List.length_nil, batC, List.flatMap_nil, intsP, limL, List.range_zero, intsC]
  case round =>
    clear H1
    obtain ⟨k, hk, rfl, aw, cw, al, cl, rfl, rfl, HS⟩ := hrel
    by_cases hlt : k < tb.length
    · have LN := Lib.hid (len_in w wr _ c tb bud s k hN (OK.out k) (HS.out.front 2) hlt)
      by_cases hpos : 0 < (s k).objs.length
      · have p0 : decide ((0 : Int) < ((s k).objs.length : Int)) = true := decide_eq_true (by omega)
        have p0' : decide (0 < (s k).objs.length) = true := decide_eq_true hpos
        have OB := Lib.hid fun w9 (L : List HP) (g : St w (cacheP c tb bud s :: L) w9) => objects_in w w9 L c tb bud s k hN (OK.out k) g hlt
        have EY := Lib.hid (outB_yes (fL := CL.objs) (s := s) (n := k) hpos)
        clear hpos
        go_wp2_with fail
        refine LN.out.mono ?_
        rintro e w3 ⟨rfl, h3⟩
        have H3 : Hid (St w (cacheP c tb bud s :: batsP (.slice aw (drainB s k).length cw) (drainB s k) :: intsP (.slice al k cl) (limL s k) :: []) w3) := Lib.hid h3
        clear h3
        go_wp2_with fail
        refine (OB.out _ _ H3.out).mono ?_
        rintro e w4 ⟨a4, c4, rfl, g4⟩
        obtain ⟨⟨zs, hzs⟩, g4⟩ := St.ex.1 (g4.front 2)
        have hzl : (drainB s k).length = zs.length := by rw [← hzs, List.length_map]
        have hzk : zs.length ≤ 40 := by rw [← hzl]; exact Nat.le_trans (outB_len _ _ _) (by omega)
        rw [hzl] at g4 ⊢
        have g3 : St w (HP.arr 48 2 (.slice aw zs.length cw) zs.length (batC (zs.map BO.bat)) :: (zs.map BO.P ++ (intsP (.slice a4 (s k).objs.length c4) (s k).objs :: cacheP c tb bud s :: intsP (.slice al k cl) (limL s k) :: []))) w4 := (bats_arr g4).perm (by simp only [HP.big, HP.big_append, List.eraseIdx_cons_succ, List.eraseIdx_cons_zero])
        have g6 := g3.newArr 48 2 1 [.int .i64 (k : Int), .slice a4 (s k).objs.length c4] rfl (by decide)
        have hr := Lib.hid (HP.arr_reads g6)
        have g5 := Lib.hid g6.swap
        have HZ := Lib.hid hzs
        clear g3 g4 g6 hzs hzl
        go_wp2_with (at_builtin; refine wpList_append_st rfl _ _ 45 rfl 48 j0 _ 2 32 Try.underlying45 JI.out Y0.out Y1.out Y2.out rfl _ _ rfl rfl zs.length (batC (zs.map BO.bat)) g5.out 1 [.int .i64 (k : Int), .slice a4 (s k).objs.length c4] hr.out (by intro u hu; simp at hu; rcases hu with rfl | rfl <;> rfl) (by unfold maxLen; omega) (by omega) ?_; intro v' w' hs' hv'; obtain ⟨a3, cap3, rfl⟩ := (HP.arr_reads hs').form; have HS9 := Lib.hid hs'; clear hs' hv')
        have g7 : St w (batsP (.slice a3 (zs.length + 1) cap3) (drainB s (k + 1)) :: intsP (.slice al k cl) (limL s k) :: cacheP c tb bud s :: []) w' := by
          have h9 := HS9.out.swap.drop
          have h10 : St w (batsZ (.slice a3 (zs.length + 1) cap3) (zs ++ [⟨k, .slice a4 (s k).objs.length c4, (s k).objs⟩]) :: (intsP (.slice al k cl) (limL s k) :: cacheP c tb bud s :: [])) w' := bats_snoc (z := ⟨k, .slice a4 (s k).objs.length c4, (s k).objs⟩) (h9.perm (by simp only [HP.big, HP.big_append, BO.P]; ac_rfl))
          refine St.ex.2 ⟨⟨_, ?_⟩, h10⟩
          rw [List.map_append, HZ.out]
          exact EY.out.symm
        have LE : Hid ((drainB s (k + 1)).length = zs.length + 1) := Lib.hid (by
          have e : drainB s (k + 1) = drainB s k ++ [(k, (s k).objs)] := EY.out
          rw [e, List.length_append, ← HZ.out, List.length_map]
          rfl)
        have g7b : St w (cacheP c tb bud s :: batsP (.slice a3 (zs.length + 1) cap3) (drainB s (k + 1)) :: intsP (.slice al k cl) (limL s k) :: []) _ := g7.front 2
        have LM := Lib.hid (limit_in w _ _ c tb bud s hN g7b k hlt)
        go_wp2_with fail
        refine LM.out.mono ?_
        rintro e w8 ⟨rfl, g8⟩
        have g9 : St w (HP.arr 3 1 (.slice al k cl) k (intsC (limL s k)) :: cacheP c tb bud s :: batsP (.slice a3 (zs.length + 1) cap3) (drainB s (k + 1)) :: []) w8 := g8.perm (by
          simp only [HP.big, intsP, limL_len]
          ac_rfl)
        have g10 := g9.newArr 3 1 1 [.int .i64 ((s k).lim : Int)] rfl (by decide)
        have R7 := Lib.hid (HP.arr_reads g10)
        have G7 := Lib.hid g10.swap
        clear g8 g9 g10 LM
        go_wp2_with (at_builtin; refine wpList_append_st rfl _ _ 28 rfl 3 i0 _ 1 8 Try.underlying28 HI.out Z0.out Z1.out Z2.out rfl _ _ rfl rfl k (intsC (limL s k)) G7.out 1 [.int .i64 ((s k).lim : Int)] R7.out (by intro u hu; simp at hu; subst hu; rfl) (by unfold maxLen; omega) (by omega) ?_; intro v' w' hs' hv'; obtain ⟨a6, c6, rfl⟩ := (HP.arr_reads hs').form; have HS8 := Lib.hid hs'; clear hs' hv')
        go_roundw
        case rel =>
          refine ⟨k + 1, hlt, by go_num, a3, cap3, a6, c6, ?_, rfl, Lib.hid ?_⟩
          · rw [LE.out]
          · refine HS8.out.perm (L' := HP.arr 3 1 (.slice a6 (k + 1) c6) (k + 1) (intsC (limL s k) ++ [.int .i64 ((s k).lim : Int)]) :: HP.arr 3 1 (.slice (some ⟨w8.heap.size, 0, none⟩) 1 1) 1 [.int .i64 ((s k).lim : Int)] :: cacheP c tb bud s :: batsP (.slice a3 (zs.length + 1) cap3) (drainB s (k + 1)) :: []) rfl |> fun h => ?_
            have h2 : St w (HP.arr 3 1 (.slice a6 (k + 1) c6) (k + 1) (intsC (limL s k) ++ [.int .i64 ((s k).lim : Int)]) :: cacheP c tb bud s :: batsP (.slice a3 (zs.length + 1) cap3) (drainB s (k + 1)) :: []) _ := h.pick 4 [0, 2, 3]
            refine h2.perm ?_
            rw [limL_succ]
            simp only [HP.big, intsP, intsC, List.map_append, List.map_cons, List.map_nil, List.length_append, limL_len, List.length_cons, List.length_nil]
            ac_rfl
        case measure => simp [intOf]; omega
      · have p0 : decide ((0 : Int) < ((s k).objs.length : Int)) = false := decide_eq_false (by omega)
        have p0' : decide (0 < (s k).objs.length) = false := decide_eq_false hpos
        have LE : Hid ((drainB s (k + 1)).length = (drainB s k).length) := Lib.hid (congrArg List.length (outB_no (fL := CL.objs) (s := s) (n := k) hpos))
        have EN : drainB s (k + 1) = drainB s k := outB_no (fL := CL.objs) (s := s) (n := k) hpos
        clear hpos
        go_wp2_with fail
        refine LN.out.mono ?_
        rintro e w3 ⟨rfl, h3⟩
        have g7 : St w (batsP (.slice aw (drainB s k).length cw) (drainB s (k + 1)) :: intsP (.slice al k cl) (limL s k) :: cacheP c tb bud s :: []) w3 := by
          rw [EN]
          have h4 : St w (cacheP c tb bud s :: batsP (.slice aw (drainB s k).length cw) (drainB s k) :: intsP (.slice al k cl) (limL s k) :: []) w3 := h3
          exact h4.rot'
        clear h3 EN
        have g7b : St w (cacheP c tb bud s :: batsP (.slice aw (drainB s k).length cw) (drainB s (k + 1)) :: intsP (.slice al k cl) (limL s k) :: []) _ := g7.front 2
        have LM := Lib.hid (limit_in w _ _ c tb bud s hN g7b k hlt)
        go_wp2_with fail
        refine LM.out.mono ?_
        rintro e w8 ⟨rfl, g8⟩
        have g9 : St w (HP.arr 3 1 (.slice al k cl) k (intsC (limL s k)) :: cacheP c tb bud s :: batsP (.slice aw (drainB s k).length cw) (drainB s (k + 1)) :: []) w8 := g8.perm (by
          simp only [HP.big, intsP, limL_len]
          ac_rfl)
        have g10 := g9.newArr 3 1 1 [.int .i64 ((s k).lim : Int)] rfl (by decide)
        have R7 := Lib.hid (HP.arr_reads g10)
        have G7 := Lib.hid g10.swap
        clear g8 g9 g10 LM
        go_wp2_with (at_builtin; refine wpList_append_st rfl _ _ 28 rfl 3 i0 _ 1 8 Try.underlying28 HI.out Z0.out Z1.out Z2.out rfl _ _ rfl rfl k (intsC (limL s k)) G7.out 1 [.int .i64 ((s k).lim : Int)] R7.out (by intro u hu; simp at hu; subst hu; rfl) (by unfold maxLen; omega) (by omega) ?_; intro v' w' hs' hv'; obtain ⟨a6, c6, rfl⟩ := (HP.arr_reads hs').form; have HS8 := Lib.hid hs'; clear hs' hv')
        go_roundw
        case rel =>
          refine ⟨k + 1, hlt, by go_num, aw, cw, a6, c6, ?_, rfl, Lib.hid ?_⟩
          · rw [LE.out]
          · refine HS8.out.perm (L' := HP.arr 3 1 (.slice a6 (k + 1) c6) (k + 1) (intsC (limL s k) ++ [.int .i64 ((s k).lim : Int)]) :: HP.arr 3 1 (.slice (some ⟨w8.heap.size, 0, none⟩) 1 1) 1 [.int .i64 ((s k).lim : Int)] :: cacheP c tb bud s :: batsP (.slice aw (drainB s k).length cw) (drainB s (k + 1)) :: []) rfl |> fun h => ?_
            have h2 : St w (HP.arr 3 1 (.slice a6 (k + 1) c6) (k + 1) (intsC (limL s k) ++ [.int .i64 ((s k).lim : Int)]) :: cacheP c tb bud s :: batsP (.slice aw (drainB s k).length cw) (drainB s (k + 1)) :: []) _ := h.pick 4 [0, 2, 3]
            refine h2.perm ?_
            rw [limL_succ]
            simp only [HP.big, intsP, intsC, List.map_append, List.map_cons, List.map_nil, List.length_append, limL_len, List.length_cons, List.length_nil]
            ac_rfl
        case measure => simp [intOf]; omega
    · have e : k = tb.length := by omega
      subst e
      have g0 : St w (cacheP c tb bud s :: batsP (.slice aw (drainB s tb.length).length cw) (drainB s tb.length) :: intsP (.slice al tb.length cl) (limL s tb.length) :: []) wr := HS.out.front 2
      have DR := Lib.hid (drain_any w wr _ c tb bud s T.out OK.out g0)
      have LB := Lib.hid (Nat.le_trans (outB_len CL.objs s tb.length) hN)
      have LO := Lib.hid (drainB_objs OK.out tb.length)
      obtain ⟨bs, hbs⟩ : ∃ bs, drainB s tb.length = bs := ⟨_, rfl⟩
      have LB : Hid (bs.length ≤ 40) := Lib.hid (by rw [← hbs]; exact LB.out)
      rw [hbs] at DR LO HS ⊢
      have D0 := Lib.hid (show ∀ k, (drainS s k).ok from fun k => CL.ok_drain (OK.out k))
      clear g0 hbs
      go_wp2_with fail
      refine DR.out.mono ?_
      rintro e w2 ⟨ag, cg, rfl, h2⟩
      have H2 : Hid (St w (cacheP c tb bud (drainS s) :: batsP (.slice ag bs.length cg) bs :: batsP (.slice aw bs.length cw) bs :: intsP (.slice al tb.length cl) (limL s tb.length) :: []) w2) := Lib.hid h2.swap
      clear h2 DR HS
      go_wp2_with fail
      go_loopw [12] (fun i wr => ∃ k : Nat, k ≤ tb.length ∧ i = .int .i64 k ∧ Hid (St w (cacheP c tb bud (drainS s) :: batsP (.slice ag bs.length cg) bs :: batsP (.slice aw bs.length cw) bs :: intsP (.slice al tb.length cl) (limL s tb.length) :: []) wr)) (fun i _ => tb.length - (intOf i).toNat)
      case atStart => exact ⟨0, Nat.zero_le _, rfl, H2⟩
      case round =>
        clear H2
        obtain ⟨k, hk, rfl, HS⟩ := hrel
        by_cases hlt : k < tb.length
        · obtain ⟨b1, o1, p1, hv, _⟩ := ints_at (HS.out.front 3) (limL_get (s := s) hlt)
          rw [limL_len] at hv
          injection hv with e1 _ e3
          subst e1
          clear e3
          have CL9 : Hid (∀ w9, St w (cacheP c tb bud (drainS s) :: batsP (.slice ag bs.length cg) bs :: batsP (.slice aw bs.length cw) bs :: intsP (.slice (some ⟨b1, o1, none⟩) tb.length cl) (limL s tb.length) :: []) w9 → w9.cell? ⟨b1, o1 + k, none⟩ = some (.int .i64 ((s k).lim : Int))) := Lib.hid fun w9 g => by
            obtain ⟨b', o', p', hv, hc⟩ := ints_at (g.front 3) (limL_get (s := s) hlt)
            rw [limL_len] at hv
            cases hv
            exact hc
          have LM := Lib.hid fun w9 L (g : St w (cacheP c tb bud (drainS s) :: L) w9) => limit_in w w9 L c tb bud (drainS s) hN g k hlt
          have LN := Lib.hid fun w9 L (g : St w (cacheP c tb bud (drainS s) :: L) w9) => len_in w w9 L c tb bud (drainS s) k hN (D0.out k) g hlt
          have LW := Lib.hid fun w9 L (g : St w (cacheP c tb bud (drainS s) :: L) w9) => low_in w w9 L c tb bud (drainS s) hN g k hlt
          have E1 : (drainS s k).lim = (s k).lim := rfl
          have E2 : (drainS s k).objs.length = 0 := rfl
          have E3 : (drainS s k).low = 0 := rfl
          rw [E1] at LM
          rw [E2] at LN
          rw [E3] at LW
          have i0' : (0 : Int) ≤ (k : Int) := by omega
          have i1' : (k : Int) < (tb.length : Int) := by omega
          have hne : (((s k).lim : Int) != ((s k).lim : Int)) = false := by simp
          clear E1 E2 E3
          go_wp2_with fail
          refine wp_region_qst (fun w' => St w (cacheP c tb bud (drainS s) :: batsP (.slice ag bs.length cg) bs :: batsP (.slice aw bs.length cw) bs :: intsP (.slice (some ⟨b1, o1, none⟩) tb.length cl) (limL s tb.length) :: []) w') (by kernel_rfl) (by kernel_rfl) HS.out.drew ?_
          repeat (
            with_reducible refine wpQuiet_step (fun K hK => ?_)
            go_simp
            first
              | (refine hK _ ?_; clear hK K)
              | (apply Exists.intro
                 refine ⟨fun w1 h1 => ?_, hK _ ?_⟩
                 (first
                  | (with_reducible rfl)
                  | (go_at_call 23; refine (LM.out _ _ h1).mono ?_; rintro e w' ⟨rfl, h9⟩; exact ⟨rfl, h9⟩)
                  | (go_at_call 22; refine (LN.out _ _ h1).mono ?_; rintro e w' ⟨rfl, h9⟩; exact ⟨rfl, h9⟩)
                  | (go_at_call 24; refine (LW.out _ _ h1).mono ?_; rintro e w' ⟨rfl, h9⟩; exact ⟨rfl, h9⟩)
                  | (have z0 := CL9.out _ h1; go_simp; with_reducible rfl))
                 clear hK K))
          refine wpQuiet_nil ?_
          intro w2 h2
          go_wp2_with fail
          go_roundw
          case rel => exact ⟨k + 1, hlt, by go_num, Lib.hid h2⟩
          case measure => simp [intOf]; omega
        · have SM := Lib.hid (same_any w wr _ ag aw cg cw bs bs (by have := LB.out; omega) (by have := LB.out; omega) (fun x hx => by have := LO.out x hx; omega) (fun x hx => by have := LO.out x hx; omega) (HS.out.perm (L' := batsP (.slice ag bs.length cg) bs :: batsP (.slice aw bs.length cw) bs :: (cacheP c tb bud (drainS s) :: intsP (.slice al tb.length cl) (limL s tb.length) :: [])) (by simp only [HP.big]; ac_rfl)))
          rw [decide_eq_true rfl] at SM
          have BY := Lib.hid fun w9 L (g : St w (cacheP c tb bud (drainS s) :: L) w9) => bytes_any w w9 L c tb bud (drainS s) T.out D0.out g
          rw [bytesN_zero (fun k => rfl)] at BY
          go_wp2_with fail
          refine SM.out.mono ?_
          rintro e w3 ⟨rfl, h3⟩
          have H3 := Lib.hid (h3.front 2)
          clear h3
          go_wp2_with fail
          refine (BY.out _ _ H3.out).mono ?_
          rintro e w4 ⟨rfl, h4⟩
          have H4 := Lib.hid h4
          clear h4
          go_wp2_with fail
          refine (AL.out w4 _ H4.out).mono ?_
          rintro e w1 ⟨rfl, h1⟩
          go_wp2_with fail
          go_ret
          exact ⟨rfl, h1.1⟩
end Go.Proofs.Ytaejojbdkgccpaa

/-
  The law CacheClones. (Printed by mkL7.py.)
-/
import Derived.Test.YtaejojbdkgccpaaL6
namespace Go.Proofs.Ytaejojbdkgccpaa
open Go.RowKit Go.Maps Go.ChangeMaps

set_option maxRecDepth 10000 in
set_option maxHeartbeats 4000000 in
theorem clones_true (a : Option Addr) (cap : Nat) (tb : List Cls) (bud : Int) (_w1 : (Lit.int .i64 bud).wf = true) (a2 : Option Addr) (cap2 : Nat) (acts : List ActV) (a3 : Option Addr) (cap3 : Nat) (more : List ActV) (w : World)
    (ht : Reads w 3 (.slice a tb.length cap) tb.length (clsC tb)) (_hn : tb.length ≤ 9223372036854775807) (h : ActsAt w (.slice a2 acts.length cap2) acts) (hn2 : acts.length ≤ 9223372036854775807) (hg : greatB acts = false) (h3 : ActsAt w (.slice a3 more.length cap3) more) (hn3 : more.length ≤ 9223372036854775807) (hg3 : greatB more = false) :
    Calls Try.prog 11 #[.slice a tb.length cap, .int .i64 bud, .slice a2 acts.length cap2, .slice a3 more.length cap3, .bool true] w fun e w' => e = .returned (.bool true) ∧ Below w.heap.size w w' := by
  have GR := Lib.hid (great_any w a2 cap2 acts h hn2)
  have GM := Lib.hid (great_any w a3 cap3 more h3 hn3)
  have AL := Lib.hid fun w1 (L : List HP) (h1 : St w L w1) => alive_any w w1 L h1
  obtain ⟨n60, n300⟩ := acts_ok hg
  obtain ⟨m60, m300⟩ := acts_ok hg3
  rw [hg] at GR
  rw [hg3] at GM
  have MDG := Lib.hid fun w1 (L : List HP) (h1 : St w L w1) => made_any w w1 L h1 a cap tb (fun G w' h => h.reads0 ht) bud a2 cap2 acts h n60 n300
  have HM := Lib.hid h3
  have M300 := Lib.hid m300
  clear h ht hg hg3 h3 n300 m300
  go_enter Try.func11, Try.ntmps11
  go_wp2_with fail
  refine GR.out.mono ?_
  rintro e w' ⟨rfl, rfl⟩
  go_wp2_with fail
  refine GM.out.mono ?_
  rintro e w' ⟨rfl, rfl⟩
  go_wp2_with fail
  refine (MDG.out _ _ (St.start w)).mono ?_
  rintro e w1 (⟨hno, rfl, h1⟩ | ⟨hmk, ca, rfl, h1⟩)
  · have H1 := Lib.hid h1
    clear h1
    go_wp2_with fail
    refine (MDG.out _ _ H1.out).mono ?_
    rintro e w2 (⟨_, rfl, h2⟩ | ⟨hmk, cu, rfl, h2⟩)
    · have H2 := Lib.hid h2
      clear h2
      go_wp2_with fail
      refine (AL.out w2 _ H2.out).mono ?_
      rintro e w1 ⟨rfl, h1⟩
      go_wp2_with fail
      go_ret
      exact ⟨rfl, h1.1⟩
    · exact absurd hmk hno
  have H1 := Lib.hid h1
  clear h1
  go_wp2_with fail
  refine (MDG.out _ _ H1.out).mono ?_
  rintro e w2 (⟨hno, _, _⟩ | ⟨_, cu, rfl, h2⟩)
  · exact absurd hmk hno
  have T := Lib.hid (mk_ok hmk acts).1
  have OK := Lib.hid (mk_ok hmk acts).2
  have H2 := Lib.hid h2.swap
  have hN := T.out.2.1
  clear h2 hmk MDG GR GM H1
  generalize actsS tb newS acts = s at *
  have CN := Lib.hid (clone_any w w2 _ ca tb bud s T.out OK.out H2.out)
  go_wp2_with fail
  refine CN.out.mono ?_
  rintro e w3 ⟨cb, rfl, h3⟩
  have H3 : Hid (St w (cacheP ca tb bud s :: cacheP cb tb bud s :: cacheP cu tb bud s :: []) w3) := Lib.hid h3.swap
  clear h3 H2 CN
  go_wp2_with fail
  go_loopw [15] (fun i wr => ∃ k : Nat, k ≤ more.length ∧ i = .int .i64 k ∧ Hid (St w (cacheP ca tb bud (actsS tb s (more.take k)) :: cacheP cb tb bud s :: cacheP cu tb bud s :: []) wr)) (fun i _ => more.length - (intOf i).toNat)
  case atStart => exact ⟨0, Nat.zero_le _, rfl, H3⟩
  case round =>
    clear H3
    obtain ⟨k, hk, rfl, HS⟩ := hrel
    by_cases hlt : k < more.length
    · obtain ⟨x, hx⟩ : ∃ x, more[k]? = some x := ⟨more[k], List.getElem?_eq_getElem hlt⟩
      obtain ⟨b, off, cp, e1, k0, k1, k2, k3⟩ := HM.out.cell hx
      have hb0 := World.block_lt_of_cell? w _ k0
      injection e1 with e1 e2 e3
      clear e2 e3
      subst e1
      have hm := List.mem_of_getElem? hx
      have DO := Lib.hid (do_any w wr _ ca tb bud _ T.out (actsS_ok T.out (more.take k) OK.out) HS.out x (fun G w' h => h.reads0 (HM.out.2 x hm).1) (M300.out x hm))
      have SU := Lib.hid (actsS_succ tb s hx)
      have c0 := (HS.out.was hb0).trans k0
      have c1 := (HS.out.was (p := ⟨b, off + k * 4 + 1, none⟩) hb0).trans k1
      have c2 := (HS.out.was (p := ⟨b, off + k * 4 + 2, none⟩) hb0).trans k2
      have c3 := (HS.out.was (p := ⟨b, off + k * 4 + 3, none⟩) hb0).trans k3
      clear hx k0 k1 k2 k3 hb0 hm
      generalize x.v = xv at *
      go_wp2_with fail
      refine DO.out.mono ?_
      rintro e w4 ⟨a', c', rfl, h2⟩
      rw [← SU.out] at h2
      have H2 := Lib.hid h2.drop
      clear h2
      go_wp2_with fail
      go_roundw
      case rel => exact ⟨k + 1, hlt, by go_num, H2⟩
      case measure => simp [intOf]; omega
    · have e : more.take k = more := List.take_of_length_le (by omega)
      rw [e] at HS
      clear e
      generalize actsS tb s more = s2 at *
      have HS2 : Hid (St w (cacheP cb tb bud s :: cacheP cu tb bud s :: cacheP ca tb bud s2 :: []) wr) := Lib.hid HS.out.rot'
      clear HS
      go_wp2_with fail
      go_loopw [16] (fun i wr => ∃ k : Nat, k ≤ tb.length ∧ i = .int .i64 k ∧ Hid (St w (cacheP cb tb bud s :: cacheP cu tb bud s :: cacheP ca tb bud s2 :: []) wr)) (fun i _ => tb.length - (intOf i).toNat)
      case atStart => exact ⟨0, Nat.zero_le _, rfl, HS2⟩
      case round =>
        clear HS2
        obtain ⟨k, hk, rfl, HS⟩ := hrel
        by_cases hlt : k < tb.length
        · have OA := Lib.hid fun w9 (L : List HP) cc (g : St w (cacheP cc tb bud s :: L) w9) => objects_in w w9 L cc tb bud s k hN (OK.out k) g hlt
          have WA := Lib.hid fun w9 (L : List HP) cc (g : St w (cacheP cc tb bud s :: L) w9) => low_in w w9 L cc tb bud s hN g k hlt
          have MA := Lib.hid fun w9 (L : List HP) cc (g : St w (cacheP cc tb bud s :: L) w9) => limit_in w w9 L cc tb bud s hN g k hlt
          have hol := (OK.out k).2.2.2
          have hne1 : (((s k).low : Int) != ((s k).low : Int)) = false := by simp
          have hne2 : (((s k).lim : Int) != ((s k).lim : Int)) = false := by simp
          go_wp2_with fail
          refine (OA.out _ _ _ HS.out).mono ?_
          rintro e w4 ⟨a4, c4, rfl, g4⟩
          go_wp2_with fail
          refine (OA.out _ _ _ (g4.front 2)).mono ?_
          rintro e w5 ⟨a5, c5, rfl, g5⟩
          have g5' : St w (intsP (.slice a5 (s k).objs.length c5) (s k).objs :: cacheP cu tb bud s :: intsP (.slice a4 (s k).objs.length c4) (s k).objs :: cacheP cb tb bud s :: cacheP ca tb bud s2 :: []) w5 := g5
          go_wp2_with fail
          refine (Ints_is w5 true a4 a5 (s k).objs.length c4 c5 (s k).objs (s k).objs rfl rfl (decide_eq_true rfl) (HP.arr_reads (g5'.front 2)) (HP.arr_reads g5') (by omega)).mono ?_
          rintro e w6 ⟨rfl, n6, rfl⟩
          have G6 : Hid (St w (cacheP cb tb bud s :: cacheP cu tb bud s :: cacheP ca tb bud s2 :: []) (w5.drewN n6)) := Lib.hid ((g5'.drewN n6).pick 5 [3, 1, 4])
          clear g4 g5 g5'
          go_wp2_with fail
          refine (WA.out _ _ _ G6.out).mono ?_
          rintro e w7 ⟨rfl, g7⟩
          have G7 := Lib.hid g7.swap
          clear g7
          go_wp2_with fail
          refine (WA.out _ _ _ G7.out).mono ?_
          rintro e w8 ⟨rfl, g8⟩
          have G8 := Lib.hid g8.swap
          clear g8
          go_wp2_with fail
          refine (MA.out _ _ _ G8.out).mono ?_
          rintro e w9 ⟨rfl, g9⟩
          have G9 := Lib.hid g9.swap
          clear g9
          go_wp2_with fail
          refine (MA.out _ _ _ G9.out).mono ?_
          rintro e w10 ⟨rfl, g10⟩
          have G10 := Lib.hid g10.swap
          clear g10
          go_wp2_with fail
          go_roundw
          case rel => exact ⟨k + 1, hlt, by go_num, G10⟩
          case measure => simp [intOf]; omega
        · have BY := Lib.hid fun w9 L cc (g : St w (cacheP cc tb bud s :: L) w9) => bytes_any w w9 L cc tb bud s T.out OK.out g
          have OV := Lib.hid fun w9 L cc (g : St w (cacheP cc tb bud s :: L) w9) => over_any w w9 L cc tb bud s T.out OK.out g
          generalize bytesN tb s tb.length = n at *
          generalize decide (bud < n) = ov at *
          have hbb : (ov == ov) = true := by simp
          have hbn : (n == n) = true := by simp
          go_wp2_with fail
          refine (BY.out _ _ _ HS.out).mono ?_
          rintro e w4 ⟨rfl, g4⟩
          have G4 := Lib.hid g4.swap
          clear g4
          go_wp2_with fail
          refine (BY.out _ _ _ G4.out).mono ?_
          rintro e w5 ⟨rfl, g5⟩
          have G5 := Lib.hid g5.swap
          clear g5
          go_wp2_with fail
          refine (OV.out _ _ _ G5.out).mono ?_
          rintro e w6 ⟨rfl, g6⟩
          have G6 := Lib.hid g6.swap
          clear g6
          go_wp2_with fail
          refine (OV.out _ _ _ G6.out).mono ?_
          rintro e w7 ⟨rfl, g7⟩
          have G7 := Lib.hid g7.swap
          clear g7
          go_wp2_with fail
          refine (AL.out w7 _ G7.out).mono ?_
          rintro e w1 ⟨rfl, h1⟩
          go_wp2_with fail
          go_ret
          exact ⟨rfl, h1.1⟩
set_option maxRecDepth 10000 in
set_option maxHeartbeats 4000000 in
theorem clones_false (a : Option Addr) (cap : Nat) (tb : List Cls) (bud : Int) (_w1 : (Lit.int .i64 bud).wf = true) (a2 : Option Addr) (cap2 : Nat) (acts : List ActV) (a3 : Option Addr) (cap3 : Nat) (more : List ActV) (w : World)
    (ht : Reads w 3 (.slice a tb.length cap) tb.length (clsC tb)) (_hn : tb.length ≤ 9223372036854775807) (h : ActsAt w (.slice a2 acts.length cap2) acts) (hn2 : acts.length ≤ 9223372036854775807) (hg : greatB acts = false) (h3 : ActsAt w (.slice a3 more.length cap3) more) (hn3 : more.length ≤ 9223372036854775807) (hg3 : greatB more = false) :
    Calls Try.prog 11 #[.slice a tb.length cap, .int .i64 bud, .slice a2 acts.length cap2, .slice a3 more.length cap3, .bool false] w fun e w' => e = .returned (.bool true) ∧ Below w.heap.size w w' := by
  have GR := Lib.hid (great_any w a2 cap2 acts h hn2)
  have GM := Lib.hid (great_any w a3 cap3 more h3 hn3)
  have AL := Lib.hid fun w1 (L : List HP) (h1 : St w L w1) => alive_any w w1 L h1
  obtain ⟨n60, n300⟩ := acts_ok hg
  obtain ⟨m60, m300⟩ := acts_ok hg3
  rw [hg] at GR
  rw [hg3] at GM
  have MDG := Lib.hid fun w1 (L : List HP) (h1 : St w L w1) => made_any w w1 L h1 a cap tb (fun G w' h => h.reads0 ht) bud a2 cap2 acts h n60 n300
  have HM := Lib.hid h3
  have M300 := Lib.hid m300
  clear h ht hg hg3 h3 n300 m300
  go_enter Try.func11, Try.ntmps11
  go_wp2_with fail
  refine GR.out.mono ?_
  rintro e w' ⟨rfl, rfl⟩
  go_wp2_with fail
  refine GM.out.mono ?_
  rintro e w' ⟨rfl, rfl⟩
  go_wp2_with fail
  refine (MDG.out _ _ (St.start w)).mono ?_
  rintro e w1 (⟨hno, rfl, h1⟩ | ⟨hmk, ca, rfl, h1⟩)
  · have H1 := Lib.hid h1
    clear h1
    go_wp2_with fail
    refine (MDG.out _ _ H1.out).mono ?_
    rintro e w2 (⟨_, rfl, h2⟩ | ⟨hmk, cu, rfl, h2⟩)
    · have H2 := Lib.hid h2
      clear h2
      go_wp2_with fail
      refine (AL.out w2 _ H2.out).mono ?_
      rintro e w1 ⟨rfl, h1⟩
      go_wp2_with fail
      go_ret
      exact ⟨rfl, h1.1⟩
    · exact absurd hmk hno
  have H1 := Lib.hid h1
  clear h1
  go_wp2_with fail
  refine (MDG.out _ _ H1.out).mono ?_
  rintro e w2 (⟨hno, _, _⟩ | ⟨_, cu, rfl, h2⟩)
  · exact absurd hmk hno
  have T := Lib.hid (mk_ok hmk acts).1
  have OK := Lib.hid (mk_ok hmk acts).2
  have H2 := Lib.hid h2.swap
  have hN := T.out.2.1
  clear h2 hmk MDG GR GM H1
  generalize actsS tb newS acts = s at *
  have CN := Lib.hid (clone_any w w2 _ ca tb bud s T.out OK.out H2.out)
  go_wp2_with fail
  refine CN.out.mono ?_
  rintro e w3 ⟨cb, rfl, h3⟩
  have H3 : Hid (St w (cacheP cb tb bud s :: cacheP ca tb bud s :: cacheP cu tb bud s :: []) w3) := Lib.hid h3
  clear h3 H2 CN
  go_wp2_with fail
  go_loopw [15] (fun i wr => ∃ k : Nat, k ≤ more.length ∧ i = .int .i64 k ∧ Hid (St w (cacheP cb tb bud (actsS tb s (more.take k)) :: cacheP ca tb bud s :: cacheP cu tb bud s :: []) wr)) (fun i _ => more.length - (intOf i).toNat)
  case atStart => exact ⟨0, Nat.zero_le _, rfl, H3⟩
  case round =>
    clear H3
    obtain ⟨k, hk, rfl, HS⟩ := hrel
    by_cases hlt : k < more.length
    · obtain ⟨x, hx⟩ : ∃ x, more[k]? = some x := ⟨more[k], List.getElem?_eq_getElem hlt⟩
      obtain ⟨b, off, cp, e1, k0, k1, k2, k3⟩ := HM.out.cell hx
      have hb0 := World.block_lt_of_cell? w _ k0
      injection e1 with e1 e2 e3
      clear e2 e3
      subst e1
      have hm := List.mem_of_getElem? hx
      have DO := Lib.hid (do_any w wr _ cb tb bud _ T.out (actsS_ok T.out (more.take k) OK.out) HS.out x (fun G w' h => h.reads0 (HM.out.2 x hm).1) (M300.out x hm))
      have SU := Lib.hid (actsS_succ tb s hx)
      have c0 := (HS.out.was hb0).trans k0
      have c1 := (HS.out.was (p := ⟨b, off + k * 4 + 1, none⟩) hb0).trans k1
      have c2 := (HS.out.was (p := ⟨b, off + k * 4 + 2, none⟩) hb0).trans k2
      have c3 := (HS.out.was (p := ⟨b, off + k * 4 + 3, none⟩) hb0).trans k3
      clear hx k0 k1 k2 k3 hb0 hm
      generalize x.v = xv at *
      go_wp2_with fail
      refine DO.out.mono ?_
      rintro e w4 ⟨a', c', rfl, h2⟩
      rw [← SU.out] at h2
      have H2 := Lib.hid h2.drop
      clear h2
      go_wp2_with fail
      go_roundw
      case rel => exact ⟨k + 1, hlt, by go_num, H2⟩
      case measure => simp [intOf]; omega
    · have e : more.take k = more := List.take_of_length_le (by omega)
      rw [e] at HS
      clear e
      generalize actsS tb s more = s2 at *
      have HS2 : Hid (St w (cacheP ca tb bud s :: cacheP cu tb bud s :: cacheP cb tb bud s2 :: []) wr) := Lib.hid HS.out.rot'
      clear HS
      go_wp2_with fail
      go_loopw [16] (fun i wr => ∃ k : Nat, k ≤ tb.length ∧ i = .int .i64 k ∧ Hid (St w (cacheP ca tb bud s :: cacheP cu tb bud s :: cacheP cb tb bud s2 :: []) wr)) (fun i _ => tb.length - (intOf i).toNat)
      case atStart => exact ⟨0, Nat.zero_le _, rfl, HS2⟩
      case round =>
        clear HS2
        obtain ⟨k, hk, rfl, HS⟩ := hrel
        by_cases hlt : k < tb.length
        · have OA := Lib.hid fun w9 (L : List HP) cc (g : St w (cacheP cc tb bud s :: L) w9) => objects_in w w9 L cc tb bud s k hN (OK.out k) g hlt
          have WA := Lib.hid fun w9 (L : List HP) cc (g : St w (cacheP cc tb bud s :: L) w9) => low_in w w9 L cc tb bud s hN g k hlt
          have MA := Lib.hid fun w9 (L : List HP) cc (g : St w (cacheP cc tb bud s :: L) w9) => limit_in w w9 L cc tb bud s hN g k hlt
          have hol := (OK.out k).2.2.2
          have hne1 : (((s k).low : Int) != ((s k).low : Int)) = false := by simp
          have hne2 : (((s k).lim : Int) != ((s k).lim : Int)) = false := by simp
          go_wp2_with fail
          refine (OA.out _ _ _ HS.out).mono ?_
          rintro e w4 ⟨a4, c4, rfl, g4⟩
          go_wp2_with fail
          refine (OA.out _ _ _ (g4.front 2)).mono ?_
          rintro e w5 ⟨a5, c5, rfl, g5⟩
          have g5' : St w (intsP (.slice a5 (s k).objs.length c5) (s k).objs :: cacheP cu tb bud s :: intsP (.slice a4 (s k).objs.length c4) (s k).objs :: cacheP ca tb bud s :: cacheP cb tb bud s2 :: []) w5 := g5
          go_wp2_with fail
          refine (Ints_is w5 true a4 a5 (s k).objs.length c4 c5 (s k).objs (s k).objs rfl rfl (decide_eq_true rfl) (HP.arr_reads (g5'.front 2)) (HP.arr_reads g5') (by omega)).mono ?_
          rintro e w6 ⟨rfl, n6, rfl⟩
          have G6 : Hid (St w (cacheP ca tb bud s :: cacheP cu tb bud s :: cacheP cb tb bud s2 :: []) (w5.drewN n6)) := Lib.hid ((g5'.drewN n6).pick 5 [3, 1, 4])
          clear g4 g5 g5'
          go_wp2_with fail
          refine (WA.out _ _ _ G6.out).mono ?_
          rintro e w7 ⟨rfl, g7⟩
          have G7 := Lib.hid g7.swap
          clear g7
          go_wp2_with fail
          refine (WA.out _ _ _ G7.out).mono ?_
          rintro e w8 ⟨rfl, g8⟩
          have G8 := Lib.hid g8.swap
          clear g8
          go_wp2_with fail
          refine (MA.out _ _ _ G8.out).mono ?_
          rintro e w9 ⟨rfl, g9⟩
          have G9 := Lib.hid g9.swap
          clear g9
          go_wp2_with fail
          refine (MA.out _ _ _ G9.out).mono ?_
          rintro e w10 ⟨rfl, g10⟩
          have G10 := Lib.hid g10.swap
          clear g10
          go_wp2_with fail
          go_roundw
          case rel => exact ⟨k + 1, hlt, by go_num, G10⟩
          case measure => simp [intOf]; omega
        · have BY := Lib.hid fun w9 L cc (g : St w (cacheP cc tb bud s :: L) w9) => bytes_any w w9 L cc tb bud s T.out OK.out g
          have OV := Lib.hid fun w9 L cc (g : St w (cacheP cc tb bud s :: L) w9) => over_any w w9 L cc tb bud s T.out OK.out g
          generalize bytesN tb s tb.length = n at *
          generalize decide (bud < n) = ov at *
          have hbb : (ov == ov) = true := by simp
          have hbn : (n == n) = true := by simp
          go_wp2_with fail
          refine (BY.out _ _ _ HS.out).mono ?_
          rintro e w4 ⟨rfl, g4⟩
          have G4 := Lib.hid g4.swap
          clear g4
          go_wp2_with fail
          refine (BY.out _ _ _ G4.out).mono ?_
          rintro e w5 ⟨rfl, g5⟩
          have G5 := Lib.hid g5.swap
          clear g5
          go_wp2_with fail
          refine (OV.out _ _ _ G5.out).mono ?_
          rintro e w6 ⟨rfl, g6⟩
          have G6 := Lib.hid g6.swap
          clear g6
          go_wp2_with fail
          refine (OV.out _ _ _ G6.out).mono ?_
          rintro e w7 ⟨rfl, g7⟩
          have G7 := Lib.hid g7.swap
          clear g7
          go_wp2_with fail
          refine (AL.out w7 _ G7.out).mono ?_
          rintro e w1 ⟨rfl, h1⟩
          go_wp2_with fail
          go_ret
          exact ⟨rfl, h1.1⟩
set_option maxRecDepth 10000 in
set_option maxHeartbeats 4000000 in
theorem clones_walk (a : Option Addr) (cap : Nat) (tb : List Cls) (bud : Int) (_w1 : (Lit.int .i64 bud).wf = true) (a2 : Option Addr) (cap2 : Nat) (acts : List ActV) (a3 : Option Addr) (cap3 : Nat) (more : List ActV) (side : Bool) (w : World)
    (ht : Reads w 3 (.slice a tb.length cap) tb.length (clsC tb)) (_hn : tb.length ≤ 9223372036854775807) (h : ActsAt w (.slice a2 acts.length cap2) acts) (hn2 : acts.length ≤ 9223372036854775807) (h3 : ActsAt w (.slice a3 more.length cap3) more) (hn3 : more.length ≤ 9223372036854775807) :
    Calls Try.prog 11 #[.slice a tb.length cap, .int .i64 bud, .slice a2 acts.length cap2, .slice a3 more.length cap3, .bool side] w fun e w' => e = .returned (.bool true) ∧ Below w.heap.size w w' := by
  have GR := Lib.hid (great_any w a2 cap2 acts h hn2)
  have GM := Lib.hid (great_any w a3 cap3 more h3 hn3)
  have AL := Lib.hid fun w1 (L : List HP) (h1 : St w L w1) => alive_any w w1 L h1
  cases hg : greatB acts with
  | true =>
    rw [hg] at GR
    clear h ht hg h3 GM
    go_enter Try.func11, Try.ntmps11
    go_wp2_with fail
    refine GR.out.mono ?_
    rintro e w' ⟨rfl, rfl⟩
    go_wp2_with fail
    refine (AL.out w _ (St.start w)).mono ?_
    rintro e w1 ⟨rfl, h1⟩
    go_wp2_with fail
    go_ret
    exact ⟨rfl, h1.1⟩
  | false =>
  cases hg3 : greatB more with
  | true =>
    rw [hg] at GR
    rw [hg3] at GM
    clear h ht hg h3 hg3
    go_enter Try.func11, Try.ntmps11
    go_wp2_with fail
    refine GR.out.mono ?_
    rintro e w' ⟨rfl, rfl⟩
    go_wp2_with fail
    refine GM.out.mono ?_
    rintro e w' ⟨rfl, rfl⟩
    go_wp2_with fail
    refine (AL.out w _ (St.start w)).mono ?_
    rintro e w1 ⟨rfl, h1⟩
    go_wp2_with fail
    go_ret
    exact ⟨rfl, h1.1⟩
  | false =>
  cases side with
  | true => exact clones_true a cap tb bud _w1 a2 cap2 acts a3 cap3 more w ht _hn h hn2 hg h3 hn3 hg3
  | false => exact clones_false a cap tb bud _w1 a2 cap2 acts a3 cap3 more w ht _hn h hn2 hg h3 hn3 hg3
end Go.Proofs.Ytaejojbdkgccpaa

/-
  The law CacheRefuses. (Printed by mkL6.py.)
-/
import Derived.Test.YtaejojbdkgccpaaL5
namespace Go.Proofs.Ytaejojbdkgccpaa
open Go.RowKit Go.Maps Go.ChangeMaps

theorem refuses_law {tb : List Cls} {s : Nat → CL} {x : ActC} (h : doE tb s x ≠ 0 ∨ x.kind = 1) (i : Nat) :
    (actS tb s x i).objs = (s i).objs ∧ (actS tb s x i).low = (s i).low ∧ (¬ (x.kind = 0 ∧ (i : Int) = x.cls) → (actS tb s x i).lim = (s i).lim) := by
  obtain ⟨kd, cls, o, l⟩ := x
  dsimp only at *
  by_cases h4 : kd = 4
  · subst h4
    simp [doE] at h
  by_cases h5 : kd = 5
  · subst h5
    simp [doE] at h
  by_cases hin : inC tb.length cls
  rotate_left
  · have e : actS tb s ⟨kd, cls, o, l⟩ = s := by
      unfold actS actC
      dsimp only
      rw [if_neg h4, if_neg h5, if_pos hin]
    rw [e]
    exact ⟨rfl, rfl, fun _ => rfl⟩
  by_cases hi : i = cls.toNat
  rotate_left
  · have e : actS tb s ⟨kd, cls, o, l⟩ i = s i := by
      unfold actS actC
      dsimp only
      rw [if_neg h4, if_neg h5, if_neg (not_not_intro hin)]
      split
      · exact updC_other s _ hi
      split
      · exact updC_other s _ hi
      split
      · exact updC_other s _ hi
      · rfl
    rw [e]
    exact ⟨rfl, rfl, fun _ => rfl⟩
  subst hi
  by_cases h0 : kd = 0
  · subst h0
    have e : actS tb s ⟨0, cls, o, l⟩ cls.toNat = (s cls.toNat).takeF (Bt tb cls.toNat) := by
      unfold actS actC
      dsimp only
      rw [if_neg (by omega), if_neg (by omega), if_neg (not_not_intro hin), if_pos rfl]
      exact updC_same _ _ _
    have hz : (s cls.toNat).objs.length = 0 := by
      simp [doE, hin] at h
      unfold CL.takeE at h
      split at h
      · assumption
      · exact absurd rfl h
    rw [e]
    unfold CL.takeF
    rw [if_pos hz]
    refine ⟨rfl, rfl, fun hn => absurd ⟨rfl, ?_⟩ hn⟩
    have := inC_nat hin
    omega
  by_cases h1 : kd = 1
  · subst h1
    have e : actS tb s ⟨1, cls, o, l⟩ = s := by simp [actS, actC]
    rw [e]
    exact ⟨rfl, rfl, fun _ => rfl⟩
  by_cases h2 : kd = 2
  · subst h2
    have e : actS tb s ⟨2, cls, o, l⟩ cls.toNat = (s cls.toNat).fillF l := by
      unfold actS actC
      dsimp only
      rw [if_neg (by omega), if_neg (by omega), if_neg (not_not_intro hin), if_neg (by omega), if_pos rfl]
      exact updC_same _ _ _
    have hz : 256 < (s cls.toNat).objs.length + l.length := by
      simp [doE, hin] at h
      unfold CL.fillE at h
      split at h
      · assumption
      · exact absurd rfl h
    rw [e]
    unfold CL.fillF
    rw [if_pos hz]
    exact ⟨rfl, rfl, fun _ => rfl⟩
  by_cases h3 : kd = 3
  · subst h3
    have e : actS tb s ⟨3, cls, o, l⟩ cls.toNat = (s cls.toNat).putF (Bt tb cls.toNat) o := by
      unfold actS actC
      dsimp only
      rw [if_neg (by omega), if_neg (by omega), if_neg (not_not_intro hin), if_neg (by omega), if_neg (by omega), if_pos rfl]
      exact updC_same _ _ _
    have hz : 256 < (s cls.toNat).objs.length + 1 := by
      simp [doE, hin] at h
      unfold CL.putE at h
      split at h
      · assumption
      · exact absurd rfl h
    rw [e]
    unfold CL.putF
    rw [if_pos hz]
    exact ⟨rfl, rfl, fun _ => rfl⟩
  · simp [doE, h0, h1, h2, h3] at h

set_option maxRecDepth 10000 in
set_option maxHeartbeats 4000000 in
theorem refuses_walk (a : Option Addr) (cap : Nat) (tb : List Cls) (bud : Int) (_w1 : (Lit.int .i64 bud).wf = true) (a2 : Option Addr) (cap2 : Nat) (acts : List ActV) (x : ActV) (w : World)
    (ht : Reads w 3 (.slice a tb.length cap) tb.length (clsC tb)) (_hn : tb.length ≤ 9223372036854775807) (h : ActsAt w (.slice a2 acts.length cap2) acts) (hn2 : acts.length ≤ 9223372036854775807) (hx : IntsAt w x.v x.l ∧ x.l.length ≤ 9223372036854775807) :
    Calls Try.prog 6 #[.slice a tb.length cap, .int .i64 bud, .slice a2 acts.length cap2, .agg #[.int .i64 x.kind, .int .i64 x.cls, .int .i64 x.o, x.v]] w fun e w' => e = .returned (.bool true) ∧ Below w.heap.size w w' := by
  obtain ⟨kd, cls, o, xa, xc, xl⟩ := x
  have ev : (⟨kd, cls, o, xa, xc, xl⟩ : ActV).v = .slice xa xl.length xc := rfl
  have hx : IntsAt w (.slice xa xl.length xc) xl ∧ xl.length ≤ 9223372036854775807 := hx
  rw [ev]
  dsimp only
  clear ev
  have hbx := (St.start w).allocRow #[.int .i64 kd, .int .i64 cls, .int .i64 o, .slice xa xl.length xc] 37
  obtain ⟨q0, q1, q2, q3⟩ := hbx.cells4
  have hsz : (w.alloc (.cells #[.int .i64 kd, .int .i64 cls, .int .i64 o, .slice xa xl.length xc] 37)).heap.size = w.heap.size + 1 := by simp
  have HB := Lib.hid hbx
  have H0 := Lib.hid h
  have GR := Lib.hid (great_any _ a2 cap2 acts (ActsAt.of0 hbx h) hn2)
  have AL := Lib.hid fun w1 (L : List HP) (h1 : St w L w1) => alive_any w w1 L h1
  have GX : Hid (∀ w1 (L : List HP) (b : Nat), St w (HP.arr 37 4 (.slice (some ⟨b, 0, none⟩) 1 1) 1 [.int .i64 kd, .int .i64 cls, .int .i64 o, .slice xa xl.length xc] :: L) w1 →
      Calls Try.prog 14 #[.slice (some ⟨b, 0, none⟩) 1 1] w1 fun e w' => e = .returned (.bool (greatB [⟨kd, cls, o, xa, xc, xl⟩])) ∧ w1 = w') := Lib.hid fun w1 L b h1 => great_any w1 (some ⟨b, 0, none⟩) 1 [⟨kd, cls, o, xa, xc, xl⟩] ⟨HP.arr_reads h1, fun y hy => by rw [List.mem_singleton.1 hy]; exact ⟨h1.reads0 hx.1, hx.2⟩⟩ (by simp)
  have hbs := (hbx.newArr 37 4 1 [.int .i64 kd, .int .i64 cls, .int .i64 o, .slice xa xl.length xc] rfl (by decide))
  rw [hsz] at hbs
  have HBS := Lib.hid hbs
  clear hbx hbs
  cases hg : greatB acts with
  | true =>
    rw [hg] at GR
    clear h ht hg hx
    go_enter Try.func6, Try.ntmps6
    go_wp2_with fail
    refine GR.out.mono ?_
    rintro e w' ⟨rfl, rfl⟩
    go_wp2_with fail
    refine (AL.out _ _ HB.out).mono ?_
    rintro e w1 ⟨rfl, h1⟩
    go_wp2_with fail
    go_ret
    exact ⟨rfl, h1.1⟩
  | false =>
  obtain ⟨n60, n300⟩ := acts_ok hg
  rw [hg] at GR
  cases hgx : greatB [⟨kd, cls, o, xa, xc, xl⟩] with
  | true =>
    rw [hgx] at GX
    clear h ht hg hgx n300 hx
    go_enter Try.func6, Try.ntmps6
    go_wp2_with fail
    refine GR.out.mono ?_
    rintro e w' ⟨rfl, rfl⟩
    go_wp2_with fail
    refine (GX.out _ _ _ HBS.out).mono ?_
    rintro e w' ⟨rfl, rfl⟩
    go_wp2_with fail
    refine (AL.out _ _ HBS.out).mono ?_
    rintro e w1 ⟨rfl, h1⟩
    go_wp2_with fail
    go_ret
    exact ⟨rfl, h1.1⟩
  | false =>
  rw [hgx] at GX
  have xl3 : xl.length ≤ 300 := (acts_ok hgx).2 ⟨kd, cls, o, xa, xc, xl⟩ (by simp)
  have HBX : Hid (St w (HP.blk w.heap.size #[.int .i64 kd, .int .i64 cls, .int .i64 o, .slice xa xl.length xc] 37 :: []) ((w.alloc (.cells #[.int .i64 kd, .int .i64 cls, .int .i64 o, .slice xa xl.length xc] 37)).alloc (.cells #[.int .i64 kd, .int .i64 cls, .int .i64 o, .slice xa xl.length xc] 37))) := Lib.hid HBS.out.drop
  have MDG := Lib.hid fun w1 (L : List HP) (h1 : St w L w1) => made_any w w1 L h1 a cap tb (fun G w' h => h.reads0 ht) bud a2 cap2 acts h n60 n300
  have HT := Lib.hid ht
  have HX := Lib.hid hx.1
  clear h ht hg hgx n300 hx
  go_enter Try.func6, Try.ntmps6
  go_wp2_with fail
  refine GR.out.mono ?_
  rintro e w' ⟨rfl, rfl⟩
  go_wp2_with fail
  refine (GX.out _ _ _ HBS.out).mono ?_
  rintro e w' ⟨rfl, rfl⟩
  clear q0 q1 q2 q3 hsz
  go_wp2_with fail
  refine (MDG.out _ _ HBX.out).mono ?_
  rintro e w1 (⟨hno, rfl, h1⟩ | ⟨hmk, ca, rfl, h1⟩)
  · have H1 := Lib.hid h1
    clear h1
    go_wp2_with fail
    refine (MDG.out _ _ H1.out).mono ?_
    rintro e w2 (⟨_, rfl, h2⟩ | ⟨hmk, cb, rfl, h2⟩)
    · have H2 := Lib.hid h2
      clear h2
      go_wp2_with fail
      refine (AL.out w2 _ H2.out).mono ?_
      rintro e w1 ⟨rfl, h1⟩
      go_wp2_with fail
      go_ret
      exact ⟨rfl, h1.1⟩
    · exact absurd hmk hno
  have H1 := Lib.hid h1
  clear h1
  go_wp2_with fail
  refine (MDG.out _ _ H1.out).mono ?_
  rintro e w2 (⟨hno, _, _⟩ | ⟨_, cb, rfl, h2⟩)
  · exact absurd hmk hno
  have T := Lib.hid (mk_ok hmk acts).1
  have OK := Lib.hid (mk_ok hmk acts).2
  have H2 := Lib.hid h2.swap
  have hN := T.out.2.1
  clear h2 hmk MDG GR GX HB HBS HBX H1
  generalize actsS tb newS acts = s at *
  obtain ⟨q0, q1, q2, q3⟩ := (H2.out.front 2).cells4
  have DO := Lib.hid (do_any w w2 _ ca tb bud s T.out OK.out H2.out ⟨kd, cls, o, xa, xc, xl⟩ (fun G w' h => h.reads0 HX.out) xl3)
  have eXc : (⟨kd, cls, o, xa, xc, xl⟩ : ActV).c = ⟨kd, cls, o, xl⟩ := rfl
  rw [eXc] at DO
  have OK2 := Lib.hid (actS_ok T.out OK.out ⟨kd, cls, o, xl⟩)
  have LAW0 : doE tb s ⟨kd, cls, o, xl⟩ ≠ 0 ∨ kd = 1 → ∀ i, (actS tb s ⟨kd, cls, o, xl⟩ i).objs = (s i).objs ∧ (actS tb s ⟨kd, cls, o, xl⟩ i).low = (s i).low ∧ (¬ (kd = 0 ∧ (i : Int) = cls) → (actS tb s ⟨kd, cls, o, xl⟩ i).lim = (s i).lim) := fun h i => refuses_law (x := ⟨kd, cls, o, xl⟩) h i
  generalize hs2 : actS tb s ⟨kd, cls, o, xl⟩ = s2 at *
  generalize he : doE tb s ⟨kd, cls, o, xl⟩ = er at *
  generalize doL tb s ⟨kd, cls, o, xl⟩ = dl at *
  have LAW1 := Lib.hid LAW0
  clear eXc LAW0 hs2 he
  go_wp2_with fail
  refine DO.out.mono ?_
  rintro e w6 ⟨a6, c6, rfl, h6⟩
  have H6 : Hid (St w (cacheP ca tb bud s2 :: cacheP cb tb bud s :: HP.blk w.heap.size #[.int .i64 kd, .int .i64 cls, .int .i64 o, .slice xa xl.length xc] 37 :: []) w6) := Lib.hid h6.drop
  clear h6 DO q0 q1 q2 q3 H2
  obtain ⟨q0, q1, q2, q3⟩ := (H6.out.front 2).cells4
  by_cases he0 : er = 0
  · by_cases hk1 : kd = 1
    · have f1 : (er == 0) = true := by rw [beq_iff_eq]; exact he0
      have f2 : (kd != 1) = false := by rw [bne_eq_false_iff_eq]; exact hk1
      have LAW := Lib.hid (LAW1.out (.inr hk1))
      clear he0 hk1
      go_wp2_with fail
      clear q0 q1 q2 q3 f1 f2
      go_loopw [13] (fun i wr => ∃ k : Nat, k ≤ tb.length ∧ i = .int .i64 k ∧ Hid (St w (cacheP ca tb bud s2 :: cacheP cb tb bud s :: HP.blk w.heap.size #[.int .i64 kd, .int .i64 cls, .int .i64 o, .slice xa xl.length xc] 37 :: []) wr)) (fun i _ => tb.length - (intOf i).toNat)
      case atStart => exact ⟨0, Nat.zero_le _, rfl, H6⟩
      case round =>
        clear H6
        obtain ⟨k, hk, rfl, HS⟩ := hrel
        obtain ⟨q0, q1, q2, q3⟩ := (HS.out.front 2).cells4
        by_cases hlt : k < tb.length
        · have OA := Lib.hid fun w9 (L : List HP) (g : St w (cacheP ca tb bud s2 :: L) w9) => objects_in w w9 L ca tb bud s2 k hN (OK2.out k) g hlt
          have OB := Lib.hid fun w9 (L : List HP) (g : St w (cacheP cb tb bud s :: L) w9) => objects_in w w9 L cb tb bud s k hN (OK.out k) g hlt
          have WA := Lib.hid fun w9 (L : List HP) (g : St w (cacheP ca tb bud s2 :: L) w9) => low_in w w9 L ca tb bud s2 hN g k hlt
          have WB := Lib.hid fun w9 (L : List HP) (g : St w (cacheP cb tb bud s :: L) w9) => low_in w w9 L cb tb bud s hN g k hlt
          have MA := Lib.hid fun w9 (L : List HP) (g : St w (cacheP ca tb bud s2 :: L) w9) => limit_in w w9 L ca tb bud s2 hN g k hlt
          have MB := Lib.hid fun w9 (L : List HP) (g : St w (cacheP cb tb bud s :: L) w9) => limit_in w w9 L cb tb bud s hN g k hlt
          obtain ⟨l1, l2, l3⟩ := LAW.out k
          have hol := (OK.out k).2.2.2
          have hne1 : (((s k).low : Int) != ((s k).low : Int)) = false := by simp
          have hne2 : (((s k).lim : Int) != ((s k).lim : Int)) = false := by simp
          rw [l1] at OA
          rw [l2] at WA
          by_cases hm : kd = 0 ∧ (k : Int) = cls
          · obtain ⟨hm1, hm2⟩ := hm
            have f1 : ((kd : Int) == 0) = true := by rw [beq_iff_eq]; exact hm1
            have f2 : ((k : Int) == cls) = true := by rw [beq_iff_eq]; exact hm2
            clear hm1 hm2 l1 l2 l3
            go_wp2_with fail
            refine (OA.out _ _ HS.out).mono ?_
            rintro e w4 ⟨a4, c4, rfl, g4⟩
            go_wp2_with fail
            refine (OB.out _ _ (g4.front 2)).mono ?_
            rintro e w5 ⟨a5, c5, rfl, g5⟩
            have g5' : St w (intsP (.slice a5 (s k).objs.length c5) (s k).objs :: cacheP cb tb bud s :: intsP (.slice a4 (s k).objs.length c4) (s k).objs :: cacheP ca tb bud s2 :: HP.blk w.heap.size #[.int .i64 kd, .int .i64 cls, .int .i64 o, .slice xa xl.length xc] 37 :: []) w5 := g5
            go_wp2_with fail
            refine (Ints_is w5 true a4 a5 (s k).objs.length c4 c5 (s k).objs (s k).objs rfl rfl (decide_eq_true rfl) (HP.arr_reads (g5'.front 2)) (HP.arr_reads g5') (by omega)).mono ?_
            rintro e w6 ⟨rfl, n6, rfl⟩
            have G6 : Hid (St w (cacheP ca tb bud s2 :: cacheP cb tb bud s :: HP.blk w.heap.size #[.int .i64 kd, .int .i64 cls, .int .i64 o, .slice xa xl.length xc] 37 :: []) (w5.drewN n6)) := Lib.hid ((g5'.drewN n6).pick 5 [3, 1, 4])
            clear g4 g5 g5'
            go_wp2_with fail
            refine (WA.out _ _ G6.out).mono ?_
            rintro e w7 ⟨rfl, g7⟩
            have G7 : Hid (St w (cacheP cb tb bud s :: cacheP ca tb bud s2 :: HP.blk w.heap.size #[.int .i64 kd, .int .i64 cls, .int .i64 o, .slice xa xl.length xc] 37 :: []) w7) := Lib.hid g7.swap
            clear g7
            go_wp2_with fail
            refine (WB.out _ _ G7.out).mono ?_
            rintro e w8 ⟨rfl, g8⟩
            have G8 : Hid (St w (cacheP ca tb bud s2 :: cacheP cb tb bud s :: HP.blk w.heap.size #[.int .i64 kd, .int .i64 cls, .int .i64 o, .slice xa xl.length xc] 37 :: []) w8) := Lib.hid g8.swap
            clear g8
            go_wp2_with fail
            go_roundw
            case rel => exact ⟨k + 1, hlt, by go_num, G8⟩
            case measure => simp [intOf]; omega
          · rw [l3 hm] at MA
            by_cases hk0 : kd = 0
            · have f1 : ((kd : Int) == 0) = true := by rw [beq_iff_eq]; exact hk0
              have f2 : ((k : Int) == cls) = false := by rw [beq_eq_false_iff_ne]; exact fun h => hm ⟨hk0, h⟩
              clear hm hk0 l1 l2 l3
              go_wp2_with fail
              refine (OA.out _ _ HS.out).mono ?_
              rintro e w4 ⟨a4, c4, rfl, g4⟩
              go_wp2_with fail
              refine (OB.out _ _ (g4.front 2)).mono ?_
              rintro e w5 ⟨a5, c5, rfl, g5⟩
              have g5' : St w (intsP (.slice a5 (s k).objs.length c5) (s k).objs :: cacheP cb tb bud s :: intsP (.slice a4 (s k).objs.length c4) (s k).objs :: cacheP ca tb bud s2 :: HP.blk w.heap.size #[.int .i64 kd, .int .i64 cls, .int .i64 o, .slice xa xl.length xc] 37 :: []) w5 := g5
              go_wp2_with fail
              refine (Ints_is w5 true a4 a5 (s k).objs.length c4 c5 (s k).objs (s k).objs rfl rfl (decide_eq_true rfl) (HP.arr_reads (g5'.front 2)) (HP.arr_reads g5') (by omega)).mono ?_
              rintro e w6 ⟨rfl, n6, rfl⟩
              have G6 : Hid (St w (cacheP ca tb bud s2 :: cacheP cb tb bud s :: HP.blk w.heap.size #[.int .i64 kd, .int .i64 cls, .int .i64 o, .slice xa xl.length xc] 37 :: []) (w5.drewN n6)) := Lib.hid ((g5'.drewN n6).pick 5 [3, 1, 4])
              clear g4 g5 g5'
              go_wp2_with fail
              refine (WA.out _ _ G6.out).mono ?_
              rintro e w7 ⟨rfl, g7⟩
              have G7 : Hid (St w (cacheP cb tb bud s :: cacheP ca tb bud s2 :: HP.blk w.heap.size #[.int .i64 kd, .int .i64 cls, .int .i64 o, .slice xa xl.length xc] 37 :: []) w7) := Lib.hid g7.swap
              clear g7
              go_wp2_with fail
              refine (WB.out _ _ G7.out).mono ?_
              rintro e w8 ⟨rfl, g8⟩
              have G8 : Hid (St w (cacheP ca tb bud s2 :: cacheP cb tb bud s :: HP.blk w.heap.size #[.int .i64 kd, .int .i64 cls, .int .i64 o, .slice xa xl.length xc] 37 :: []) w8) := Lib.hid g8.swap
              clear g8
              go_wp2_with fail
              refine (MA.out _ _ G8.out).mono ?_
              rintro e w9 ⟨rfl, g9⟩
              have G9 : Hid (St w (cacheP cb tb bud s :: cacheP ca tb bud s2 :: HP.blk w.heap.size #[.int .i64 kd, .int .i64 cls, .int .i64 o, .slice xa xl.length xc] 37 :: []) w9) := Lib.hid g9.swap
              clear g9
              go_wp2_with fail
              refine (MB.out _ _ G9.out).mono ?_
              rintro e w10 ⟨rfl, g10⟩
              have G10 : Hid (St w (cacheP ca tb bud s2 :: cacheP cb tb bud s :: HP.blk w.heap.size #[.int .i64 kd, .int .i64 cls, .int .i64 o, .slice xa xl.length xc] 37 :: []) w10) := Lib.hid g10.swap
              clear g10
              go_wp2_with fail
              go_roundw
              case rel => exact ⟨k + 1, hlt, by go_num, G10⟩
              case measure => simp [intOf]; omega
            · have f1 : ((kd : Int) == 0) = false := by rw [beq_eq_false_iff_ne]; exact hk0
              clear hm hk0 l1 l2 l3
              go_wp2_with fail
              refine (OA.out _ _ HS.out).mono ?_
              rintro e w4 ⟨a4, c4, rfl, g4⟩
              go_wp2_with fail
              refine (OB.out _ _ (g4.front 2)).mono ?_
              rintro e w5 ⟨a5, c5, rfl, g5⟩
              have g5' : St w (intsP (.slice a5 (s k).objs.length c5) (s k).objs :: cacheP cb tb bud s :: intsP (.slice a4 (s k).objs.length c4) (s k).objs :: cacheP ca tb bud s2 :: HP.blk w.heap.size #[.int .i64 kd, .int .i64 cls, .int .i64 o, .slice xa xl.length xc] 37 :: []) w5 := g5
              go_wp2_with fail
              refine (Ints_is w5 true a4 a5 (s k).objs.length c4 c5 (s k).objs (s k).objs rfl rfl (decide_eq_true rfl) (HP.arr_reads (g5'.front 2)) (HP.arr_reads g5') (by omega)).mono ?_
              rintro e w6 ⟨rfl, n6, rfl⟩
              have G6 : Hid (St w (cacheP ca tb bud s2 :: cacheP cb tb bud s :: HP.blk w.heap.size #[.int .i64 kd, .int .i64 cls, .int .i64 o, .slice xa xl.length xc] 37 :: []) (w5.drewN n6)) := Lib.hid ((g5'.drewN n6).pick 5 [3, 1, 4])
              clear g4 g5 g5'
              go_wp2_with fail
              refine (WA.out _ _ G6.out).mono ?_
              rintro e w7 ⟨rfl, g7⟩
              have G7 : Hid (St w (cacheP cb tb bud s :: cacheP ca tb bud s2 :: HP.blk w.heap.size #[.int .i64 kd, .int .i64 cls, .int .i64 o, .slice xa xl.length xc] 37 :: []) w7) := Lib.hid g7.swap
              clear g7
              go_wp2_with fail
              refine (WB.out _ _ G7.out).mono ?_
              rintro e w8 ⟨rfl, g8⟩
              have G8 : Hid (St w (cacheP ca tb bud s2 :: cacheP cb tb bud s :: HP.blk w.heap.size #[.int .i64 kd, .int .i64 cls, .int .i64 o, .slice xa xl.length xc] 37 :: []) w8) := Lib.hid g8.swap
              clear g8
              go_wp2_with fail
              refine (MA.out _ _ G8.out).mono ?_
              rintro e w9 ⟨rfl, g9⟩
              have G9 : Hid (St w (cacheP cb tb bud s :: cacheP ca tb bud s2 :: HP.blk w.heap.size #[.int .i64 kd, .int .i64 cls, .int .i64 o, .slice xa xl.length xc] 37 :: []) w9) := Lib.hid g9.swap
              clear g9
              go_wp2_with fail
              refine (MB.out _ _ G9.out).mono ?_
              rintro e w10 ⟨rfl, g10⟩
              have G10 : Hid (St w (cacheP ca tb bud s2 :: cacheP cb tb bud s :: HP.blk w.heap.size #[.int .i64 kd, .int .i64 cls, .int .i64 o, .slice xa xl.length xc] 37 :: []) w10) := Lib.hid g10.swap
              clear g10
              go_wp2_with fail
              go_roundw
              case rel => exact ⟨k + 1, hlt, by go_num, G10⟩
              case measure => simp [intOf]; omega
        · clear q0 q1 q2 q3
          go_wp2_with fail
          refine (AL.out _ _ HS.out).mono ?_
          rintro e w1 ⟨rfl, h1⟩
          go_wp2_with fail
          go_ret
          exact ⟨rfl, h1.1⟩
    · have f1 : (er == 0) = true := by rw [beq_iff_eq]; exact he0
      have f2 : (kd != 1) = true := by rw [bne_iff_ne]; exact hk1
      clear he0 hk1
      go_wp2_with fail
      refine (AL.out _ _ H6.out).mono ?_
      rintro e w1 ⟨rfl, h1⟩
      go_wp2_with fail
      go_ret
      exact ⟨rfl, h1.1⟩
  · have f1 : (er == 0) = false := by rw [beq_eq_false_iff_ne]; exact he0
    have LAW := Lib.hid (LAW1.out (.inl he0))
    clear he0
    go_wp2_with fail
    clear q0 q1 q2 q3 f1
    go_loopw [13] (fun i wr => ∃ k : Nat, k ≤ tb.length ∧ i = .int .i64 k ∧ Hid (St w (cacheP ca tb bud s2 :: cacheP cb tb bud s :: HP.blk w.heap.size #[.int .i64 kd, .int .i64 cls, .int .i64 o, .slice xa xl.length xc] 37 :: []) wr)) (fun i _ => tb.length - (intOf i).toNat)
    case atStart => exact ⟨0, Nat.zero_le _, rfl, H6⟩
    case round =>
      clear H6
      obtain ⟨k, hk, rfl, HS⟩ := hrel
      obtain ⟨q0, q1, q2, q3⟩ := (HS.out.front 2).cells4
      by_cases hlt : k < tb.length
      · have OA := Lib.hid fun w9 (L : List HP) (g : St w (cacheP ca tb bud s2 :: L) w9) => objects_in w w9 L ca tb bud s2 k hN (OK2.out k) g hlt
        have OB := Lib.hid fun w9 (L : List HP) (g : St w (cacheP cb tb bud s :: L) w9) => objects_in w w9 L cb tb bud s k hN (OK.out k) g hlt
        have WA := Lib.hid fun w9 (L : List HP) (g : St w (cacheP ca tb bud s2 :: L) w9) => low_in w w9 L ca tb bud s2 hN g k hlt
        have WB := Lib.hid fun w9 (L : List HP) (g : St w (cacheP cb tb bud s :: L) w9) => low_in w w9 L cb tb bud s hN g k hlt
        have MA := Lib.hid fun w9 (L : List HP) (g : St w (cacheP ca tb bud s2 :: L) w9) => limit_in w w9 L ca tb bud s2 hN g k hlt
        have MB := Lib.hid fun w9 (L : List HP) (g : St w (cacheP cb tb bud s :: L) w9) => limit_in w w9 L cb tb bud s hN g k hlt
        obtain ⟨l1, l2, l3⟩ := LAW.out k
        have hol := (OK.out k).2.2.2
        have hne1 : (((s k).low : Int) != ((s k).low : Int)) = false := by simp
        have hne2 : (((s k).lim : Int) != ((s k).lim : Int)) = false := by simp
        rw [l1] at OA
        rw [l2] at WA
        by_cases hm : kd = 0 ∧ (k : Int) = cls
        · obtain ⟨hm1, hm2⟩ := hm
          have f1 : ((kd : Int) == 0) = true := by rw [beq_iff_eq]; exact hm1
          have f2 : ((k : Int) == cls) = true := by rw [beq_iff_eq]; exact hm2
          clear hm1 hm2 l1 l2 l3
          go_wp2_with fail
          refine (OA.out _ _ HS.out).mono ?_
          rintro e w4 ⟨a4, c4, rfl, g4⟩
          go_wp2_with fail
          refine (OB.out _ _ (g4.front 2)).mono ?_
          rintro e w5 ⟨a5, c5, rfl, g5⟩
          have g5' : St w (intsP (.slice a5 (s k).objs.length c5) (s k).objs :: cacheP cb tb bud s :: intsP (.slice a4 (s k).objs.length c4) (s k).objs :: cacheP ca tb bud s2 :: HP.blk w.heap.size #[.int .i64 kd, .int .i64 cls, .int .i64 o, .slice xa xl.length xc] 37 :: []) w5 := g5
          go_wp2_with fail
          refine (Ints_is w5 true a4 a5 (s k).objs.length c4 c5 (s k).objs (s k).objs rfl rfl (decide_eq_true rfl) (HP.arr_reads (g5'.front 2)) (HP.arr_reads g5') (by omega)).mono ?_
          rintro e w6 ⟨rfl, n6, rfl⟩
          have G6 : Hid (St w (cacheP ca tb bud s2 :: cacheP cb tb bud s :: HP.blk w.heap.size #[.int .i64 kd, .int .i64 cls, .int .i64 o, .slice xa xl.length xc] 37 :: []) (w5.drewN n6)) := Lib.hid ((g5'.drewN n6).pick 5 [3, 1, 4])
          clear g4 g5 g5'
          go_wp2_with fail
          refine (WA.out _ _ G6.out).mono ?_
          rintro e w7 ⟨rfl, g7⟩
          have G7 : Hid (St w (cacheP cb tb bud s :: cacheP ca tb bud s2 :: HP.blk w.heap.size #[.int .i64 kd, .int .i64 cls, .int .i64 o, .slice xa xl.length xc] 37 :: []) w7) := Lib.hid g7.swap
          clear g7
          go_wp2_with fail
          refine (WB.out _ _ G7.out).mono ?_
          rintro e w8 ⟨rfl, g8⟩
          have G8 : Hid (St w (cacheP ca tb bud s2 :: cacheP cb tb bud s :: HP.blk w.heap.size #[.int .i64 kd, .int .i64 cls, .int .i64 o, .slice xa xl.length xc] 37 :: []) w8) := Lib.hid g8.swap
          clear g8
          go_wp2_with fail
          go_roundw
          case rel => exact ⟨k + 1, hlt, by go_num, G8⟩
          case measure => simp [intOf]; omega
        · rw [l3 hm] at MA
          by_cases hk0 : kd = 0
          · have f1 : ((kd : Int) == 0) = true := by rw [beq_iff_eq]; exact hk0
            have f2 : ((k : Int) == cls) = false := by rw [beq_eq_false_iff_ne]; exact fun h => hm ⟨hk0, h⟩
            clear hm hk0 l1 l2 l3
            go_wp2_with fail
            refine (OA.out _ _ HS.out).mono ?_
            rintro e w4 ⟨a4, c4, rfl, g4⟩
            go_wp2_with fail
            refine (OB.out _ _ (g4.front 2)).mono ?_
            rintro e w5 ⟨a5, c5, rfl, g5⟩
            have g5' : St w (intsP (.slice a5 (s k).objs.length c5) (s k).objs :: cacheP cb tb bud s :: intsP (.slice a4 (s k).objs.length c4) (s k).objs :: cacheP ca tb bud s2 :: HP.blk w.heap.size #[.int .i64 kd, .int .i64 cls, .int .i64 o, .slice xa xl.length xc] 37 :: []) w5 := g5
            go_wp2_with fail
            refine (Ints_is w5 true a4 a5 (s k).objs.length c4 c5 (s k).objs (s k).objs rfl rfl (decide_eq_true rfl) (HP.arr_reads (g5'.front 2)) (HP.arr_reads g5') (by omega)).mono ?_
            rintro e w6 ⟨rfl, n6, rfl⟩
            have G6 : Hid (St w (cacheP ca tb bud s2 :: cacheP cb tb bud s :: HP.blk w.heap.size #[.int .i64 kd, .int .i64 cls, .int .i64 o, .slice xa xl.length xc] 37 :: []) (w5.drewN n6)) := Lib.hid ((g5'.drewN n6).pick 5 [3, 1, 4])
            clear g4 g5 g5'
            go_wp2_with fail
            refine (WA.out _ _ G6.out).mono ?_
            rintro e w7 ⟨rfl, g7⟩
            have G7 : Hid (St w (cacheP cb tb bud s :: cacheP ca tb bud s2 :: HP.blk w.heap.size #[.int .i64 kd, .int .i64 cls, .int .i64 o, .slice xa xl.length xc] 37 :: []) w7) := Lib.hid g7.swap
            clear g7
            go_wp2_with fail
            refine (WB.out _ _ G7.out).mono ?_
            rintro e w8 ⟨rfl, g8⟩
            have G8 : Hid (St w (cacheP ca tb bud s2 :: cacheP cb tb bud s :: HP.blk w.heap.size #[.int .i64 kd, .int .i64 cls, .int .i64 o, .slice xa xl.length xc] 37 :: []) w8) := Lib.hid g8.swap
            clear g8
            go_wp2_with fail
            refine (MA.out _ _ G8.out).mono ?_
            rintro e w9 ⟨rfl, g9⟩
            have G9 : Hid (St w (cacheP cb tb bud s :: cacheP ca tb bud s2 :: HP.blk w.heap.size #[.int .i64 kd, .int .i64 cls, .int .i64 o, .slice xa xl.length xc] 37 :: []) w9) := Lib.hid g9.swap
            clear g9
            go_wp2_with fail
            refine (MB.out _ _ G9.out).mono ?_
            rintro e w10 ⟨rfl, g10⟩
            have G10 : Hid (St w (cacheP ca tb bud s2 :: cacheP cb tb bud s :: HP.blk w.heap.size #[.int .i64 kd, .int .i64 cls, .int .i64 o, .slice xa xl.length xc] 37 :: []) w10) := Lib.hid g10.swap
            clear g10
            go_wp2_with fail
            go_roundw
            case rel => exact ⟨k + 1, hlt, by go_num, G10⟩
            case measure => simp [intOf]; omega
          · have f1 : ((kd : Int) == 0) = false := by rw [beq_eq_false_iff_ne]; exact hk0
            clear hm hk0 l1 l2 l3
            go_wp2_with fail
            refine (OA.out _ _ HS.out).mono ?_
            rintro e w4 ⟨a4, c4, rfl, g4⟩
            go_wp2_with fail
            refine (OB.out _ _ (g4.front 2)).mono ?_
            rintro e w5 ⟨a5, c5, rfl, g5⟩
            have g5' : St w (intsP (.slice a5 (s k).objs.length c5) (s k).objs :: cacheP cb tb bud s :: intsP (.slice a4 (s k).objs.length c4) (s k).objs :: cacheP ca tb bud s2 :: HP.blk w.heap.size #[.int .i64 kd, .int .i64 cls, .int .i64 o, .slice xa xl.length xc] 37 :: []) w5 := g5
            go_wp2_with fail
            refine (Ints_is w5 true a4 a5 (s k).objs.length c4 c5 (s k).objs (s k).objs rfl rfl (decide_eq_true rfl) (HP.arr_reads (g5'.front 2)) (HP.arr_reads g5') (by omega)).mono ?_
            rintro e w6 ⟨rfl, n6, rfl⟩
            have G6 : Hid (St w (cacheP ca tb bud s2 :: cacheP cb tb bud s :: HP.blk w.heap.size #[.int .i64 kd, .int .i64 cls, .int .i64 o, .slice xa xl.length xc] 37 :: []) (w5.drewN n6)) := Lib.hid ((g5'.drewN n6).pick 5 [3, 1, 4])
            clear g4 g5 g5'
            go_wp2_with fail
            refine (WA.out _ _ G6.out).mono ?_
            rintro e w7 ⟨rfl, g7⟩
            have G7 : Hid (St w (cacheP cb tb bud s :: cacheP ca tb bud s2 :: HP.blk w.heap.size #[.int .i64 kd, .int .i64 cls, .int .i64 o, .slice xa xl.length xc] 37 :: []) w7) := Lib.hid g7.swap
            clear g7
            go_wp2_with fail
            refine (WB.out _ _ G7.out).mono ?_
            rintro e w8 ⟨rfl, g8⟩
            have G8 : Hid (St w (cacheP ca tb bud s2 :: cacheP cb tb bud s :: HP.blk w.heap.size #[.int .i64 kd, .int .i64 cls, .int .i64 o, .slice xa xl.length xc] 37 :: []) w8) := Lib.hid g8.swap
            clear g8
            go_wp2_with fail
            refine (MA.out _ _ G8.out).mono ?_
            rintro e w9 ⟨rfl, g9⟩
            have G9 : Hid (St w (cacheP cb tb bud s :: cacheP ca tb bud s2 :: HP.blk w.heap.size #[.int .i64 kd, .int .i64 cls, .int .i64 o, .slice xa xl.length xc] 37 :: []) w9) := Lib.hid g9.swap
            clear g9
            go_wp2_with fail
            refine (MB.out _ _ G9.out).mono ?_
            rintro e w10 ⟨rfl, g10⟩
            have G10 : Hid (St w (cacheP ca tb bud s2 :: cacheP cb tb bud s :: HP.blk w.heap.size #[.int .i64 kd, .int .i64 cls, .int .i64 o, .slice xa xl.length xc] 37 :: []) w10) := Lib.hid g10.swap
            clear g10
            go_wp2_with fail
            go_roundw
            case rel => exact ⟨k + 1, hlt, by go_num, G10⟩
            case measure => simp [intOf]; omega
      · clear q0 q1 q2 q3
        go_wp2_with fail
        refine (AL.out _ _ HS.out).mono ?_
        rintro e w1 ⟨rfl, h1⟩
        go_wp2_with fail
        go_ret
        exact ⟨rfl, h1.1⟩
end Go.Proofs.Ytaejojbdkgccpaa

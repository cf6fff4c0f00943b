/-
  The law CacheLow. (Printed by mkL8.py.)
-/
import Derived.Test.YtaejojbdkgccpaaL7
namespace Go.Proofs.Ytaejojbdkgccpaa
open Go.RowKit Go.Maps Go.ChangeMaps

theorem low_law {tb : List Cls} {s : Nat → CL} (hok : ∀ k, (s k).ok) {x : ActC} (h4 : x.kind ≠ 4) (h5 : x.kind ≠ 5) (k : Nat) : (actS tb s x k).low = min (s k).low (actS tb s x k).objs.length := by
  obtain ⟨kd, cls, o, l⟩ := x
  dsimp only at *
  have hk := hok k
  obtain ⟨_, _, h3, _⟩ := hk
  have same : ∀ {y : CL}, y = s k → y.low = min (s k).low y.objs.length := fun {y} e => by subst e; omega
  by_cases hin : inC tb.length cls
  rotate_left
  · refine same ?_
    unfold actS actC
    dsimp only
    rw [if_neg h4, if_neg h5, if_pos hin]
  by_cases hi : k = cls.toNat
  rotate_left
  · refine same ?_
    unfold actS actC
    dsimp only
    rw [if_neg h4, if_neg h5, if_neg (not_not_intro hin)]
    split
    · exact updC_other s _ hi
    split
    · exact updC_other s _ hi
    split
    · exact updC_other s _ hi
    · rfl
  subst hi
  have e : actS tb s ⟨kd, cls, o, l⟩ cls.toNat = if kd = 0 then (s cls.toNat).takeF (Bt tb cls.toNat) else if kd = 2 then (s cls.toNat).fillF l else if kd = 3 then (s cls.toNat).putF (Bt tb cls.toNat) o else s cls.toNat := by
    unfold actS actC
    dsimp only
    rw [if_neg h4, if_neg h5, if_neg (not_not_intro hin)]
    split
    · exact updC_same _ _ _
    split
    · exact updC_same _ _ _
    split
    · exact updC_same _ _ _
    · rfl
  rw [e]
  generalize s cls.toNat = y at *
  split
  · unfold CL.takeF
    split
    · show y.low = min y.low y.objs.length
      omega
    · show min y.low (y.objs.length - 1) = min y.low (y.objs.take (y.objs.length - 1)).length
      rw [List.length_take]
      omega
  split
  · unfold CL.fillF
    split
    · omega
    · show y.low = min y.low (y.objs ++ l.reverse).length
      rw [List.length_append]
      omega
  split
  · unfold CL.putF
    split
    · omega
    · split
      · show y.low = min y.low (y.objs ++ [o]).length
        rw [List.length_append]
        omega
      · unfold CL.oldest
        show min y.low ((y.objs ++ [o]).length - _) = min y.low (List.drop _ (y.objs ++ [o])).length
        rw [List.length_drop]
  · omega
theorem pick_outB {fL : CL → List Int} {s : Nat → CL} {k : Nat} : ∀ n, ((outB fL s n).filter fun x => x.1 == k).flatMap Prod.snd = if k < n then fL (s k) else []
  | 0 => by simp [outB]
  | n + 1 => by
    have ih := pick_outB (fL := fL) (s := s) (k := k) n
    by_cases hp : 0 < (fL (s n)).length
    · rw [outB_yes hp, List.filter_append, List.flatMap_append, ih]
      by_cases hkn : n = k
      · subst hkn
        simp
      · have e2 : (k < n + 1) = (k < n) := by apply propext; omega
        simp [hkn, e2]
    · rw [outB_no hp, ih]
      by_cases hkn : n = k
      · subst hkn
        have : fL (s n) = [] := List.eq_nil_of_length_eq_zero (by omega)
        simp [this]
      · have e2 : (k < n + 1) = (k < n) := by apply propext; omega
        simp only [e2]
/-- the objects of the batches of class k among these -/
def goneO (zs : List BO) (k : Nat) : List Int := (zs.filter fun z => z.c == k).flatMap BO.o
theorem goneO_all (zs : List BO) (k : Nat) : goneO zs k = ((zs.map BO.key).filter fun x => x.1 == k).flatMap Prod.snd := by
  induction zs with
  | nil => rfl
  | cons z zs ih =>
    unfold goneO at *
    rw [List.map_cons, List.filter_cons, List.filter_cons]
    show _ = List.flatMap Prod.snd (if (z.c == k) = true then _ else _)
    split
    · rw [List.flatMap_cons, List.flatMap_cons, ih]
      rfl
    · exact ih
theorem goneO_succ {zs : List BO} {j k : Nat} {z : BO} (h : zs[j]? = some z) : goneO (zs.take (j + 1)) k = goneO (zs.take j) k ++ if z.c = k then z.o else [] := by
  unfold goneO
  rw [List.take_add_one, h, List.filter_append, List.flatMap_append]
  congr 1
  by_cases e : z.c = k <;> simp [e]
theorem goneO_len (zs : List BO) (j k : Nat) : (goneO (zs.take j) k).length ≤ (flatO zs).length := by
  have h1 : ∀ ys : List BO, (goneO ys k).length ≤ (flatO ys).length := fun ys => by
    induction ys with
    | nil => exact Nat.le_refl _
    | cons z ys ih =>
      unfold goneO flatO at *
      rw [List.filter_cons, List.flatMap_cons, List.length_append]
      split
      · rw [List.flatMap_cons, List.length_append]; omega
      · omega
  have h2 : (flatO (zs.take j)).length ≤ (flatO zs).length := by
    have h := flatO_len zs j
    exact h
  exact Nat.le_trans (h1 _) h2
set_option maxRecDepth 10000 in
set_option maxHeartbeats 16000000 in
theorem low_walk (a : Option Addr) (cap : Nat) (tb : List Cls) (bud : Int) (_w1 : (Lit.int .i64 bud).wf = true) (a2 : Option Addr) (cap2 : Nat) (acts : List ActV) (m : Int) (wm : (Lit.int .u8 m).wf = true) (w : World)
    (ht : Reads w 3 (.slice a tb.length cap) tb.length (clsC tb)) (_hn : tb.length ≤ 9223372036854775807) (h : ActsAt w (.slice a2 acts.length cap2) acts) (hn2 : acts.length ≤ 9223372036854775807) :
    Calls Try.prog 7 #[.slice a tb.length cap, .int .i64 bud, .slice a2 acts.length cap2, .int .u8 m] w fun e w' => e = .returned (.bool true) ∧ Below w.heap.size w w' := by
  have GR := Lib.hid (great_any w a2 cap2 acts h hn2)
  have AL := Lib.hid fun w1 (L : List HP) (h1 : St w L w1) => alive_any w w1 L h1
  have mr : 0 ≤ m ∧ m ≤ 255 := by
    simp only [Lit.wf, decide_eq_true_eq, Bool.and_eq_true] at wm
    exact wm
  cases hg : greatB acts with
  | true =>
    rw [hg] at GR
    clear h ht hg
    go_enter Try.func7, Try.ntmps7
    go_wp2_with fail
    refine GR.out.mono ?_
    rintro e w' ⟨rfl, rfl⟩
    go_wp2_with fail
    refine (AL.out w _ (St.start w)).mono ?_
    rintro e w1 ⟨rfl, h1⟩
    go_wp2_with fail
    go_ret
    exact ⟨rfl, h1.1⟩
  | false =>
  obtain ⟨n60, n300⟩ := acts_ok hg
  rw [hg] at GR
  have hnil : ActsAt w (.slice none ([] : List ActV).length 0) [] := ⟨Reads.nil w 4, fun x hx => by cases hx⟩
  have MD := Lib.hid (made_any w w [] (St.start w) a cap tb (fun G w' h => h.reads0 ht) bud none 0 [] hnil (by simp) (by simp))
  have HA := Lib.hid h
  have N300 := Lib.hid n300
  clear h ht hg n300 hnil
  go_enter Try.func7, Try.ntmps7
  go_wp2_with fail
  refine GR.out.mono ?_
  rintro e w' ⟨rfl, rfl⟩
  go_wp2_with fail
  refine MD.out.mono ?_
  rintro e w1 (⟨_, rfl, h1⟩ | ⟨hmk, c, rfl, h1⟩)
  · have H1 := Lib.hid h1
    clear h1
    go_wp2_with fail
    refine (AL.out w1 _ H1.out).mono ?_
    rintro e w1 ⟨rfl, h1⟩
    go_wp2_with fail
    go_ret
    exact ⟨rfl, h1.1⟩
  have T := Lib.hid (mk_ok hmk []).1
  have H1 : Hid (St w (cacheP c tb bud newS :: []) w1) := Lib.hid h1
  have hN := T.out.2.1
  have hN1 := T.out.1
  clear h1 hmk MD GR
  obtain ⟨mn, rfl⟩ : ∃ mn : Nat, m = (mn : Int) := ⟨m.toNat, by omega⟩
  obtain ⟨k, hkx⟩ : ∃ k, mn % tb.length = k := ⟨_, rfl⟩
  have hkN : k < tb.length := by rw [← hkx]; exact Nat.mod_lt _ (by omega)
  have r0 : (mn : Int).tmod (tb.length : Int) = (k : Int) := by rw [Int.tmod_eq_emod_of_nonneg (by omega), ← hkx]; rfl
  have r1 : (mn : Int) % (tb.length : Int) = (k : Int) := by rw [← hkx]; rfl
  have r2 : ((tb.length : Int) == 0) = false := by rw [beq_eq_false_iff_ne]; omega
  have r3 : IntKind.i64.wrap (k : Int) = (k : Int) := IntWalk.i64_in _ (by omega)
  have r4 : IntKind.i64.wrap (mn : Int) = (mn : Int) := IntWalk.i64_in _ (by omega)
  obtain ⟨i0, hi, hz0, hz1, hz2⟩ := info_parts info3
  have HI := Lib.hid hi
  have Z0 := Lib.hid hz0
  have Z1 := Lib.hid hz1
  have Z2 := Lib.hid hz2
  clear hi hz0 hz1 hz2 hkx
  go_wp2_with fail
  go_loopw [11, 12] (fun lw i wr => ∃ i' : Nat, i' ≤ acts.length ∧ i = .int .i64 i' ∧ lw = .int .i64 ((actsS tb newS (acts.take i') k).low : Nat) ∧ Hid (St w (cacheP c tb bud (actsS tb newS (acts.take i')) :: []) wr)) (fun _ i _ => acts.length - (intOf i).toNat)
  case atStart => exact ⟨0, Nat.zero_le _, rfl, rfl, H1⟩
  case round =>
    clear H1 r0 r1 r2 r3 r4
    obtain ⟨i, hi, rfl, rfl, HS⟩ := hrel
    by_cases hlt : i < acts.length
    · obtain ⟨x, hx⟩ : ∃ x, acts[i]? = some x := ⟨acts[i], List.getElem?_eq_getElem hlt⟩
      obtain ⟨b, off, cp, e1, k0, k1, k2, k3⟩ := HA.out.cell hx
      have hb0 := World.block_lt_of_cell? w _ k0
      injection e1 with e1 e2 e3
      clear e2 e3
      subst e1
      have hm := List.mem_of_getElem? hx
      have SU0 := actsS_succ tb newS hx
      have OK := Lib.hid (actsS_ok T.out (acts.take i) newS_ok)
      generalize actsS tb newS (acts.take i) = s at *
      obtain ⟨s2, hs2⟩ : ∃ s2, actS tb s x.c = s2 := ⟨_, rfl⟩
      rw [hs2] at SU0
      have OK2 : Hid (∀ j, (s2 j).ok) := Lib.hid (by rw [← hs2]; exact actS_ok T.out OK.out x.c)
      have SU := Lib.hid hs2
      have OB := Lib.hid (objects_in w wr [] c tb bud s k hN (OK.out k) HS.out hkN)
      have CE : Hid (∀ w9 L, St w L w9 → w9.cell? ⟨b, off + i * 4, none⟩ = some (.int .i64 x.kind) ∧ w9.cell? ⟨b, off + i * 4 + 1, none⟩ = some (.int .i64 x.cls) ∧ w9.cell? ⟨b, off + i * 4 + 2, none⟩ = some (.int .i64 x.o) ∧ w9.cell? ⟨b, off + i * 4 + 3, none⟩ = some x.v) := Lib.hid fun w9 L g =>
        ⟨(g.was hb0).trans k0, (g.was (p := ⟨b, off + i * 4 + 1, none⟩) hb0).trans k1, (g.was (p := ⟨b, off + i * 4 + 2, none⟩) hb0).trans k2, (g.was (p := ⟨b, off + i * 4 + 3, none⟩) hb0).trans k3⟩
      have SUC := Lib.hid SU0
      clear hx k0 k1 k2 k3 hb0 SU0 hs2
      by_cases h4 : x.kind = 4
      · skip
        have f4 : (x.kind == 4) = true := by rw [beq_iff_eq]; exact h4
        have f5 : (x.kind == 5) = false := by rw [beq_eq_false_iff_ne]; omega
        have ES : scavS tb s = s2 := by rw [← SU.out]; unfold actS actC; rw [if_pos (show x.c.kind = 4 from h4)]; rfl
        have SC := Lib.hid fun w9 L (g : St w (cacheP c tb bud s :: L) w9) => scavenge_any w w9 L c tb bud s T.out OK.out g
        rw [ES] at SC
        obtain ⟨kk1, kk2, kk3, kk4⟩ := OK.out k
        obtain ⟨l, hyl⟩ : ∃ l, (s k).objs = l := ⟨_, rfl⟩
        obtain ⟨n, hyn⟩ : ∃ n, (s k).scavN = n := ⟨_, rfl⟩
        have hnl : n ≤ l.length := by rw [← hyn, ← hyl]; unfold CL.scavN; omega
        have hdo : (s2 k).objs = l.drop n := by rw [← ES]; show (s k).objs.drop (s k).scavN = _; rw [hyl, hyn]
        have hLL : (s2 k).objs.length = (s2 k).low := by
          rw [hdo, List.length_drop, ← ES]
          show _ = (s k).objs.length - (s k).scavN
          rw [hyl, hyn]
        have hdl : (l.drop n).length = l.length - n := List.length_drop
        have q0 : IntKind.i64.wrap (((s k).low : Int) + 1) = ((s k).low : Int) + 1 := IntWalk.i64_in _ (by omega)
        have q1 : (((s k).low : Int) + 1).tdiv 2 = (n : Int) := by rw [← hyn]; unfold CL.scavN; rw [Int.tdiv_eq_ediv_of_nonneg (by omega)]; omega
        have q2 : (((s k).low : Int) + 1) / 2 = (n : Int) := by rw [← hyn]; unfold CL.scavN; omega
        have q4 : IntKind.i64.wrap (n : Int) = (n : Int) := IntWalk.i64_in _ (by rw [hyl] at kk4; omega)
        have q6 : decide ((l.length : Int) < (n : Int)) = false := decide_eq_false (by omega)
        have q6n : decide (l.length < n) = false := decide_eq_false (by omega)
        have hll : l.length ≤ 256 := by rw [← hyl]; exact kk4
        have LW2 := Lib.hid fun w9 L (g : St w (cacheP c tb bud s2 :: L) w9) => low_in w w9 L c tb bud s2 hN g k hkN
        have LN2 := Lib.hid fun w9 L (g : St w (cacheP c tb bud s2 :: L) w9) => len_in w w9 L c tb bud s2 k hN (OK2.out k) g hkN
        rw [hLL] at LN2
        have OB2 := Lib.hid fun w9 L (g : St w (cacheP c tb bud s2 :: L) w9) => objects_in w w9 L c tb bud s2 k hN (OK2.out k) g hkN
        rw [hdo, hdl] at OB2
        rw [hyl] at OB
        have hbl : (scavB s tb.length).length ≤ 40 := Nat.le_trans (outB_len _ _ _) hN
        have hbo := scavB_objs OK.out tb.length
        have hfs := flat_small hbo hbl
        have HYL := Lib.hid hyl
        have HYN := Lib.hid hyn
        have HH4 := Lib.hid h4
        generalize x.v = xv at *
        clear h4 hyl hyn ES hdo hLL kk1 kk2 kk3 kk4 hbo
        go_wp2_with fail
        refine OB.out.mono ?_
        rintro e w2 ⟨a4, c4, rfl, g2⟩
        obtain ⟨c0, c1, c2, c3⟩ := CE.out _ _ g2
        have G2 := Lib.hid g2.swap
        clear g2
        go_wp2_with fail
        refine (SC.out _ _ G2.out).mono ?_
        rintro e w3 ⟨a5, c5, rfl, g3⟩
        obtain ⟨⟨zs, hzs⟩, g3⟩ := St.ex.1 g3
        dsimp only at g3
        have hzl : (scavB s tb.length).length = zs.length := by rw [← hzs, List.length_map]
        have hzl40 : zs.length ≤ 40 := by omega
        rw [hzl] at g3 ⊢
        have hfl9 : (flatO zs).length ≤ 100000 := by
          have e9 : flatO zs = flatB (scavB s tb.length) := by
            rw [← hzs]
            unfold flatO flatB
            rw [List.flatMap_map]
            rfl
          rw [e9]
          exact hfs
        have HZ := Lib.hid hzs
        have H5 : Hid (St w (batsZ (.slice a5 zs.length c5) zs :: cacheP c tb bud s2 :: intsP (.slice a4 l.length c4) l :: []) w3) := Lib.hid g3
        clear g3 hzs hzl hfs hbl G2 c0 c1 c2 c3
        go_wp2_with fail
        go_loopw [14, 16] (fun gn i wr => ∃ j : Nat, j ≤ zs.length ∧ i = .int .i64 j ∧ ∃ ga gc, gn = .slice ga (goneO (zs.take j) k).length gc ∧ Hid (St w (intsP gn (goneO (zs.take j) k) :: batsZ (.slice a5 zs.length c5) zs :: cacheP c tb bud s2 :: intsP (.slice a4 l.length c4) l :: []) wr)) (fun _ i _ => zs.length - (intOf i).toNat)
        case atStart => exact ⟨0, Nat.zero_le _, rfl, none, 0, rfl, Lib.hid (H5.out.arr_nil 3 1)⟩
        case round =>
          clear H5
          obtain ⟨j, hj, rfl, ga, gc, rfl, HG⟩ := hrel
          by_cases hltj : j < zs.length
          · obtain ⟨z, hz⟩ : ∃ z, zs[j]? = some z := ⟨zs[j], List.getElem?_eq_getElem hltj⟩
            obtain ⟨b9, o9, p9, za, zc, e1, g0, g1, _, hr⟩ := bats_at (HG.out.front 1) hz
            injection e1 with e1 e2 e3
            subst e1
            clear e2 e3
            have hfl := goneO_len zs (j + 1) k
            rw [goneO_succ hz, List.length_append] at hfl
            have HR := Lib.hid hr
            have HFs := Lib.hid (goneO_succ (k := k) hz)
            have i0' : (0 : Int) ≤ (j : Int) := by omega
            have i1' : (j : Int) < (zs.length : Int) := by omega
            by_cases hck : z.c = k
            · have f1 : ((z.c : Int) == (k : Int)) = true := by rw [beq_iff_eq]; omega
              have f1n : (z.c == k) = true := by rw [beq_iff_eq]; exact hck
              rw [if_pos hck] at hfl HFs
              clear hz hr hck
              go_wp2_with (at_builtin; refine wpList_append_st rfl _ _ 28 rfl 3 i0 _ 1 8 Try.underlying28 HI.out Z0.out Z1.out Z2.out rfl _ _ rfl rfl (goneO (zs.take j) k).length (intsC (goneO (zs.take j) k)) HG.out z.o.length (intsC z.o) HR.out (intsC_one _) (by unfold maxLen; omega) (by omega) ?_; intro v' w' hs' hv'; obtain ⟨a9, c9, rfl⟩ := (HP.arr_reads hs').form; have HS9 := Lib.hid hs'; clear hs' hv')
              go_roundw
              case rel =>
                refine ⟨j + 1, hltj, by go_num, a9, c9, by rw [HFs.out, List.length_append], Lib.hid ?_⟩
                rw [HFs.out]
                unfold intsP
                rw [List.length_append, intsC, List.map_append]
                exact HS9.out
              case measure => simp [intOf]; omega
            · have f1 : ((z.c : Int) == (k : Int)) = false := by rw [beq_eq_false_iff_ne]; omega
              have f1n : (z.c == k) = false := by rw [beq_eq_false_iff_ne]; exact hck
              rw [if_neg hck, List.append_nil] at HFs
              clear hz hr hck hfl
              go_wp2_with fail
              go_roundw
              case rel => exact ⟨j + 1, hltj, by go_num, ga, gc, by rw [HFs.out], Lib.hid (by rw [HFs.out]; exact HG.out)⟩
              case measure => simp [intOf]; omega
          · have e : zs.take j = zs := List.take_of_length_le (by omega)
            have hga : goneO zs k = l.take n := by
              rw [goneO_all, HZ.out, show scavB s tb.length = outB CL.scavL s tb.length from rfl, pick_outB, if_pos hkN]
              show (s k).objs.take (s k).scavN = _
              rw [HYL.out, HYN.out]
            rw [e, hga] at HG ⊢
            have hlt' : (l.take n).length = n := by rw [List.length_take]; omega
            rw [hlt'] at HG ⊢
            have EQ1 := Lib.hid (decide_eq_true (rfl : l.take n = l.take n))
            clear e hga HZ hj
            rcases HP.arr_form (HG.out.front 3) with ⟨hv, h0⟩ | ⟨b1, o1, cap1, hv, hoc⟩
            · injection hv with v1 v2 v3
              subst v1 v3
              obtain rfl : l = [] := List.eq_nil_of_length_eq_zero h0
              obtain rfl : n = 0 := by simpa using hnl
              have q5 : IntKind.i64.wrap ((0 : Nat) : Int) = 0 := rfl
              clear v2
              have HGd : St w (intsP (.slice ga 0 gc) ([] : List Int) :: batsZ (.slice a5 zs.length c5) zs :: cacheP c tb bud s2 :: intsP (.slice none 0 0) ([] : List Int) :: []) wr.drew := HG.out.drew
              have R1 : Reads wr.drew 1 (.slice ga 0 gc) 0 (intsC ([] : List Int)) := by
                have := HP.arr_reads HGd
                first | exact this | (rw [hlt'] at this; exact this)
              have R2 : Reads wr.drew 1 (.slice none 0 0) 0 (intsC ([] : List Int)) := Reads.nil _ 1
              have IN1 : Hid (Calls Try.prog 19 #[.slice ga 0 gc, (.slice none 0 0)] wr.drew fun e w' => e = .returned (.bool true) ∧ St w (cacheP c tb bud s2 :: intsP (.slice ga 0 gc) ([] : List Int) :: batsZ (.slice a5 zs.length c5) zs :: intsP (.slice none 0 0) ([] : List Int) :: []) w') := Lib.hid ((Ints_is wr.drew true ga _ 0 gc _ ([] : List Int) ([] : List Int) (by first | rfl | exact hlt') (by first | rfl | exact hlt') (decide_eq_true rfl) R1 R2 (by omega)).mono (by
                rintro e w' ⟨rfl, n9, rfl⟩
                exact ⟨rfl, (HGd.drewN n9).rot⟩))
              have IN2 : Hid (∀ w9 a8 c8, St w (intsP (.slice a8 0 c8) ([] : List Int) :: cacheP c tb bud s2 :: intsP (.slice ga 0 gc) ([] : List Int) :: batsZ (.slice a5 zs.length c5) zs :: intsP (.slice none 0 0) ([] : List Int) :: []) w9 →
                  Calls Try.prog 19 #[.slice a8 0 c8, (.slice none 0 0)] w9 fun e w' => e = .returned (.bool true) ∧ St w (cacheP c tb bud s2 :: []) w') := Lib.hid fun w9 a8 c8 g => by
                have r3 : Reads w9 1 (.slice a8 0 c8) 0 (intsC ([] : List Int)) := by
                  have := HP.arr_reads g
                  first | exact this | (rw [hdl] at this; exact this)
                have r4 : Reads w9 1 (.slice none 0 0) 0 (intsC ([] : List Int)) := Reads.nil _ 1
                refine (Ints_is w9 true a8 _ 0 c8 _ ([] : List Int) ([] : List Int) (by first | rfl | exact hdl) (by first | rfl | exact hdl) (decide_eq_true rfl) r3 r4 (by omega)).mono ?_
                rintro e w' ⟨rfl, n9, rfl⟩
                exact ⟨rfl, (g.drewN n9).pick 5 [1]⟩
              clear R1 R2 HGd HG
              go_wp2_with fail
              go_region_held3 (fun _ => True) (trivial)
                (first
                  | (go_at_call 19; refine (IN2.out _ _ _ h8).mono ?_; rintro e w9 ⟨rfl, h9⟩)
                  | (go_at_call 19; refine IN1.out.mono ?_; rintro e w7 ⟨rfl, h7⟩)
                  | (go_at_call 17; refine (OB2.out _ _ h7).mono ?_; rintro e w8 ⟨a8, c8, rfl, h8⟩))
              have G9 := Lib.hid h9
              go_wp2_with fail
              refine (LN2.out _ _ G9.out).mono ?_
              rintro e w4 ⟨rfl, g4⟩
              have HE := Lib.hid g4
              clear g4 h8 h9 G9 IN1 IN2 h7
              obtain ⟨c0, c1, c2, c3⟩ := CE.out _ _ HE.out
              go_wp2_with fail
              refine (LW2.out _ _ HE.out).mono ?_
              rintro e w7 ⟨rfl, h7⟩
              have H7 := Lib.hid h7
              clear h7
              go_wp2_with fail
              refine (LW2.out _ _ H7.out).mono ?_
              rintro e w8 ⟨rfl, h8⟩
              have H8 := Lib.hid h8
              clear h8
              go_wp2_with fail
              refine (LN2.out _ _ H8.out).mono ?_
              rintro e w9 ⟨rfl, h9⟩
              have H9 := Lib.hid h9
              clear h9
              go_wp2_with fail
              go_roundw
              case rel => exact ⟨i + 1, hlt, by go_num, by rw [SUC.out], by rw [SUC.out]; exact H9⟩
              case measure => simp [intOf]; omega
            · injection hv with v1 v2 v3
              subst v1 v3
              have i0' : (0 : Int) ≤ (n : Int) := by omega
              have i1' : (n : Int) ≤ (c4 : Int) := by omega
              have i2' : (n : Int) ≤ (l.length : Int) := by omega
              have i3' : (l.length : Int) ≤ (c4 : Int) := by omega
              clear v2
              rcases Nat.lt_or_ge n c4 with hnc | hnc
              · have i4' : (n : Int) < (c4 : Int) := by omega
                have HGd : St w (intsP (.slice ga n gc) (l.take n) :: batsZ (.slice a5 zs.length c5) zs :: cacheP c tb bud s2 :: intsP (.slice (some ⟨b1, o1, none⟩) l.length c4) l :: []) wr.drew := HG.out.drew
                have R1 : Reads wr.drew 1 (.slice ga n gc) n (intsC (l.take n)) := by
                  have := HP.arr_reads HGd
                  first | exact this | (rw [hlt'] at this; exact this)
                have R2 : Reads wr.drew 1 (.slice (some ⟨b1, o1, none⟩) n c4) n (intsC (l.take n)) := by
                    have := (HP.arr_reads (HGd.front 3)).take1 (k := n) hnl
                    rwa [intsC_take] at this
                have IN1 : Hid (Calls Try.prog 19 #[.slice ga n gc, (.slice (some ⟨b1, o1, none⟩) n c4)] wr.drew fun e w' => e = .returned (.bool true) ∧ St w (cacheP c tb bud s2 :: intsP (.slice ga n gc) (l.take n) :: batsZ (.slice a5 zs.length c5) zs :: intsP (.slice (some ⟨b1, o1, none⟩) l.length c4) l :: []) w') := Lib.hid ((Ints_is wr.drew true ga _ n gc _ (l.take n) (l.take n) (by first | rfl | exact hlt') (by first | rfl | exact hlt') (decide_eq_true rfl) R1 R2 (by omega)).mono (by
                  rintro e w' ⟨rfl, n9, rfl⟩
                  exact ⟨rfl, (HGd.drewN n9).rot⟩))
                have IN2 : Hid (∀ w9 a8 c8, St w (intsP (.slice a8 (l.length - n) c8) (l.drop n) :: cacheP c tb bud s2 :: intsP (.slice ga n gc) (l.take n) :: batsZ (.slice a5 zs.length c5) zs :: intsP (.slice (some ⟨b1, o1, none⟩) l.length c4) l :: []) w9 →
                    Calls Try.prog 19 #[.slice a8 (l.length - n) c8, (.slice (some ⟨b1, o1 + n, none⟩) (l.length - n) (c4 - n))] w9 fun e w' => e = .returned (.bool true) ∧ St w (cacheP c tb bud s2 :: []) w') := Lib.hid fun w9 a8 c8 g => by
                  have r3 : Reads w9 1 (.slice a8 (l.length - n) c8) (l.length - n) (intsC (l.drop n)) := by
                    have := HP.arr_reads g
                    first | exact this | (rw [hdl] at this; exact this)
                  have r4 : Reads w9 1 (.slice (some ⟨b1, o1 + n, none⟩) (l.length - n) (c4 - n)) (l.length - n) (intsC (l.drop n)) := by
                    have := (HP.arr_reads (g.front 4)).drop1 (k := n) hnl
                    rwa [intsC_drop] at this
                  refine (Ints_is w9 true a8 _ (l.length - n) c8 _ (l.drop n) (l.drop n) (by first | rfl | exact hdl) (by first | rfl | exact hdl) (decide_eq_true rfl) r3 r4 (by omega)).mono ?_
                  rintro e w' ⟨rfl, n9, rfl⟩
                  exact ⟨rfl, (g.drewN n9).pick 5 [1]⟩
                clear R1 R2 HGd HG
                go_wp2_with fail
                go_region_held3 (fun _ => True) (trivial)
                  (first
                    | (go_at_call 19; refine (IN2.out _ _ _ h8).mono ?_; rintro e w9 ⟨rfl, h9⟩)
                    | (go_at_call 19; refine IN1.out.mono ?_; rintro e w7 ⟨rfl, h7⟩)
                    | (go_at_call 17; refine (OB2.out _ _ h7).mono ?_; rintro e w8 ⟨a8, c8, rfl, h8⟩))
                have G9 := Lib.hid h9
                go_wp2_with fail
                refine (LN2.out _ _ G9.out).mono ?_
                rintro e w4 ⟨rfl, g4⟩
                have HE := Lib.hid g4
                clear g4 h8 h9 G9 IN1 IN2 h7
                obtain ⟨c0, c1, c2, c3⟩ := CE.out _ _ HE.out
                go_wp2_with fail
                refine (LW2.out _ _ HE.out).mono ?_
                rintro e w7 ⟨rfl, h7⟩
                have H7 := Lib.hid h7
                clear h7
                go_wp2_with fail
                refine (LW2.out _ _ H7.out).mono ?_
                rintro e w8 ⟨rfl, h8⟩
                have H8 := Lib.hid h8
                clear h8
                go_wp2_with fail
                refine (LN2.out _ _ H8.out).mono ?_
                rintro e w9 ⟨rfl, h9⟩
                have H9 := Lib.hid h9
                clear h9
                go_wp2_with fail
                go_roundw
                case rel => exact ⟨i + 1, hlt, by go_num, by rw [SUC.out], by rw [SUC.out]; exact H9⟩
                case measure => simp [intOf]; omega
              · obtain rfl : n = c4 := by omega
                have hle0 : l.length - n = 0 := by omega
                rw [hle0] at hdl OB2
                have HGd : St w (intsP (.slice ga n gc) (l.take n) :: batsZ (.slice a5 zs.length c5) zs :: cacheP c tb bud s2 :: intsP (.slice (some ⟨b1, o1, none⟩) l.length n) l :: []) wr.drew := HG.out.drew
                have R1 : Reads wr.drew 1 (.slice ga n gc) n (intsC (l.take n)) := by
                  have := HP.arr_reads HGd
                  first | exact this | (rw [hlt'] at this; exact this)
                have R2 : Reads wr.drew 1 (.slice (some ⟨b1, o1, none⟩) n n) n (intsC (l.take n)) := by
                    have := (HP.arr_reads (HGd.front 3)).take1 (k := n) hnl
                    rwa [intsC_take] at this
                have IN1 : Hid (Calls Try.prog 19 #[.slice ga n gc, (.slice (some ⟨b1, o1, none⟩) n n)] wr.drew fun e w' => e = .returned (.bool true) ∧ St w (cacheP c tb bud s2 :: intsP (.slice ga n gc) (l.take n) :: batsZ (.slice a5 zs.length c5) zs :: intsP (.slice (some ⟨b1, o1, none⟩) l.length n) l :: []) w') := Lib.hid ((Ints_is wr.drew true ga _ n gc _ (l.take n) (l.take n) (by first | rfl | exact hlt') (by first | rfl | exact hlt') (decide_eq_true rfl) R1 R2 (by omega)).mono (by
                  rintro e w' ⟨rfl, n9, rfl⟩
                  exact ⟨rfl, (HGd.drewN n9).rot⟩))
                have IN2 : Hid (∀ w9 a8 c8, St w (intsP (.slice a8 0 c8) (l.drop n) :: cacheP c tb bud s2 :: intsP (.slice ga n gc) (l.take n) :: batsZ (.slice a5 zs.length c5) zs :: intsP (.slice (some ⟨b1, o1, none⟩) l.length n) l :: []) w9 →
                    Calls Try.prog 19 #[.slice a8 0 c8, (.slice (some ⟨b1, o1, none⟩) 0 0)] w9 fun e w' => e = .returned (.bool true) ∧ St w (cacheP c tb bud s2 :: []) w') := Lib.hid fun w9 a8 c8 g => by
                  have r3 : Reads w9 1 (.slice a8 0 c8) 0 (intsC (l.drop n)) := by
                    have := HP.arr_reads g
                    first | exact this | (rw [hdl] at this; exact this)
                  have r4 : Reads w9 1 (.slice (some ⟨b1, o1, none⟩) 0 0) 0 (intsC (l.drop n)) := Reads.zero _ _ rfl (by rw [List.drop_of_length_le (by omega)]; rfl)
                  refine (Ints_is w9 true a8 _ 0 c8 _ (l.drop n) (l.drop n) (by first | rfl | exact hdl) (by first | rfl | exact hdl) (decide_eq_true rfl) r3 r4 (by omega)).mono ?_
                  rintro e w' ⟨rfl, n9, rfl⟩
                  exact ⟨rfl, (g.drewN n9).pick 5 [1]⟩
                clear R1 R2 HGd HG
                go_wp2_with fail
                go_region_held3 (fun _ => True) (trivial)
                  (first
                    | (go_at_call 19; refine (IN2.out _ _ _ h8).mono ?_; rintro e w9 ⟨rfl, h9⟩)
                    | (go_at_call 19; refine IN1.out.mono ?_; rintro e w7 ⟨rfl, h7⟩)
                    | (go_at_call 17; refine (OB2.out _ _ h7).mono ?_; rintro e w8 ⟨a8, c8, rfl, h8⟩))
                have G9 := Lib.hid h9
                go_wp2_with fail
                refine (LN2.out _ _ G9.out).mono ?_
                rintro e w4 ⟨rfl, g4⟩
                have HE := Lib.hid g4
                clear g4 h8 h9 G9 IN1 IN2 h7
                obtain ⟨c0, c1, c2, c3⟩ := CE.out _ _ HE.out
                go_wp2_with fail
                refine (LW2.out _ _ HE.out).mono ?_
                rintro e w7 ⟨rfl, h7⟩
                have H7 := Lib.hid h7
                clear h7
                go_wp2_with fail
                refine (LW2.out _ _ H7.out).mono ?_
                rintro e w8 ⟨rfl, h8⟩
                have H8 := Lib.hid h8
                clear h8
                go_wp2_with fail
                refine (LN2.out _ _ H8.out).mono ?_
                rintro e w9 ⟨rfl, h9⟩
                have H9 := Lib.hid h9
                clear h9
                go_wp2_with fail
                go_roundw
                case rel => exact ⟨i + 1, hlt, by go_num, by rw [SUC.out], by rw [SUC.out]; exact H9⟩
                case measure => simp [intOf]; omega
      · skip
        have DO := Lib.hid fun w9 (g : St w (cacheP c tb bud s :: []) w9) => do_any w w9 _ c tb bud s T.out OK.out g x (fun G w' h => h.reads0 (HA.out.2 x hm).1) (N300.out x hm)
        have f4 : (x.kind == 4) = false := by rw [beq_eq_false_iff_ne]; exact h4
        have hgt : decide (((s2 k).objs.length : Int) < ((s2 k).low : Int)) = false := decide_eq_false (by have := (OK2.out k).2.2.1; omega)
        have hgtn : decide ((s2 k).objs.length < (s2 k).low) = false := decide_eq_false (by have := (OK2.out k).2.2.1; omega)
        rw [SU.out] at DO
        generalize x.v = xv at *
        -- behind the call: low and the length
        have LW2 := Lib.hid fun w9 L (g : St w (cacheP c tb bud s2 :: L) w9) => low_in w w9 L c tb bud s2 hN g k hkN
        have LN2 := Lib.hid fun w9 L (g : St w (cacheP c tb bud s2 :: L) w9) => len_in w w9 L c tb bud s2 k hN (OK2.out k) g hkN
        by_cases h5 : x.kind = 5
        · have f5 : (x.kind == 5) = true := by rw [beq_iff_eq]; exact h5
          have E0 : (s2 k).low = 0 := by rw [← SU.out]; unfold actS actC; rw [if_neg (show ¬ x.c.kind = 4 from h4), if_pos (show x.c.kind = 5 from h5)]; rfl
          rw [E0] at LW2 hgt hgtn
          have E0b := Lib.hid E0
          clear h4 h5 E0
          go_wp2_with fail
          refine OB.out.mono ?_
          rintro e w2 ⟨a4, c4, rfl, g2⟩
          have G2 := Lib.hid g2.drop
          clear g2
          obtain ⟨c0, c1, c2, c3⟩ := CE.out _ _ G2.out
          go_wp2_with fail
          refine (DO.out _ G2.out).mono ?_
          rintro e w3 ⟨a5, c5, rfl, g3⟩
          have G3 := Lib.hid g3.drop
          clear g3 c0 c1 c2 c3 G2
          obtain ⟨c0, c1, c2, c3⟩ := CE.out _ _ G3.out
          go_wp2_with fail
          refine (LN2.out _ _ G3.out).mono ?_
          rintro e w4 ⟨rfl, g4⟩
          have HE := Lib.hid g4
          clear g4 c0 c1 c2 c3 G3
          obtain ⟨c0, c1, c2, c3⟩ := CE.out _ _ HE.out
          go_wp2_with fail
          refine (LW2.out _ _ HE.out).mono ?_
          rintro e w7 ⟨rfl, h7⟩
          have H7 := Lib.hid h7
          clear h7
          go_wp2_with fail
          refine (LW2.out _ _ H7.out).mono ?_
          rintro e w8 ⟨rfl, h8⟩
          have H8 := Lib.hid h8
          clear h8
          go_wp2_with fail
          refine (LN2.out _ _ H8.out).mono ?_
          rintro e w9 ⟨rfl, h9⟩
          have H9 := Lib.hid h9
          clear h9
          go_wp2_with fail
          go_roundw
          case rel => exact ⟨i + 1, hlt, by go_num, by rw [SUC.out]; rw [E0b.out]; rfl, by rw [SUC.out]; exact H9⟩
          case measure => simp [intOf]; omega
        · have f5 : (x.kind == 5) = false := by rw [beq_eq_false_iff_ne]; exact h5
          have LWL := low_law OK.out (tb := tb) (x := x.c) h4 h5 k
          rw [SU.out] at LWL
          have hmin : (min ((s k).low : Int) ((s2 k).objs.length : Int)) = ((s2 k).low : Int) := by rw [LWL]; omega
          have hne : (((s2 k).low : Int) != ((s2 k).low : Int)) = false := by simp
          clear h4 h5 LWL
          go_wp2_with fail
          refine OB.out.mono ?_
          rintro e w2 ⟨a4, c4, rfl, g2⟩
          have G2 := Lib.hid g2.drop
          clear g2
          obtain ⟨c0, c1, c2, c3⟩ := CE.out _ _ G2.out
          go_wp2_with fail
          refine (DO.out _ G2.out).mono ?_
          rintro e w3 ⟨a5, c5, rfl, g3⟩
          have G3 := Lib.hid g3.drop
          clear g3 c0 c1 c2 c3 G2
          obtain ⟨c0, c1, c2, c3⟩ := CE.out _ _ G3.out
          go_wp2_with fail
          refine (LN2.out _ _ G3.out).mono ?_
          rintro e w4 ⟨rfl, g4⟩
          have HE := Lib.hid g4
          clear g4 c0 c1 c2 c3 G3
          obtain ⟨c0, c1, c2, c3⟩ := CE.out _ _ HE.out
          go_wp2_with fail
          refine (LW2.out _ _ HE.out).mono ?_
          rintro e w7 ⟨rfl, h7⟩
          have H7 := Lib.hid h7
          clear h7
          go_wp2_with fail
          refine (LW2.out _ _ H7.out).mono ?_
          rintro e w8 ⟨rfl, h8⟩
          have H8 := Lib.hid h8
          clear h8
          go_wp2_with fail
          refine (LN2.out _ _ H8.out).mono ?_
          rintro e w9 ⟨rfl, h9⟩
          have H9 := Lib.hid h9
          clear h9
          go_wp2_with fail
          go_roundw
          case rel => exact ⟨i + 1, hlt, by go_num, by rw [SUC.out], by rw [SUC.out]; exact H9⟩
          case measure => simp [intOf]; omega
    · go_wp2_with fail
      refine (AL.out _ _ HS.out).mono ?_
      rintro e w1 ⟨rfl, h1⟩
      go_wp2_with fail
      go_ret
      exact ⟨rfl, h1.1⟩
end Go.Proofs.Ytaejojbdkgccpaa

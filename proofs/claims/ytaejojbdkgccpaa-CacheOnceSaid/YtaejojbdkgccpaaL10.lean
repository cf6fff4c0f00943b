/-
  The law CacheOnce. (Printed by mkL10.py.)
-/
import Derived.Test.YtaejojbdkgccpaaL9
import Derived.Test.YtaejojbdkgccpaaCnt
import Derived.Laws.MakeOwn
namespace Go.Proofs.Ytaejojbdkgccpaa
open Go.RowKit Go.Maps Go.ChangeMaps

/-- the objects of a class, if there is one -/
def objC (tb : List Cls) (s : Nat → CL) (c : Int) : List Int := if inC tb.length c then (s c.toNat).objs else []
theorem objects_any (w0 w : World) (F : List HP) (c : Nat) (tb : List Cls) (bud : Int) (s : Nat → CL) (hN : tb.length ≤ 40) (hok : ∀ k, (s k).ok) (hs : St w0 (cacheP c tb bud s :: F) w) (k : Int) :
    Calls Try.prog 17 #[.pointer (some ⟨c, 0, none⟩), .int .i64 k] w fun e w' => ∃ a cap, e = .returned (.slice a (objC tb s k).length cap) ∧ St w0 (intsP (.slice a (objC tb s k).length cap) (objC tb s k) :: cacheP c tb bud s :: F) w' := by
  unfold objC
  by_cases hin : inC tb.length k
  · obtain ⟨e1, e2⟩ := inC_nat hin
    rw [if_pos hin]
    generalize k.toNat = n at *
    subst e1
    exact objects_in w0 w F c tb bud s n hN (hok n) hs e2
  · rw [if_neg hin]
    refine (objects_out w0 w F c tb bud s hs k hin).mono ?_
    rintro e w' ⟨rfl, rfl⟩
    exact ⟨none, 0, rfl, hs.arr_nil 3 1⟩
theorem once_len {tb : List Cls} {s : Nat → CL} {O : List Int} {nx : Nat} (h : (objsN s tb.length ++ O).Perm (fromI 0 nx)) : O.length ≤ nx ∧ (objsN s tb.length).length ≤ nx := by
  have := h.length_eq
  rw [List.length_append, fromI_len] at this
  omega
theorem once_perm {A B O dl ad F : List Int} (h1 : (A ++ dl).Perm (B ++ ad)) (h2 : (B ++ O).Perm F) : (A ++ (O ++ dl)).Perm (F ++ ad) := by
  have a1 : (A ++ (O ++ dl)).Perm ((A ++ dl) ++ O) := by
    rw [List.append_assoc]
    exact List.perm_append_comm.append_left _
  have a2 : ((B ++ ad) ++ O).Perm ((B ++ O) ++ ad) := by
    rw [List.append_assoc, List.append_assoc]
    exact List.perm_append_comm.append_left _
  exact (a1.trans (h1.append_right _)).trans (a2.trans (h2.append_right _))
theorem fromI_head {a n : Nat} (h : 0 < n) : (fromI a n)[0]? = some (a : Int) := by
  induction n with
  | zero => omega
  | succ n ih =>
    show (fromI a n ++ [((a + n : Nat) : Int)])[0]? = _
    by_cases hn : n = 0
    · subst hn; rfl
    · rw [List.getElem?_append_left (by rw [fromI_len]; omega)]
      exact ih (by omega)
theorem now_last {l : List Int} {a n : Nat} (h : 0 < n) : (l ++ (fromI a n).reverse)[l.length + n - 1]? = some (a : Int) := by
  rw [List.getElem?_append_right (by omega), List.getElem?_reverse (by rw [fromI_len]; omega), fromI_len, show n - 1 - (l.length + n - 1 - l.length) = 0 by omega]
  exact fromI_head h
theorem out_shape {w0 w : World} {F : List HP} {a : Option Addr} {c : Nat} {O dl : List Int} (h : St w0 (HP.arr 3 1 (.slice a (O.length + dl.length) c) (O.length + dl.length) (intsC O ++ intsC dl) :: F) w) : St w0 (intsP (.slice a (O ++ dl).length c) (O ++ dl) :: F) w := by
  unfold intsP
  rw [List.length_append, intsC, List.map_append]
  exact h
theorem fill_one (tb : List Cls) (s : Nat → CL) (x : ActC) : (addL tb s x).length ≤ x.l.length + 1 := by
  unfold addL
  split
  · exact Nat.zero_le _
  · split
    · simp
    · split
      · simp
      · exact Nat.zero_le _
theorem objsN_len {s : Nat → CL} (h : ∀ k, (s k).ok) : ∀ n, (objsN s n).length ≤ 256 * n
  | 0 => Nat.le_refl _
  | n + 1 => by
    show (objsN s n ++ (s n).objs).length ≤ _
    rw [List.length_append]
    have := objsN_len h n
    have := (h n).2.2.2
    omega
theorem told_made (nx : Nat) : madeCells (Value.int .i64 0).cells (nx * 1) = (numsF nx fun _ => 0).toArray := by
  apply Array.ext_getElem?
  intro j
  by_cases hj : j < nx
  · rw [List.getElem?_toArray (xs := numsF nx fun _ => 0), numsF_get hj]
    simp [madeCells, Value.cells, hj, Nat.mod_one]
  · rw [Array.getElem?_eq_none (by simp [madeCells]; omega), Array.getElem?_eq_none (by simp [numsF_len]; omega)]
theorem make_told (nx : Nat) (hn : nx ≤ 18060) (w : World) : (Instr.makeSlice 28 (.int .i64 (nx : Nat)) (.int .i64 (nx : Nat))).run Try.prog w = .ok (.slice (some ⟨w.heap.size, 0, none⟩) nx nx) (w.alloc (.cells (numsF nx fun _ => 0).toArray 3)) := by
  obtain ⟨j0, hj, hy0, hy1, hy2⟩ := info_parts info3
  have h := run_makeSlice (P := Try.prog) w 28 3 j0 _ Try.underlying28 hj hy0 .i64 .i64 (nx : Nat) (nx : Nat) (by omega) (by omega) (by rw [hy1]; omega) (by rw [hy2]; simp [maxLen]; omega) (by omega)
  rw [h, hy1]
  simp only [Int.toNat_natCast]
  rw [told_made]
theorem told_step {w0 w : World} {F : List HP} {OL : List Int} {j v nx b cap : Nat} (hv : v < nx) (hx : OL[j]? = some (v : Int)) (h : St w0 (HP.arr 3 1 (.slice (some ⟨b, 0, none⟩) nx cap) nx (numsF nx fun u => (((OL.take j).count (u : Int) : Nat) : Int)) :: F) w) :
    St w0 (HP.arr 3 1 (.slice (some ⟨b, 0, none⟩) nx cap) nx (numsF nx fun u => (((OL.take (j + 1)).count (u : Int) : Nat) : Int)) :: F) (w.setCell ⟨b, v, none⟩ (.int .i64 (((OL.take j).count (v : Int) + 1 : Nat) : Int))) := by
  have hset := (HP.arr_set v (.int .i64 (((OL.take j).count (v : Int) + 1 : Nat) : Int)) (by omega) h).1
  rw [numsF_set, Nat.zero_add] at hset
  have e : numsF nx (upd (fun u => (((OL.take j).count (u : Int) : Nat) : Int)) v (((OL.take j).count (v : Int) + 1 : Nat) : Int)) = numsF nx fun u => (((OL.take (j + 1)).count (u : Int) : Nat) : Int) := numsF_ext fun p _ => by
    have e2 : OL.take (j + 1) = OL.take j ++ [(v : Int)] := by rw [List.take_add_one, hx]; rfl
    rw [e2, List.count_append]
    unfold upd
    by_cases hp : p = v
    · subst hp; simp
    · have : (v : Int) ≠ (p : Int) := by omega
      simp [hp, Ne.symm hp, List.count_cons, this]
  rw [e] at hset
  exact hset
theorem told_ones {w0 w : World} {F : List HP} {OL : List Int} {nx b cap : Nat} (hp : OL.Perm (fromI 0 nx)) (h : St w0 (HP.arr 3 1 (.slice (some ⟨b, 0, none⟩) nx cap) nx (numsF nx fun u => (((OL.take OL.length).count (u : Int) : Nat) : Int)) :: F) w) :
    St w0 (HP.arr 3 1 (.slice (some ⟨b, 0, none⟩) nx cap) nx (numsF nx fun _ => 1) :: F) w := by
  rw [List.take_length] at h
  have e : numsF nx (fun u => ((OL.count (u : Int) : Nat) : Int)) = numsF nx fun _ => 1 := numsF_ext fun p hq => by
    rw [hp.count_eq, count_fromI hq]
    rfl
  rw [e] at h
  exact h
set_option maxRecDepth 10000 in
set_option maxHeartbeats 16000000 in
theorem once_walk (a : Option Addr) (cap : Nat) (tb : List Cls) (bud : Int) (_w1 : (Lit.int .i64 bud).wf = true) (a2 : Option Addr) (cap2 : Nat) (acts : List ActV) (w : World)
    (ht : Reads w 3 (.slice a tb.length cap) tb.length (clsC tb)) (_hn : tb.length ≤ 9223372036854775807) (h : ActsAt w (.slice a2 acts.length cap2) acts) (hn2 : acts.length ≤ 9223372036854775807) :
    Calls Try.prog 4 #[.slice a tb.length cap, .int .i64 bud, .slice a2 acts.length cap2] w fun e w' => e = .returned (.bool true) ∧ Below w.heap.size w w' := by
  have GR := Lib.hid (great_any w a2 cap2 acts h hn2)
  have AL := Lib.hid fun w1 (L : List HP) (h1 : St w L w1) => alive_any w w1 L h1
  cases hg : greatB acts with
  | true =>
    rw [hg] at GR
    clear h ht hg
    go_enter Try.func4, Try.ntmps4
    go_wp2_with fail
    refine GR.out.mono ?_
    rintro e w' ⟨rfl, rfl⟩
    go_wp2_with fail
    refine (AL.out w _ (St.start w)).mono ?_
    rintro e w1 ⟨rfl, h1⟩
    go_wp2_with fail
    go_ret
    exact ⟨rfl, h1.1⟩
  | false =>
  obtain ⟨n60, n300⟩ := acts_ok hg
  rw [hg] at GR
  have hnil : ActsAt w (.slice none ([] : List ActV).length 0) [] := ⟨Reads.nil w 4, fun x hx => by cases hx⟩
  have MD := Lib.hid (made_any w w [] (St.start w) a cap tb (fun G w' h => h.reads0 ht) bud none 0 [] hnil (by simp) (by simp))
  have HA := Lib.hid h
  have N300 := Lib.hid n300
  clear h ht hg n300 hnil
  go_enter Try.func4, Try.ntmps4
  go_wp2_with fail
  refine GR.out.mono ?_
  rintro e w' ⟨rfl, rfl⟩
  go_wp2_with fail
  refine MD.out.mono ?_
  rintro e w1 (⟨_, rfl, h1⟩ | ⟨hmk, c, rfl, h1⟩)
  · have H1 := Lib.hid h1
    clear h1
    go_wp2_with fail
    refine (AL.out w1 _ H1.out).mono ?_
    rintro e w1 ⟨rfl, h1⟩
    go_wp2_with fail
    go_ret
    exact ⟨rfl, h1.1⟩
  have T := Lib.hid (mk_ok hmk []).1
  have H1 : Hid (St w (cacheP c tb bud newS :: []) w1) := Lib.hid h1
  have hN := T.out.2.1
  clear h1 hmk MD GR
  obtain ⟨i0, hi, hz0, hz1, hz2⟩ := info_parts info3
  have HI := Lib.hid hi
  have Z0 := Lib.hid hz0
  have Z1 := Lib.hid hz1
  have Z2 := Lib.hid hz2
  clear hi hz0 hz1 hz2
  go_wp2_with fail
  go_loopw [8, 9, 10] (fun nxv out i wr => ∃ (i' nx : Nat) (s : Nat → CL) (O : List Int) (oa : Option Addr) (oc : Nat), i' ≤ acts.length ∧ i = .int .i64 i' ∧ nxv = .int .i64 nx ∧ out = .slice oa O.length oc ∧ nx ≤ 301 * i' ∧ Hid (∀ k, (s k).ok) ∧ Hid ((objsN s tb.length ++ O).Perm (fromI 0 nx)) ∧
    Hid (St w (cacheP c tb bud s :: intsP out O :: []) wr)) (fun _ _ i _ => acts.length - (intOf i).toNat)
  case atStart =>
    refine ⟨0, 0, newS, [], none, 0, Nat.zero_le _, rfl, rfl, rfl, Nat.zero_le _, Lib.hid newS_ok, Lib.hid ?_, Lib.hid (H1.out.arr_nil 3 1).swap⟩
    have : ∀ n, objsN newS n = [] := fun n => by
      induction n with
      | zero => rfl
      | succ n ih => show objsN newS n ++ _ = []; rw [ih]; rfl
    rw [this]
    exact List.Perm.refl _
  case round =>
    clear H1
    obtain ⟨i, nx, s, O, oa, oc, hi, rfl, rfl, rfl, hnx, OK, PM, HS⟩ := hrel
    by_cases hlt : i < acts.length
    · obtain ⟨y, hy⟩ : ∃ y, acts[i]? = some y := ⟨acts[i], List.getElem?_eq_getElem hlt⟩
      obtain ⟨b, off, cp, e1, k0, k1, k2, k3⟩ := HA.out.cell hy
      have hb0 := World.block_lt_of_cell? w _ k0
      injection e1 with e1 e2 e3
      clear e2 e3
      subst e1
      have hm := List.mem_of_getElem? hy
      have hyl := N300.out y hm
      obtain ⟨yk, yc, yo, ya, ycp, yl⟩ := y
      have k3 : w.cell? ⟨b, off + i * 4 + 3, none⟩ = some (.slice ya yl.length ycp) := k3
      dsimp only at k0 k1 k2 hyl
      have CE : Hid (∀ w9 L, St w L w9 → w9.cell? ⟨b, off + i * 4, none⟩ = some (.int .i64 yk) ∧ w9.cell? ⟨b, off + i * 4 + 1, none⟩ = some (.int .i64 yc) ∧ w9.cell? ⟨b, off + i * 4 + 2, none⟩ = some (.int .i64 yo) ∧ w9.cell? ⟨b, off + i * 4 + 3, none⟩ = some (.slice ya yl.length ycp)) := Lib.hid fun w9 L g =>
        ⟨(g.was hb0).trans k0, (g.was (p := ⟨b, off + i * 4 + 1, none⟩) hb0).trans k1, (g.was (p := ⟨b, off + i * 4 + 2, none⟩) hb0).trans k2, (g.was (p := ⟨b, off + i * 4 + 3, none⟩) hb0).trans k3⟩
      obtain ⟨c0, c1, c2, c3⟩ := CE.out _ _ HS.out
      have g3 := HS.out.allocRow #[.int .i64 yk, .int .i64 yc, .int .i64 (nx : Nat), .slice none 0 0] 37
      have H3 := Lib.hid g3
      generalize hh : wr.heap.size = h at *
      clear hy hb0 k0 k1 k2 k3 g3 hm HS
      go_wp2_with fail
      clear c0 c1 c2 c3 hh
      go_loopw [12] (fun j wr => ∃ (j' : Nat) (xa : Option Addr) (xc : Nat), j' ≤ yl.length ∧ j = .int .i64 j' ∧ Hid (St w (HP.arr 3 1 (.slice xa j' xc) j' (intsC (fromI nx j')) :: HP.blk h #[.int .i64 yk, .int .i64 yc, .int .i64 (nx : Nat), .slice xa j' xc] 37 :: cacheP c tb bud s :: intsP (.slice oa O.length oc) O :: []) wr)) (fun j _ => yl.length - (intOf j).toNat)
      case atStart => exact ⟨0, none, 0, Nat.zero_le _, rfl, Lib.hid (H3.out.arr_nil 3 1)⟩
      case round =>
        clear H3
        obtain ⟨j, xa, xc, hj, rfl, HX⟩ := hrel
        obtain ⟨c0, c1, c2, c3⟩ := CE.out _ _ HX.out
        obtain ⟨x0, x1, x2, x3⟩ := (HX.out.front 1).cells4
        by_cases hltj : j < yl.length
        · have q0 : IntKind.i64.wrap ((nx : Int) + (j : Int)) = ((nx + j : Nat) : Int) := by rw [IntWalk.i64_in _ (by omega)]; omega
          have g9 := HX.out.newArr 3 1 1 [.int .i64 ((nx + j : Nat) : Int)] rfl (by decide)
          have R9 := Lib.hid (HP.arr_reads g9)
          have G9 := Lib.hid g9.swap
          clear g9 HX
          go_wp2_with (at_builtin; refine wpList_append_st rfl _ _ 28 rfl 3 i0 _ 1 8 Try.underlying28 HI.out Z0.out Z1.out Z2.out rfl _ _ rfl rfl j (intsC (fromI nx j)) G9.out 1 [.int .i64 ((nx + j : Nat) : Int)] R9.out (by intro u hu; simp at hu; subst hu; rfl) (by unfold maxLen; omega) (by omega) ?_; intro v' w' hs' hv'; obtain ⟨a3, cap3, rfl⟩ := (HP.arr_reads hs').form; have f9 := (hs'.front 2).frozen 3; obtain ⟨y0, y1, y2, y3⟩ := (hs'.front 2).cells4; have HS9 := Lib.hid hs'; clear hs' hv')
          have g5 : St w (HP.blk h #[.int .i64 yk, .int .i64 yc, .int .i64 (nx : Nat), .slice a3 (j + 1) cap3] 37 :: HP.arr 3 1 (.slice a3 (j + 1) cap3) (j + 1) (intsC (fromI nx j) ++ [.int .i64 ((nx + j : Nat) : Int)]) :: _) (w'.setCell ⟨h, 3, none⟩ (.slice a3 (j + 1) cap3)) := (HS9.out.front 2).set 3 _
          have H5 : Hid (St w (HP.arr 3 1 (.slice a3 (j + 1) cap3) (j + 1) (intsC (fromI nx (j + 1))) :: HP.blk h #[.int .i64 yk, .int .i64 yc, .int .i64 (nx : Nat), .slice a3 (j + 1) cap3] 37 :: cacheP c tb bud s :: intsP (.slice oa O.length oc) O :: []) (w'.setCell ⟨h, 3, none⟩ (.slice a3 (j + 1) cap3))) := Lib.hid (by
            have e : intsC (fromI nx (j + 1)) = intsC (fromI nx j) ++ [.int .i64 ((nx + j : Nat) : Int)] := by
              show intsC (fromI nx j ++ [((nx + j : Nat) : Int)]) = _
              unfold intsC
              rw [List.map_append]
              rfl
            rw [e]
            exact g5.pick 5 [1, 0, 3, 4])
          clear g5 HS9
          go_roundw
          case rel => exact ⟨j + 1, a3, cap3, hltj, by go_num, H5⟩
          case measure => simp [intOf]; omega
        · obtain rfl : j = yl.length := by omega
          have hmx : (fromI nx yl.length).length = yl.length := fromI_len _ _
          generalize yl.length = m at *
          have OBJ := Lib.hid fun w9 (L : List HP) s' (hok : ∀ k, (s' k).ok) (g : St w (cacheP c tb bud s' :: L) w9) => objects_any w w9 L c tb bud s' hN hok g yc
          have H6 : Hid (St w (cacheP c tb bud s :: HP.arr 3 1 (.slice xa m xc) m (intsC (fromI nx m)) :: HP.blk h #[.int .i64 yk, .int .i64 yc, .int .i64 (nx : Nat), .slice xa m xc] 37 :: intsP (.slice oa O.length oc) O :: []) wr) := Lib.hid (HX.out.rot)
          have DO : Hid (∀ w9 (A : HP), St w (cacheP c tb bud s :: HP.arr 3 1 (.slice xa m xc) m (intsC (fromI nx m)) :: HP.blk h #[.int .i64 yk, .int .i64 yc, .int .i64 (nx : Nat), .slice xa m xc] 37 :: A :: intsP (.slice oa O.length oc) O :: []) w9 →
              Calls Try.prog 21 #[.pointer (some ⟨c, 0, none⟩), .agg #[.int .i64 yk, .int .i64 yc, .int .i64 (nx : Nat), .slice xa m xc]] w9 fun e w' => ∃ a' c', e = .returned (.tuple #[.slice a' (doL tb s ⟨yk, yc, nx, fromI nx m⟩).length c', .int .i64 (doE tb s ⟨yk, yc, nx, fromI nx m⟩)]) ∧
                St w (intsP (.slice a' (doL tb s ⟨yk, yc, nx, fromI nx m⟩).length c') (doL tb s ⟨yk, yc, nx, fromI nx m⟩) :: cacheP c tb bud (actS tb s ⟨yk, yc, nx, fromI nx m⟩) :: HP.arr 3 1 (.slice xa m xc) m (intsC (fromI nx m)) :: HP.blk h #[.int .i64 yk, .int .i64 yc, .int .i64 (nx : Nat), .slice xa m xc] 37 :: A :: intsP (.slice oa O.length oc) O :: []) w') := Lib.hid fun w9 A g => by
            have d := do_any w w9 _ c tb bud s T.out OK.out g ⟨yk, yc, nx, xa, xc, fromI nx m⟩ (fun G w' g => by
              have r := HP.arr_reads (g.perm (L' := HP.arr 3 1 (.slice xa m xc) m (intsC (fromI nx m)) :: (G ++ (HP.blk h #[.int .i64 yk, .int .i64 yc, .int .i64 (nx : Nat), .slice xa m xc] 37 :: A :: intsP (.slice oa O.length oc) O :: []))) (by simp only [HP.big, HP.big_append]; ac_rfl))
              show Reads w' 1 (.slice xa (fromI nx m).length xc) (fromI nx m).length _
              rw [hmx]
              exact r) (by show (fromI nx m).length ≤ 300; omega)
            have ev : (⟨yk, yc, nx, xa, xc, fromI nx m⟩ : ActV).v = .slice xa m xc := by show Value.slice xa (fromI nx m).length xc = _; rw [hmx]
            rw [ev] at d
            exact d
          have ST := once_step (tb := tb) (s := s) ⟨yk, yc, nx, fromI nx m⟩
          have OK2 := Lib.hid (actS_ok T.out OK.out ⟨yk, yc, nx, fromI nx m⟩)
          have AD : Hid (addL tb s ⟨yk, yc, nx, fromI nx m⟩ = if doE tb s ⟨yk, yc, nx, fromI nx m⟩ ≠ 0 then [] else if yk = 3 then [(nx : Int)] else if yk = 2 then (fromI nx m).reverse else []) := Lib.hid rfl
          have KF : Hid (yk = 2 → doE tb s ⟨yk, yc, nx, fromI nx m⟩ = 0 → objC tb (actS tb s ⟨yk, yc, nx, fromI nx m⟩) yc = objC tb s yc ++ (fromI nx m).reverse) := Lib.hid fun h2 he => by
            subst h2
            unfold objC
            by_cases hin : inC tb.length yc
            · rw [if_pos hin, if_pos hin]
              have e1 : actS tb s ⟨2, yc, nx, fromI nx m⟩ yc.toNat = (s yc.toNat).fillF (fromI nx m) := by
                unfold actS actC
                dsimp only
                rw [if_neg (by omega), if_neg (by omega), if_neg (not_not_intro hin), if_neg (by omega), if_pos rfl]
                exact updC_same _ _ _
              have he2 : (s yc.toNat).fillE (fromI nx m) = 0 := by rw [← he]; simp [doE, hin]
              rw [e1]
              unfold CL.fillF
              unfold CL.fillE at he2
              split
              · rename_i hf; rw [if_pos hf] at he2; cases he2
              · rfl
            · exfalso
              simp [doE, hin] at he
          have SL := fill_one tb s ⟨yk, yc, nx, fromI nx m⟩
          have SL : (addL tb s ⟨yk, yc, nx, fromI nx m⟩).length ≤ m + 1 := Nat.le_trans SL (by show (fromI nx m).length + 1 ≤ m + 1; omega)
          obtain ⟨ol1, ol2⟩ := once_len PM.out
          have dl1 : (doL tb s ⟨yk, yc, nx, fromI nx m⟩).length ≤ nx + m + 1 := by
            have := ST.length_eq
            rw [List.length_append, List.length_append] at this
            omega
          have ST := Lib.hid ST
          generalize hs2 : actS tb s ⟨yk, yc, nx, fromI nx m⟩ = s2 at *
          generalize hdl : doL tb s ⟨yk, yc, nx, fromI nx m⟩ = dl at *
          generalize hde : doE tb s ⟨yk, yc, nx, fromI nx m⟩ = de at *
          generalize had : addL tb s ⟨yk, yc, nx, fromI nx m⟩ = ad at *
          clear hs2 hdl hde had HX SL
          go_wp2_with fail
          refine (OBJ.out _ _ _ OK.out H6.out).mono ?_
          rintro e w4 ⟨a4, c4, rfl, g4⟩
          have H7 : Hid (St w (cacheP c tb bud s :: HP.arr 3 1 (.slice xa m xc) m (intsC (fromI nx m)) :: HP.blk h #[.int .i64 yk, .int .i64 yc, .int .i64 (nx : Nat), .slice xa m xc] 37 :: intsP (.slice a4 (objC tb s yc).length c4) (objC tb s yc) :: intsP (.slice oa O.length oc) O :: []) w4) := Lib.hid (g4.perm (by simp only [HP.big]; ac_rfl))
          obtain ⟨x0, x1, x2, x3⟩ := (H7.out.front 2).cells4
          clear g4 c0 c1 c2 c3
          go_wp2_with fail
          refine (DO.out _ _ H7.out).mono ?_
          rintro e w5 ⟨a5, c5, rfl, g5⟩
          have R5 := Lib.hid (HP.arr_reads g5)
          have G5 : Hid (St w (HP.arr 3 1 (.slice oa O.length oc) O.length (intsC O) :: intsP (.slice a5 dl.length c5) dl :: cacheP c tb bud s2 :: HP.arr 3 1 (.slice xa m xc) m (intsC (fromI nx m)) :: HP.blk h #[.int .i64 yk, .int .i64 yc, .int .i64 (nx : Nat), .slice xa m xc] 37 :: intsP (.slice a4 (objC tb s yc).length c4) (objC tb s yc) :: []) w5) := Lib.hid (g5.perm (by simp only [HP.big, intsP]; ac_rfl))
          clear g5 x0 x1 x2 x3
          by_cases hde : de = 0
          rotate_left
          · have f1 : (de != 0) = true := by rw [bne_iff_ne]; exact hde
            rw [if_pos hde] at AD
            clear hde
            go_wp2_with (at_builtin; refine wpList_append_st rfl _ _ 28 rfl 3 i0 _ 1 8 Try.underlying28 HI.out Z0.out Z1.out Z2.out rfl _ _ rfl rfl O.length (intsC O) G5.out dl.length (intsC dl) R5.out (intsC_one _) (by unfold maxLen; omega) (by omega) ?_; intro v' w' hs' hv'; obtain ⟨a7, c7, rfl⟩ := (HP.arr_reads hs').form; have HS9 := Lib.hid hs'; clear hs' hv')
            go_roundw
            case rel =>
              refine ⟨i + 1, nx, s2, O ++ dl, a7, c7, hlt, by go_num, rfl, by rw [List.length_append], by omega, OK2, Lib.hid ?_, Lib.hid ?_⟩
              · have := once_perm ST.out PM.out
                rw [AD.out, List.append_nil] at this
                exact this
              · have h9 := (out_shape HS9.out).pick 6 [2, 0]
                rw [List.length_append] at h9
                exact h9
            case measure => simp [intOf]; omega
          · have f1 : (de != 0) = false := by rw [bne_eq_false_iff_eq]; exact hde
            rw [if_neg (not_not_intro hde)] at AD
            by_cases h3 : yk = 3
            · have f3 : (yk == 3) = true := by rw [beq_iff_eq]; exact h3
              have f2 : (yk == 2) = false := by rw [beq_eq_false_iff_ne]; omega
              have q1 : IntKind.i64.wrap ((nx : Int) + 1) = ((nx + 1 : Nat) : Int) := by rw [IntWalk.i64_in _ (by omega)]; rfl
              rw [if_pos h3] at AD
              clear hde h3 KF
              go_wp2_with (at_builtin; refine wpList_append_st rfl _ _ 28 rfl 3 i0 _ 1 8 Try.underlying28 HI.out Z0.out Z1.out Z2.out rfl _ _ rfl rfl O.length (intsC O) G5.out dl.length (intsC dl) R5.out (intsC_one _) (by unfold maxLen; omega) (by omega) ?_; intro v' w' hs' hv'; obtain ⟨a7, c7, rfl⟩ := (HP.arr_reads hs').form; obtain ⟨x0, x1, x2, x3⟩ := (hs'.front 4).cells4; have HS9 := Lib.hid hs'; clear hs' hv')
              go_roundw
              case rel =>
                refine ⟨i + 1, nx + 1, s2, O ++ dl, a7, c7, hlt, by go_num, rfl, by rw [List.length_append], by omega, OK2, Lib.hid ?_, Lib.hid ?_⟩
                · have := once_perm ST.out PM.out
                  rw [AD.out] at this
                  rw [show fromI 0 (nx + 1) = fromI 0 nx ++ [((0 + nx : Nat) : Int)] from rfl, Nat.zero_add]
                  exact this
                · have h9 := (out_shape HS9.out).pick 6 [2, 0]
                  rw [List.length_append] at h9
                  exact h9
              case measure => simp [intOf]; omega
            by_cases h2 : yk = 2
            rotate_left
            · have f3 : (yk == 3) = false := by rw [beq_eq_false_iff_ne]; exact h3
              have f2 : (yk == 2) = false := by rw [beq_eq_false_iff_ne]; exact h2
              rw [if_neg h3, if_neg h2] at AD
              clear hde h3 h2 KF
              go_wp2_with (at_builtin; refine wpList_append_st rfl _ _ 28 rfl 3 i0 _ 1 8 Try.underlying28 HI.out Z0.out Z1.out Z2.out rfl _ _ rfl rfl O.length (intsC O) G5.out dl.length (intsC dl) R5.out (intsC_one _) (by unfold maxLen; omega) (by omega) ?_; intro v' w' hs' hv'; obtain ⟨a7, c7, rfl⟩ := (HP.arr_reads hs').form; obtain ⟨x0, x1, x2, x3⟩ := (hs'.front 4).cells4; have HS9 := Lib.hid hs'; clear hs' hv')
              go_roundw
              case rel =>
                refine ⟨i + 1, nx, s2, O ++ dl, a7, c7, hlt, by go_num, rfl, by rw [List.length_append], by omega, OK2, Lib.hid ?_, Lib.hid ?_⟩
                · have := once_perm ST.out PM.out
                  rw [AD.out, List.append_nil] at this
                  exact this
                · have h9 := (out_shape HS9.out).pick 6 [2, 0]
                  rw [List.length_append] at h9
                  exact h9
              case measure => simp [intOf]; omega
            · have f3 : (yk == 3) = false := by rw [beq_eq_false_iff_ne]; exact h3
              have f2 : (yk == 2) = true := by rw [beq_iff_eq]; exact h2
              have q1 : IntKind.i64.wrap ((nx : Int) + (m : Int)) = ((nx + m : Nat) : Int) := by rw [IntWalk.i64_in _ (by omega)]; omega
              rw [if_neg h3, if_pos h2] at AD
              have KE := KF.out h2 hde
              have LOLD : (objC tb s yc).length ≤ 256 := by
                unfold objC
                split
                · exact (OK.out _).2.2.2
                · exact Nat.zero_le _
              have RELN : Hid ((objsN s2 tb.length ++ (O ++ dl)).Perm (fromI 0 (nx + m))) := Lib.hid (by
                rw [fromI_add]
                have := once_perm ST.out PM.out
                rw [AD.out] at this
                exact this.trans ((List.reverse_perm _).append_left _))
              have OB2 := Lib.hid fun w9 (L : List HP) (g : St w (cacheP c tb bud s2 :: L) w9) => OBJ.out w9 L s2 OK2.out g
              rw [KE] at OB2
              have EL : (objC tb s yc ++ (fromI nx m).reverse).length = (objC tb s yc).length + m := by rw [List.length_append, List.length_reverse, hmx]
              rw [EL] at OB2
              have NLA := Lib.hid fun (hm : 0 < m) => now_last (l := objC tb s yc) (a := nx) hm
              generalize objC tb s yc ++ (fromI nx m).reverse = nw at *
              generalize objC tb s yc = old at *
              have HEL := Lib.hid EL
              clear hde h3 h2 KF KE OBJ DO AD ST PM EL
              go_wp2_with (at_builtin; refine wpList_append_st rfl _ _ 28 rfl 3 i0 _ 1 8 Try.underlying28 HI.out Z0.out Z1.out Z2.out rfl _ _ rfl rfl O.length (intsC O) G5.out dl.length (intsC dl) R5.out (intsC_one _) (by unfold maxLen; omega) (by omega) ?_; intro v' w' hs' hv'; obtain ⟨a7, c7, rfl⟩ := (HP.arr_reads hs').form; obtain ⟨x0, x1, x2, x3⟩ := (hs'.front 4).cells4; have HS9 := Lib.hid hs'; clear hs' hv')
              have G9 : St w (cacheP c tb bud s2 :: intsP (.slice a7 (O ++ dl).length c7) (O ++ dl) :: HP.arr 3 1 (.slice xa m xc) m (intsC (fromI nx m)) :: HP.blk h #[.int .i64 yk, .int .i64 yc, .int .i64 (nx : Nat), .slice xa m xc] 37 :: intsP (.slice a4 old.length c4) old :: []) w' := (out_shape HS9.out).pick 6 [2, 0, 3, 4, 5]
              rw [List.length_append] at G9
              have H9 := Lib.hid G9
              clear HS9 G9
              refine (OB2.out _ _ H9.out).mono ?_
              rintro e w8 ⟨a8, c8, rfl, g8⟩
              have q2 : IntKind.i64.wrap ((old.length : Int) + (m : Int)) = ((old.length + m : Nat) : Int) := by rw [IntWalk.i64_in _ (by omega)]; omega
              have hn21 : m ≤ old.length + m := by omega
              have hn22 : old.length + m ≤ 1000 := by omega
              generalize old.length + m = n2 at *
              have H8 : Hid (St w (intsP (.slice a8 n2 c8) nw :: cacheP c tb bud s2 :: intsP (.slice a7 (O.length + dl.length) c7) (O ++ dl) :: HP.arr 3 1 (.slice xa m xc) m (intsC (fromI nx m)) :: HP.blk h #[.int .i64 yk, .int .i64 yc, .int .i64 (nx : Nat), .slice xa m xc] 37 :: intsP (.slice a4 old.length c4) old :: []) w8) := Lib.hid g8
              have hne : ((n2 : Int) != (n2 : Int)) = false := by simp
              clear g8 H9
              by_cases m0 : 0 < m
              · have NL := NLA.out m0
                obtain ⟨b8, o8, cp8, hv8, _⟩ := ints_at H8.out NL
                injection hv8 with e1 e2 e3
                clear e2 e3
                subst e1
                obtain ⟨bx, ox, cpx, hvx, _⟩ := Reads.lies (HP.arr_reads (H8.out.front 3)) m0
                injection hvx with e1 e2 e3
                clear e2 e3
                subst e1
                have CLA : Hid (∀ w9, St w (intsP (.slice (some ⟨b8, o8, none⟩) n2 c8) nw :: cacheP c tb bud s2 :: intsP (.slice a7 (O.length + dl.length) c7) (O ++ dl) :: HP.arr 3 1 (.slice (some ⟨bx, ox, none⟩) m xc) m (intsC (fromI nx m)) :: HP.blk h #[.int .i64 yk, .int .i64 yc, .int .i64 (nx : Nat), .slice (some ⟨bx, ox, none⟩) m xc] 37 :: intsP (.slice a4 old.length c4) old :: []) w9 → w9.cell? ⟨b8, o8 + (n2 - 1), none⟩ = some (.int .i64 (nx : Nat)) ∧ w9.cell? ⟨bx, ox, none⟩ = some (.int .i64 (nx : Nat)) ∧ w9.cell? ⟨h, 3, none⟩ = some (.slice (some ⟨bx, ox, none⟩) m xc)) := Lib.hid fun w9 g => by
                  refine ⟨?_, ?_, (g.front 4).cells4.2.2.2⟩
                  · obtain ⟨_, _, _, hv, hc⟩ := ints_at g NL
                    cases hv
                    exact hc
                  · obtain ⟨_, _, _, hv, _, hc⟩ := Reads.lies (HP.arr_reads (g.front 3)) m0
                    cases hv
                    exact hc 0 _ (by unfold intsC; rw [List.getElem?_map, fromI_head m0]; rfl)
                have q3 : IntKind.i64.wrap ((n2 : Int) - 1) = ((n2 - 1 : Nat) : Int) := by rw [IntWalk.i64_in _ (by omega)]; omega
                have q4 : ((n2 - 1 : Nat) : Int) < (n2 : Int) := by omega
                have q5 : (0 : Int) ≤ ((n2 - 1 : Nat) : Int) := by omega
                have q4' : n2 - 1 < n2 := by omega
                have p0 : decide ((0 : Int) < (m : Int)) = true := decide_eq_true (by omega)
                have p0' : decide (0 < m) = true := decide_eq_true m0
                have p1 : (0 : Int) < (m : Int) := by omega
                have hne2 : (((nx : Nat) : Int) != ((nx : Nat) : Int)) = false := by simp
                clear NL
                generalize n2 - 1 = n3 at *
                go_wp2_with fail
                refine wp_region_qst (fun w' => St w (intsP (.slice (some ⟨b8, o8, none⟩) n2 c8) nw :: cacheP c tb bud s2 :: intsP (.slice a7 (O.length + dl.length) c7) (O ++ dl) :: HP.arr 3 1 (.slice (some ⟨bx, ox, none⟩) m xc) m (intsC (fromI nx m)) :: HP.blk h #[.int .i64 yk, .int .i64 yc, .int .i64 (nx : Nat), .slice (some ⟨bx, ox, none⟩) m xc] 37 :: intsP (.slice a4 old.length c4) old :: []) w') (by kernel_rfl) (by kernel_rfl) H8.out.drew ?_
                repeat (
                  with_reducible refine wpQuiet_step (fun K hK => ?_)
                  go_simp
                  first
                    | (refine hK _ ?_; clear hK K)
                    | (apply Exists.intro
                       refine ⟨fun w1 h1 => ?_, hK _ ?_⟩
                       (first
                        | (with_reducible rfl)
                        | (obtain ⟨z0, z1, z2⟩ := CLA.out _ h1; go_simp; with_reducible rfl))
                       clear hK K))
                refine wpQuiet_nil ?_
                intro w2 h2
                go_wp2_with fail
                go_loopw [17] (fun k wr => ∃ (k' : Nat) (V : List Value), k' ≤ m ∧ k = .int .i64 k' ∧ V.length = m ∧ Hid (St w (HP.arr 3 1 (.slice (some ⟨bx, ox, none⟩) m xc) m V :: HP.blk h #[.int .i64 yk, .int .i64 yc, .int .i64 (nx : Nat), .slice (some ⟨bx, ox, none⟩) m xc] 37 :: cacheP c tb bud s2 :: intsP (.slice a7 (O.length + dl.length) c7) (O ++ dl) :: []) wr)) (fun k _ => m - (intOf k).toNat)
                case atStart => exact ⟨0, _, Nat.zero_le _, rfl, by unfold intsC; rw [List.length_map, fromI_len], Lib.hid (h2.pick 6 [3, 4, 1, 2])⟩
                case round =>
                  clear h2
                  obtain ⟨k, V, hk, rfl, hV, HM⟩ := hrel
                  obtain ⟨x0, x1, x2, x3⟩ := (HM.out.front 1).cells4
                  by_cases hltk : k < m
                  · have z9 := HP.arr_cell HM.out (List.getElem?_eq_getElem (show k < V.length by omega))
                    obtain ⟨hset, hfz⟩ := HP.arr_set k (.int .i64 (-1)) (by omega) HM.out
                    have HS2 := Lib.hid hset
                    clear hset
                    go_wp2_with fail
                    go_roundw
                    case rel => exact ⟨k + 1, V.set k (.int .i64 (-1)), hltk, by go_num, by rw [List.length_set]; exact hV, HS2⟩
                    case measure => simp [intOf]; omega
                  · obtain rfl : k = m := by omega
                    go_wp2_with fail
                    go_roundw
                    case rel => exact ⟨i + 1, nx + k, s2, O ++ dl, a7, c7, hlt, by go_num, by go_num, by rw [List.length_append], by omega, OK2, RELN, Lib.hid (HM.out.pick 4 [2, 3])⟩
                    case measure => simp [intOf]; omega
              · have p0 : decide ((0 : Int) < (m : Int)) = false := decide_eq_false (by omega)
                have p0' : decide (0 < m) = false := decide_eq_false m0
                have CLA : Hid (∀ w9, St w (intsP (.slice a8 n2 c8) nw :: cacheP c tb bud s2 :: intsP (.slice a7 (O.length + dl.length) c7) (O ++ dl) :: HP.arr 3 1 (.slice xa m xc) m (intsC (fromI nx m)) :: HP.blk h #[.int .i64 yk, .int .i64 yc, .int .i64 (nx : Nat), .slice xa m xc] 37 :: intsP (.slice a4 old.length c4) old :: []) w9 → w9.cell? ⟨h, 3, none⟩ = some (.slice xa m xc)) := Lib.hid fun w9 g => (g.front 4).cells4.2.2.2
                go_wp2_with fail
                refine wp_region_qst (fun w' => St w (intsP (.slice a8 n2 c8) nw :: cacheP c tb bud s2 :: intsP (.slice a7 (O.length + dl.length) c7) (O ++ dl) :: HP.arr 3 1 (.slice xa m xc) m (intsC (fromI nx m)) :: HP.blk h #[.int .i64 yk, .int .i64 yc, .int .i64 (nx : Nat), .slice xa m xc] 37 :: intsP (.slice a4 old.length c4) old :: []) w') (by kernel_rfl) (by kernel_rfl) H8.out.drew ?_
                repeat (
                  with_reducible refine wpQuiet_step (fun K hK => ?_)
                  go_simp
                  first
                    | (refine hK _ ?_; clear hK K)
                    | (apply Exists.intro
                       refine ⟨fun w1 h1 => ?_, hK _ ?_⟩
                       (first
                        | (with_reducible rfl)
                        | (have z0 := CLA.out _ h1; go_simp; with_reducible rfl))
                       clear hK K))
                refine wpQuiet_nil ?_
                intro w2 h2
                go_wp2_with fail
                go_loopw [17] (fun k wr => ∃ (k' : Nat) (V : List Value), k' ≤ m ∧ k = .int .i64 k' ∧ V.length = m ∧ Hid (St w (HP.arr 3 1 (.slice xa m xc) m V :: HP.blk h #[.int .i64 yk, .int .i64 yc, .int .i64 (nx : Nat), .slice xa m xc] 37 :: cacheP c tb bud s2 :: intsP (.slice a7 (O.length + dl.length) c7) (O ++ dl) :: []) wr)) (fun k _ => m - (intOf k).toNat)
                case atStart => exact ⟨0, _, Nat.zero_le _, rfl, by unfold intsC; rw [List.length_map, fromI_len], Lib.hid (h2.pick 6 [3, 4, 1, 2])⟩
                case round =>
                  clear h2
                  obtain ⟨k, V, hk, rfl, hV, HM⟩ := hrel
                  obtain ⟨x0, x1, x2, x3⟩ := (HM.out.front 1).cells4
                  by_cases hltk : k < m
                  · exact absurd hltk (by omega)
                  · obtain rfl : k = m := by omega
                    go_wp2_with fail
                    go_roundw
                    case rel => exact ⟨i + 1, nx + k, s2, O ++ dl, a7, c7, hlt, by go_num, by go_num, by rw [List.length_append], by omega, OK2, RELN, Lib.hid (HM.out.pick 4 [2, 3])⟩
                    case measure => simp [intOf]; omega
    · obtain rfl : i = acts.length := by omega
      have hnb : nx ≤ 18060 := by omega
      have NS := Lib.hid (objsN_len OK.out)
      have olen := (once_len PM.out).1
      have MK := make_told nx hnb
      have h1 := HS.out.newArr 3 1 nx (numsF nx fun _ => 0) (by rw [numsF_len]; omega) (by unfold maxLen; omega)
      have H1 := Lib.hid h1
      generalize hh : wr.heap.size = h at *
      clear h1 HS
      go_wp2_with fail
      clear hh MK
      go_loopw [9, 19] (fun out i wr => ∃ (k : Nat) (OL : List Int) (oa : Option Addr) (oc : Nat), k ≤ tb.length ∧ i = .int .i64 k ∧ out = .slice oa OL.length oc ∧ Hid (OL = O ++ objsN s k) ∧ Hid (St w (cacheP c tb bud s :: intsP out OL :: HP.arr 3 1 (.slice (some ⟨h, 0, none⟩) nx nx) nx (numsF nx (fun _ => 0)) :: []) wr)) (fun _ i _ => tb.length - (intOf i).toNat)
      case atStart => exact ⟨0, O, oa, oc, Nat.zero_le _, rfl, rfl, Lib.hid (List.append_nil O).symm, Lib.hid (H1.out.pick 3 [1, 2, 0])⟩
      case round =>
        clear H1
        obtain ⟨k, OL, oa, oc, hk, rfl, rfl, EO, HS⟩ := hrel
        by_cases hlt : k < tb.length
        · have OB := Lib.hid (objects_in w wr _ c tb bud s k hN (OK.out k) HS.out hlt)
          have LO : OL.length ≤ 28300 := by rw [EO.out, List.length_append]; have := NS.out k; omega
          have LK : (s k).objs.length ≤ 256 := (OK.out k).2.2.2
          have EN : Hid (OL ++ (s k).objs = O ++ objsN s (k + 1)) := Lib.hid (by rw [EO.out, List.append_assoc]; rfl)
          have i0' : (0 : Int) ≤ (k : Int) := by omega
          generalize (s k).objs = dl at *
          clear HS EO
          go_wp2_with fail
          refine OB.out.mono ?_
          rintro e w5 ⟨a5, c5, rfl, g5⟩
          have R5 := Lib.hid (HP.arr_reads g5)
          have G5 : Hid (St w (HP.arr 3 1 (.slice oa OL.length oc) OL.length (intsC OL) :: intsP (.slice a5 dl.length c5) dl :: cacheP c tb bud s :: HP.arr 3 1 (.slice (some ⟨h, 0, none⟩) nx nx) nx (numsF nx (fun _ => 0)) :: []) w5) := Lib.hid (g5.pick 4 [2, 0, 1, 3])
          clear g5
          go_wp2_with (at_builtin; refine wpList_append_st rfl _ _ 28 rfl 3 i0 _ 1 8 Try.underlying28 HI.out Z0.out Z1.out Z2.out rfl _ _ rfl rfl OL.length (intsC OL) G5.out dl.length (intsC dl) R5.out (intsC_one _) (by unfold maxLen; omega) (by omega) ?_; intro v' w' hs' hv'; obtain ⟨a7, c7, rfl⟩ := (HP.arr_reads hs').form; have HS9 := Lib.hid hs'; clear hs' hv')
          go_roundw
          case rel =>
            refine ⟨k + 1, OL ++ dl, a7, c7, hlt, by go_num, by rw [List.length_append], EN, Lib.hid ?_⟩
            have h9 := (out_shape HS9.out).pick 4 [2, 0, 3]
            rw [List.length_append] at h9
            exact h9
          case measure => simp [intOf]; omega
        · obtain rfl : k = tb.length := by omega
          have PO : Hid (OL.Perm (fromI 0 nx)) := Lib.hid (by rw [EO.out]; exact List.perm_append_comm.trans PM.out)
          have LO : OL.length = nx := by rw [PO.out.length_eq, fromI_len]
          have HT : Hid (St w (HP.arr 3 1 (.slice (some ⟨h, 0, none⟩) nx nx) nx (numsF nx (fun v => (((OL.take 0).count (v : Int) : Nat) : Int))) :: intsP (.slice oa OL.length oc) OL :: cacheP c tb bud s :: []) wr) := Lib.hid (HS.out.pick 3 [2, 1, 0])
          clear HS EO PM NS
          go_wp2_with fail
          go_loopw [20] (fun j wr => ∃ j' : Nat, j' ≤ OL.length ∧ j = .int .i64 j' ∧ Hid (St w (HP.arr 3 1 (.slice (some ⟨h, 0, none⟩) nx nx) nx (numsF nx (fun v => (((OL.take j').count (v : Int) : Nat) : Int))) :: intsP (.slice oa OL.length oc) OL :: cacheP c tb bud s :: []) wr)) (fun j _ => OL.length - (intOf j).toNat)
          case atStart => exact ⟨0, Nat.zero_le _, rfl, HT⟩
          case round =>
            clear HT
            obtain ⟨j, hj, rfl, HS⟩ := hrel
            by_cases hltj : j < OL.length
            · obtain ⟨x, hx⟩ : ∃ x, OL[j]? = some x := ⟨OL[j], List.getElem?_eq_getElem hltj⟩
              have hm := mem_fromI.1 (PO.out.mem_iff.1 (List.mem_of_getElem? hx))
              obtain ⟨v, rfl⟩ : ∃ v : Nat, x = (v : Int) := ⟨x.toNat, by omega⟩
              have hv : v < nx := by omega
              obtain ⟨bo, oo, cpo, hvo, z0⟩ := ints_at (HS.out.front 1) hx
              injection hvo with e1 e2 e3
              clear e2 e3
              subst e1
              have z1 := HP.arr_cell HS.out (numsF_get hv)
              have hset := told_step hv hx HS.out
              have hfz := (HP.arr_set v (.int .i64 0) (by omega) HS.out).2
              have hc : (OL.take j).count (v : Int) ≤ nx := by
                have h5 : (OL.take j).count (v : Int) ≤ (OL.take j).length := List.count_le_length
                have h6 := List.length_take_le' j OL
                omega
              rw [Nat.zero_add] at z1 hfz
              have HS2 := Lib.hid hset
              generalize (OL.take j).count (v : Int) = ct at *
              have q0 : IntKind.i64.wrap ((ct : Int) + 1) = ((ct + 1 : Nat) : Int) := by rw [IntWalk.i64_in _ (by omega)]; rfl
              have d0 : decide ((v : Int) < 0) = false := decide_eq_false (by omega)
              have d1 : decide ((nx : Int) ≤ (v : Int)) = false := decide_eq_false (by omega)
              have d1' : decide (nx ≤ v) = false := decide_eq_false (by omega)
              have n0 : ¬ (v : Int) < 0 := by omega
              have v0 : (0 : Int) ≤ (v : Int) := by omega
              have v1 : (v : Int) < (nx : Int) := by omega
              clear hset hm hx HS
              go_wp2_with fail
              go_roundw
              case rel => exact ⟨j + 1, hltj, by go_num, HS2⟩
              case measure => simp [intOf]; omega
            · obtain rfl : j = OL.length := by omega
              have HS1 : Hid (St w (HP.arr 3 1 (.slice (some ⟨h, 0, none⟩) nx nx) nx (numsF nx (fun _ => 1)) :: intsP (.slice oa OL.length oc) OL :: cacheP c tb bud s :: []) wr) := Lib.hid (told_ones PO.out HS.out)
              clear HS PO
              go_wp2_with fail
              go_loopw [21] (fun v wr => ∃ v' : Nat, v' ≤ nx ∧ v = .int .i64 v' ∧ Hid (St w (HP.arr 3 1 (.slice (some ⟨h, 0, none⟩) nx nx) nx (numsF nx (fun _ => 1)) :: intsP (.slice oa OL.length oc) OL :: cacheP c tb bud s :: []) wr)) (fun v _ => nx - (intOf v).toNat)
              case atStart => exact ⟨0, Nat.zero_le _, rfl, HS1⟩
              case round =>
                clear HS1
                obtain ⟨v, hv, rfl, HS⟩ := hrel
                by_cases hltv : v < nx
                · have z1 := HP.arr_cell HS.out (numsF_get hltv)
                  rw [Nat.zero_add] at z1
                  go_wp2_with fail
                  go_roundw
                  case rel => exact ⟨v + 1, hltv, by go_num, HS⟩
                  case measure => simp [intOf]; omega
                · obtain rfl : v = nx := by omega
                  go_wp2_with fail
                  refine (AL.out wr _ HS.out).mono ?_
                  rintro e w1 ⟨rfl, h1⟩
                  go_wp2_with fail
                  go_ret
                  exact ⟨rfl, h1.1⟩
end Go.Proofs.Ytaejojbdkgccpaa

/-
  The law CacheLimits. (Printed by mkL5.py.)
-/
import Derived.Test.YtaejojbdkgccpaaL4
namespace Go.Proofs.Ytaejojbdkgccpaa
open Go.RowKit Go.Maps Go.ChangeMaps

/-- what the limit becomes -/
def wantN (kd : Int) (n lim B : Nat) (e : Int) : Nat :=
  if (kd = 0 ∧ n = 0 ∧ lim < B) ∨ (kd = 3 ∧ e = 0 ∧ lim < n + 1 ∧ lim < B) then lim + 1 else if kd = 0 ∧ n = 0 then min (lim + B) 128 else if kd = 4 ∧ B < lim then max (lim - B) B else lim
theorem actS_at {tb : List Cls} {s : Nat → CL} {x : ActC} {k : Nat} (hc : x.cls = (k : Int)) (hk : k < tb.length) :
    actS tb s x k = if x.kind = 4 then (s k).scavF (Bt tb k) else if x.kind = 5 then (s k).drainF else if x.kind = 0 then (s k).takeF (Bt tb k) else if x.kind = 2 then (s k).fillF x.l else if x.kind = 3 then (s k).putF (Bt tb k) x.a else s k := by
  have hin : inC tb.length x.cls := by unfold inC; omega
  have e : x.cls.toNat = k := by omega
  unfold actS actC
  rw [e]
  by_cases h4 : x.kind = 4
  · rw [if_pos h4, if_pos h4]
  by_cases h5 : x.kind = 5
  · rw [if_neg h4, if_pos h5, if_neg h4, if_pos h5]
  rw [if_neg h4, if_neg h5, if_neg (not_not_intro hin), if_neg h4, if_neg h5]
  split
  · exact updC_same _ _ _
  split
  · exact updC_same _ _ _
  split
  · exact updC_same _ _ _
  · rfl
theorem limits_law {tb : List Cls} (ht : tbOk tb) {s : Nat → CL} {x : ActC} {k : Nat} (hc : x.cls = (k : Int)) (hk : k < tb.length) (hok : (s k).ok) :
    (actS tb s x k).lim = wantN x.kind (s k).objs.length (s k).lim (Bt tb k) (doE tb s x) ∧ (x.kind ≠ 3 ∨ doE tb s x ≠ 0 ∨ (actS tb s x k).objs.length ≤ (actS tb s x k).lim ∨ (s k).lim + Bt tb k ≤ (s k).objs.length) := by
  have hin : inC tb.length x.cls := by unfold inC; omega
  have e : x.cls.toNat = k := by omega
  have hB := Bt_range ht k
  rw [actS_at hc hk]
  obtain ⟨k1, k2, k3, k4⟩ := hok
  generalize hy : s k = y at *
  generalize Bt tb k = B at *
  unfold wantN
  by_cases h4 : x.kind = 4
  · rw [if_pos h4, if_neg (by omega), if_neg (by omega)]
    refine ⟨?_, .inl (by omega)⟩
    unfold CL.scavF
    by_cases h : B < y.lim
    · rw [if_pos h, if_pos ⟨h4, h⟩]
    · rw [if_neg h, if_neg (fun g => h g.2)]
  rw [if_neg h4]
  by_cases h5 : x.kind = 5
  · rw [if_pos h5, if_neg (by omega), if_neg (by omega), if_neg (by omega)]
    exact ⟨rfl, .inl (by omega)⟩
  rw [if_neg h5]
  by_cases h0 : x.kind = 0
  · rw [if_pos h0]
    refine ⟨?_, .inl (by omega)⟩
    unfold CL.takeF
    by_cases hn : y.objs.length = 0
    · rw [if_pos hn]
      show (if y.lim < B then y.lim + 1 else min (y.lim + B) 128) = _
      by_cases hl : y.lim < B
      · rw [if_pos hl, if_pos (Or.inl ⟨h0, hn, hl⟩)]
      · rw [if_neg hl, if_neg (by omega), if_pos ⟨h0, hn⟩]
    · rw [if_neg hn, if_neg (by omega), if_neg (by omega), if_neg (by omega)]
  rw [if_neg h0]
  by_cases h2 : x.kind = 2
  · rw [if_pos h2, if_neg (by omega), if_neg (by omega), if_neg (by omega)]
    refine ⟨?_, .inl (by omega)⟩
    unfold CL.fillF
    split <;> rfl
  rw [if_neg h2]
  by_cases h3 : x.kind = 3
  · rw [if_pos h3]
    have hE : doE tb s x = y.putE := by
      unfold doE
      rw [if_neg h0, if_neg (by omega), if_neg h2, if_pos h3, if_pos hin, e, hy]
    rw [hE]
    by_cases hf : 256 < y.objs.length + 1
    · have e1 : y.putE = 6 := if_pos hf
      have e2 : y.putF B x.a = y := if_pos hf
      rw [e1, e2, if_neg (by omega), if_neg (by omega), if_neg (by omega)]
      exact ⟨rfl, .inr (.inl (by decide))⟩
    have e1 : y.putE = 0 := if_neg hf
    rw [e1]
    by_cases hl : y.objs.length + 1 ≤ y.lim
    · have e2 : y.putF B x.a = ⟨y.objs ++ [x.a], y.lim, y.low⟩ := by unfold CL.putF; rw [if_neg hf, if_pos hl]
      rw [e2, if_neg (by omega), if_neg (by omega), if_neg (by omega)]
      refine ⟨rfl, .inr (.inr (.inl ?_))⟩
      show (y.objs ++ [x.a]).length ≤ y.lim
      rw [List.length_append]
      exact hl
    · have e2 : y.putF B x.a = CL.oldest (min B (y.objs.length + 1)) ⟨y.objs ++ [x.a], if y.lim < B then y.lim + 1 else y.lim, y.low⟩ := by unfold CL.putF; rw [if_neg hf, if_neg hl]
      rw [e2]
      have e3 : (CL.oldest (min B (y.objs.length + 1)) ⟨y.objs ++ [x.a], if y.lim < B then y.lim + 1 else y.lim, y.low⟩).objs.length = y.objs.length + 1 - min B (y.objs.length + 1) := by
        unfold CL.oldest
        rw [List.length_drop, List.length_append]
        rfl
      have e4 : (CL.oldest (min B (y.objs.length + 1)) ⟨y.objs ++ [x.a], if y.lim < B then y.lim + 1 else y.lim, y.low⟩).lim = if y.lim < B then y.lim + 1 else y.lim := rfl
      rw [e3, e4]
      by_cases hlb : y.lim < B
      · rw [if_pos hlb, if_pos (Or.inr ⟨h3, rfl, by omega, hlb⟩)]
        refine ⟨rfl, ?_⟩
        omega
      · rw [if_neg hlb, if_neg (by omega), if_neg (by omega), if_neg (by omega)]
        refine ⟨rfl, ?_⟩
        omega
  rw [if_neg h3, if_neg (by omega), if_neg (by omega), if_neg (by omega)]
  exact ⟨rfl, .inl h3⟩

set_option maxRecDepth 10000 in
set_option maxHeartbeats 8000000 in
theorem limits_walk (a : Option Addr) (cap : Nat) (tb : List Cls) (bud : Int) (_w1 : (Lit.int .i64 bud).wf = true) (a2 : Option Addr) (cap2 : Nat) (acts : List ActV) (x : ActV) (w : World)
    (ht : Reads w 3 (.slice a tb.length cap) tb.length (clsC tb)) (_hn : tb.length ≤ 9223372036854775807) (h : ActsAt w (.slice a2 acts.length cap2) acts) (hn2 : acts.length ≤ 9223372036854775807) (hx : IntsAt w x.v x.l ∧ x.l.length ≤ 9223372036854775807) :
    Calls Try.prog 5 #[.slice a tb.length cap, .int .i64 bud, .slice a2 acts.length cap2, .agg #[.int .i64 x.kind, .int .i64 x.cls, .int .i64 x.o, x.v]] w fun e w' => e = .returned (.bool true) ∧ Below w.heap.size w w' := by
  obtain ⟨kd, cls, o, xa, xc, xl⟩ := x
  have ev : (⟨kd, cls, o, xa, xc, xl⟩ : ActV).v = .slice xa xl.length xc := rfl
  have hx : IntsAt w (.slice xa xl.length xc) xl ∧ xl.length ≤ 9223372036854775807 := hx
  rw [ev]
  dsimp only
  clear ev
  have hbx := (St.start w).allocRow #[.int .i64 kd, .int .i64 cls, .int .i64 o, .slice xa xl.length xc] 37
  obtain ⟨q0, q1, q2, q3⟩ := hbx.cells4
  have hsz : (w.alloc (.cells #[.int .i64 kd, .int .i64 cls, .int .i64 o, .slice xa xl.length xc] 37)).heap.size = w.heap.size + 1 := by simp
  have HB := Lib.hid hbx
  have H0 := Lib.hid h
  have GR := Lib.hid (great_any _ a2 cap2 acts (ActsAt.of0 hbx h) hn2)
  have AL := Lib.hid fun w1 (L : List HP) (h1 : St w L w1) => alive_any w w1 L h1
  have GX : Hid (∀ w1 (L : List HP) (b : Nat), St w (HP.arr 37 4 (.slice (some ⟨b, 0, none⟩) 1 1) 1 [.int .i64 kd, .int .i64 cls, .int .i64 o, .slice xa xl.length xc] :: L) w1 →
      Calls Try.prog 14 #[.slice (some ⟨b, 0, none⟩) 1 1] w1 fun e w' => e = .returned (.bool (greatB [⟨kd, cls, o, xa, xc, xl⟩])) ∧ w1 = w') := Lib.hid fun w1 L b h1 => great_any w1 (some ⟨b, 0, none⟩) 1 [⟨kd, cls, o, xa, xc, xl⟩] ⟨HP.arr_reads h1, fun y hy => by rw [List.mem_singleton.1 hy]; exact ⟨h1.reads0 hx.1, hx.2⟩⟩ (by simp)
  have hbs := (hbx.newArr 37 4 1 [.int .i64 kd, .int .i64 cls, .int .i64 o, .slice xa xl.length xc] rfl (by decide))
  rw [hsz] at hbs
  have HBS := Lib.hid hbs
  clear hbx hbs
  cases hg : greatB acts with
  | true =>
    rw [hg] at GR
    clear h ht hg hx
    go_enter Try.func5, Try.ntmps5
    go_wp2_with fail
    refine GR.out.mono ?_
    rintro e w' ⟨rfl, rfl⟩
    go_wp2_with fail
    refine (AL.out _ _ HB.out).mono ?_
    rintro e w1 ⟨rfl, h1⟩
    go_wp2_with fail
    go_ret
    exact ⟨rfl, h1.1⟩
  | false =>
  obtain ⟨n60, n300⟩ := acts_ok hg
  rw [hg] at GR
  cases hgx : greatB [⟨kd, cls, o, xa, xc, xl⟩] with
  | true =>
    rw [hgx] at GX
    clear h ht hg hgx n300 hx
    go_enter Try.func5, Try.ntmps5
    go_wp2_with fail
    refine GR.out.mono ?_
    rintro e w' ⟨rfl, rfl⟩
    go_wp2_with fail
    refine (GX.out _ _ _ HBS.out).mono ?_
    rintro e w' ⟨rfl, rfl⟩
    go_wp2_with fail
    refine (AL.out _ _ HBS.out).mono ?_
    rintro e w1 ⟨rfl, h1⟩
    go_wp2_with fail
    go_ret
    exact ⟨rfl, h1.1⟩
  | false =>
  rw [hgx] at GX
  have xl3 : xl.length ≤ 300 := (acts_ok hgx).2 ⟨kd, cls, o, xa, xc, xl⟩ (by simp)
  have HBX : Hid (St w (HP.blk w.heap.size #[.int .i64 kd, .int .i64 cls, .int .i64 o, .slice xa xl.length xc] 37 :: []) ((w.alloc (.cells #[.int .i64 kd, .int .i64 cls, .int .i64 o, .slice xa xl.length xc] 37)).alloc (.cells #[.int .i64 kd, .int .i64 cls, .int .i64 o, .slice xa xl.length xc] 37))) := Lib.hid HBS.out.drop
  have MDG := Lib.hid fun w1 (L : List HP) (h1 : St w L w1) => made_any w w1 L h1 a cap tb (fun G w' h => h.reads0 ht) bud a2 cap2 acts h n60 n300
  have HT := Lib.hid ht
  have HX := Lib.hid hx.1
  clear h ht hg hgx n300 hx
  go_enter Try.func5, Try.ntmps5
  go_wp2_with fail
  refine GR.out.mono ?_
  rintro e w' ⟨rfl, rfl⟩
  go_wp2_with fail
  refine (GX.out _ _ _ HBS.out).mono ?_
  rintro e w' ⟨rfl, rfl⟩
  clear q0 q1 q2 q3 hsz
  go_wp2_with fail
  refine (MDG.out _ _ HBX.out).mono ?_
  rintro e w1 (⟨_, rfl, h1⟩ | ⟨hmk, c, rfl, h1⟩)
  · have H1 := Lib.hid h1
    clear h1
    go_wp2_with fail
    refine (AL.out w1 _ H1.out).mono ?_
    rintro e w1 ⟨rfl, h1⟩
    go_wp2_with fail
    go_ret
    exact ⟨rfl, h1.1⟩
  have T := Lib.hid (mk_ok hmk acts).1
  have OK := Lib.hid (mk_ok hmk acts).2
  have H1 := Lib.hid h1
  have hN := T.out.2.1
  clear h1 hmk MDG GR GX HB HBS HBX
  generalize actsS tb newS acts = s at *
  obtain ⟨q0, q1, q2, q3⟩ := (H1.out.front 1).cells4
  by_cases hin : inC tb.length cls
  rotate_left
  · by_cases h0 : cls < 0
    · have j0 : decide (cls < 0) = true := decide_eq_true h0
      clear hin h0
      go_wp2_with fail
      refine (AL.out w1 _ H1.out).mono ?_
      rintro e w1 ⟨rfl, h1⟩
      go_wp2_with fail
      go_ret
      exact ⟨rfl, h1.1⟩
    · have j0 : decide (cls < 0) = false := decide_eq_false h0
      have j1 : decide ((tb.length : Int) ≤ cls) = true := decide_eq_true (by unfold inC at hin; omega)
      clear hin h0
      go_wp2_with fail
      refine (AL.out w1 _ H1.out).mono ?_
      rintro e w1 ⟨rfl, h1⟩
      go_wp2_with fail
      go_ret
      exact ⟨rfl, h1.1⟩
  obtain ⟨e1, e2⟩ := inC_nat hin
  obtain ⟨k, hk⟩ : ∃ k, cls.toNat = k := ⟨_, rfl⟩
  rw [hk] at e1 e2
  clear hk
  subst e1
  have j0' : decide ((k : Int) < 0) = false := decide_eq_false (by omega)
  have j1' : decide ((tb.length : Int) ≤ (k : Int)) = false := decide_eq_false (by omega)
  have j2 : (0 : Int) ≤ (k : Int) := by omega
  have j3 : (k : Int) < (tb.length : Int) := by omega
  have okk := OK.out k
  obtain ⟨cl, hcl⟩ : ∃ cl, tb[k]? = some cl := ⟨tb[k], List.getElem?_eq_getElem e2⟩
  obtain ⟨tbb, toff, tcap, tv, _⟩ := tb_cells (H1.out.reads0 HT.out) hcl
  injection tv with ee _ ee2
  subst ee
  clear ee2
  have TBC : Hid (∀ w9 L, St w L w9 → w9.cell? ⟨tbb, toff + k * 3 + 2, none⟩ = some (.int .i64 (Bt tb k : Nat))) := Lib.hid fun w9 L g => by rw [← Bt_of T.out hcl]; exact (tab_size HT.out g hcl).2
  have LAW := Lib.hid (limits_law T.out (x := ⟨kd, (k : Int), o, xl⟩) rfl e2 okk)
  have ok2 := actS_ok T.out OK.out ⟨kd, (k : Int), o, xl⟩
  have ok2k := ok2 k
  have hBr := Bt_range T.out k
  have DO := Lib.hid fun w9 (g : St w (cacheP c tb bud s :: HP.blk w.heap.size #[.int .i64 kd, .int .i64 (k : Int), .int .i64 o, .slice xa xl.length xc] 37 :: []) w9) => do_any w w9 _ c tb bud s T.out OK.out g ⟨kd, (k : Int), o, xa, xc, xl⟩ (fun G w' h => h.reads0 HX.out) xl3
  have LN := Lib.hid fun w9 (L : List HP) (g : St w (cacheP c tb bud s :: L) w9) => len_in w w9 L c tb bud s k hN okk g e2
  have LM := Lib.hid fun w9 (L : List HP) (g : St w (cacheP c tb bud s :: L) w9) => limit_in w w9 L c tb bud s hN g k e2
  have LN2 := Lib.hid fun w9 (L : List HP) (g : St w (cacheP c tb bud (actS tb s ⟨kd, (k : Int), o, xl⟩) :: L) w9) => len_in w w9 L c tb bud (actS tb s ⟨kd, (k : Int), o, xl⟩) k hN ok2k g e2
  have LM2 := Lib.hid fun w9 (L : List HP) (g : St w (cacheP c tb bud (actS tb s ⟨kd, (k : Int), o, xl⟩) :: L) w9) => limit_in w w9 L c tb bud (actS tb s ⟨kd, (k : Int), o, xl⟩) hN g k e2
  have ekc : (⟨kd, (k : Int), o, xl⟩ : ActC).kind = kd := rfl
  rw [ekc] at LAW
  have eXc : (⟨kd, (k : Int), o, xa, xc, xl⟩ : ActV).c = ⟨kd, (k : Int), o, xl⟩ := rfl
  rw [eXc] at DO
  clear ekc eXc
  generalize hs2 : actS tb s ⟨kd, (k : Int), o, xl⟩ = s2 at *
  generalize he : doE tb s ⟨kd, (k : Int), o, xl⟩ = er at *
  have r1 := okk.1
  have r2 := okk.2.1
  have r3 := okk.2.2.2
  have r4 := ok2k.1
  have r5 := ok2k.2.1
  have r6 := ok2k.2.2.2
  generalize (s k).objs.length = n at *
  generalize (s k).lim = lim at *
  generalize (s2 k).objs.length = m2 at *
  generalize (s2 k).lim = lim2 at *
  generalize Bt tb k = B at *
  have H3 : Hid (St w (cacheP c tb bud s :: HP.blk w.heap.size #[.int .i64 kd, .int .i64 (k : Int), .int .i64 o, .slice xa xl.length xc] 37 :: []) w1.drew) := Lib.hid H1.out.drew
  have KC : Hid (∀ w9, St w (cacheP c tb bud s :: HP.blk w.heap.size #[.int .i64 kd, .int .i64 (k : Int), .int .i64 o, .slice xa xl.length xc] 37 :: []) w9 → w9.cell? ⟨w.heap.size, 1, none⟩ = some (.int .i64 (k : Int)) ∧ w9.cell? ⟨tbb, toff + k * 3 + 2, none⟩ = some (.int .i64 (B : Nat))) := Lib.hid fun w9 g => ⟨(g.front 1).cells4.2.1, TBC.out _ _ g⟩
  have QC : Hid (∀ w9 A, St w (A :: HP.blk w.heap.size #[.int .i64 kd, .int .i64 (k : Int), .int .i64 o, .slice xa xl.length xc] 37 :: []) w9 → w9.cell? ⟨w.heap.size, 0, none⟩ = some (.int .i64 kd) ∧ w9.cell? ⟨w.heap.size, 1, none⟩ = some (.int .i64 (k : Int)) ∧ w9.cell? ⟨w.heap.size, 2, none⟩ = some (.int .i64 o) ∧ w9.cell? ⟨w.heap.size, 3, none⟩ = some (.slice xa xl.length xc)) := Lib.hid fun w9 A g => (g.front 1).cells4
  clear hin okk ok2k ok2 hcl TBC q0 q2 q3
  have p0 := KC.out _ H3.out
  go_wp2_with fail
  go_region_held3 (fun w' => w'.cell? ⟨w.heap.size, 1, none⟩ = some (.int .i64 (k : Int)) ∧ w'.cell? ⟨tbb, toff + k * 3 + 2, none⟩ = some (.int .i64 (B : Nat))) (first | exact p0 | exact KC.out _ h5 | exact KC.out _ h4)
    (first
      | (go_at_call 22; refine (LN.out _ _ H3.out).mono ?_; rintro e w4 ⟨rfl, h4⟩)
      | (go_at_call 23; refine (LM.out _ _ h4).mono ?_; rintro e w5 ⟨rfl, h5⟩))
  have H5 := Lib.hid h5
  obtain ⟨q0, q1, q2, q3⟩ := QC.out _ _ H5.out
  clear p0 h5 h4
  go_wp2_with fail
  refine (DO.out _ H5.out).mono ?_
  rintro e w6 ⟨a6, c6, rfl, h6⟩
  have H6 : Hid (St w (cacheP c tb bud s2 :: HP.blk w.heap.size #[.int .i64 kd, .int .i64 (k : Int), .int .i64 o, .slice xa xl.length xc] 37 :: []) w6) := Lib.hid h6.drop
  clear h6 q0 q1 q2 q3
  go_wp2_with fail
  refine wp_region_qst (fun w' => St w (cacheP c tb bud s2 :: HP.blk w.heap.size #[.int .i64 kd, .int .i64 (k : Int), .int .i64 o, .slice xa xl.length xc] 37 :: []) w') (by kernel_rfl) (by kernel_rfl) H6.out.drew ?_
  repeat (
    with_reducible refine wpQuiet_step (fun K hK => ?_)
    go_simp
    first
      | (refine hK _ ?_; clear hK K)
      | (apply Exists.intro
         refine ⟨fun w1 h1 => ?_, hK _ ?_⟩
         (first
          | (with_reducible rfl)
          | (go_at_call 22; refine (LN2.out _ _ h1).mono ?_; rintro e w' ⟨rfl, h9⟩; exact ⟨rfl, h9⟩)
          | (go_at_call 23; refine (LM2.out _ _ h1).mono ?_; rintro e w' ⟨rfl, h9⟩; exact ⟨rfl, h9⟩)
          | (obtain ⟨z0, z1, z2, z3⟩ := QC.out _ _ h1; go_simp; with_reducible rfl))
         clear hK K))
  refine wpQuiet_nil ?_
  intro w2 h2
  have H2 := Lib.hid h2
  obtain ⟨q0, q1, q2, q3⟩ := QC.out _ _ h2
  clear h2 QC KC LN LM LN2 LM2 DO
  by_cases hk0 : kd = 0
  · subst hk0
    by_cases h1 : n = 0
    · by_cases h2 : lim < B
      · have r7 : lim2 = lim + 1 := by have := LAW.out.1; unfold wantN at this; rw [if_pos (Or.inl ⟨rfl, h1, h2⟩)] at this; exact this
        have e1 : ((n : Int) == 0) = true := by rw [beq_iff_eq]; omega
        have e6 : decide ((lim : Int) < (B : Int)) = true := decide_eq_true (by omega)
        have e6n : decide (lim < B) = true := decide_eq_true (by omega)
        have e3 : ((lim2 : Int) == ((lim : Int) + 1)) = true := by rw [beq_iff_eq]; omega
        have f0 : decide ((lim : Int) < 1) = false := decide_eq_false (by omega)
        have f0n : decide (lim < 1) = false := decide_eq_false (by omega)
        have f1 : decide ((128 : Int) < (lim : Int)) = false := decide_eq_false (by omega)
        have f1n : decide (128 < lim) = false := decide_eq_false (by omega)
        have f2 : decide ((lim2 : Int) < 1) = false := decide_eq_false (by omega)
        have f2n : decide (lim2 < 1) = false := decide_eq_false (by omega)
        have f3 : decide ((128 : Int) < (lim2 : Int)) = false := decide_eq_false (by omega)
        have f3n : decide (128 < lim2) = false := decide_eq_false (by omega)
        have g0 : IntKind.i64.wrap ((n : Int) + 1) = (n : Int) + 1 := IntWalk.i64_in _ (by omega)
        have g1 : IntKind.i64.wrap ((lim : Int) + 1) = (lim : Int) + 1 := IntWalk.i64_in _ (by omega)
        have g2 : IntKind.i64.wrap ((lim : Int) + (B : Int)) = (lim : Int) + (B : Int) := IntWalk.i64_in _ (by omega)
        have g3 : IntKind.i64.wrap ((lim : Int) - (B : Int)) = (lim : Int) - (B : Int) := IntWalk.i64_in _ (by omega)
        have H9 := H2.out
        clear H2 r1 r2 r3 r4 r5 r6 r7 LAW hBr hN e2 xl3 hn2 n60 h1 h2
        go_wp2_with fail
        refine (AL.out _ _ H9).mono ?_
        rintro e w1 ⟨rfl, h1⟩
        go_wp2_with fail
        go_ret
        exact ⟨by first | rfl | (show Ending.returned (Value.bool _) = Ending.returned (Value.bool true); congr 2; rw [Bool.or_eq_true]; first | exact Or.inl (decide_eq_true (by have := E7.out; omega)) | exact Or.inr (decide_eq_true (by have := E7.out; omega))), h1.1⟩
      · have r7 : lim2 = min (lim + B) 128 := by have := LAW.out.1; unfold wantN at this; rw [if_neg (by omega), if_pos ⟨rfl, h1⟩] at this; exact this
        have e1 : ((n : Int) == 0) = true := by rw [beq_iff_eq]; omega
        have e6 : decide ((lim : Int) < (B : Int)) = false := decide_eq_false (by omega)
        have e6n : decide (lim < B) = false := decide_eq_false (by omega)
        have e3 : ((lim2 : Int) == (min ((lim : Int) + (B : Int)) 128)) = true := by rw [beq_iff_eq]; omega
        have f0 : decide ((lim : Int) < 1) = false := decide_eq_false (by omega)
        have f0n : decide (lim < 1) = false := decide_eq_false (by omega)
        have f1 : decide ((128 : Int) < (lim : Int)) = false := decide_eq_false (by omega)
        have f1n : decide (128 < lim) = false := decide_eq_false (by omega)
        have f2 : decide ((lim2 : Int) < 1) = false := decide_eq_false (by omega)
        have f2n : decide (lim2 < 1) = false := decide_eq_false (by omega)
        have f3 : decide ((128 : Int) < (lim2 : Int)) = false := decide_eq_false (by omega)
        have f3n : decide (128 < lim2) = false := decide_eq_false (by omega)
        have g0 : IntKind.i64.wrap ((n : Int) + 1) = (n : Int) + 1 := IntWalk.i64_in _ (by omega)
        have g1 : IntKind.i64.wrap ((lim : Int) + 1) = (lim : Int) + 1 := IntWalk.i64_in _ (by omega)
        have g2 : IntKind.i64.wrap ((lim : Int) + (B : Int)) = (lim : Int) + (B : Int) := IntWalk.i64_in _ (by omega)
        have g3 : IntKind.i64.wrap ((lim : Int) - (B : Int)) = (lim : Int) - (B : Int) := IntWalk.i64_in _ (by omega)
        have H9 := H2.out
        clear H2 r1 r2 r3 r4 r5 r6 r7 LAW hBr hN e2 xl3 hn2 n60 h1 h2
        go_wp2_with fail
        refine (AL.out _ _ H9).mono ?_
        rintro e w1 ⟨rfl, h1⟩
        go_wp2_with fail
        go_ret
        exact ⟨by first | rfl | (show Ending.returned (Value.bool _) = Ending.returned (Value.bool true); congr 2; rw [Bool.or_eq_true]; first | exact Or.inl (decide_eq_true (by have := E7.out; omega)) | exact Or.inr (decide_eq_true (by have := E7.out; omega))), h1.1⟩
    · have r7 : lim2 = lim := by have := LAW.out.1; unfold wantN at this; rw [if_neg (by omega), if_neg (by omega), if_neg (by omega)] at this; exact this
      have e1 : ((n : Int) == 0) = false := by rw [beq_eq_false_iff_ne]; omega
      have e3 : ((lim2 : Int) == (lim : Int)) = true := by rw [beq_iff_eq]; omega
      have f0 : decide ((lim : Int) < 1) = false := decide_eq_false (by omega)
      have f0n : decide (lim < 1) = false := decide_eq_false (by omega)
      have f1 : decide ((128 : Int) < (lim : Int)) = false := decide_eq_false (by omega)
      have f1n : decide (128 < lim) = false := decide_eq_false (by omega)
      have f2 : decide ((lim2 : Int) < 1) = false := decide_eq_false (by omega)
      have f2n : decide (lim2 < 1) = false := decide_eq_false (by omega)
      have f3 : decide ((128 : Int) < (lim2 : Int)) = false := decide_eq_false (by omega)
      have f3n : decide (128 < lim2) = false := decide_eq_false (by omega)
      have g0 : IntKind.i64.wrap ((n : Int) + 1) = (n : Int) + 1 := IntWalk.i64_in _ (by omega)
      have g1 : IntKind.i64.wrap ((lim : Int) + 1) = (lim : Int) + 1 := IntWalk.i64_in _ (by omega)
      have g2 : IntKind.i64.wrap ((lim : Int) + (B : Int)) = (lim : Int) + (B : Int) := IntWalk.i64_in _ (by omega)
      have g3 : IntKind.i64.wrap ((lim : Int) - (B : Int)) = (lim : Int) - (B : Int) := IntWalk.i64_in _ (by omega)
      have H9 := H2.out
      clear H2 r1 r2 r3 r4 r5 r6 r7 LAW hBr hN e2 xl3 hn2 n60 h1
      go_wp2_with fail
      refine (AL.out _ _ H9).mono ?_
      rintro e w1 ⟨rfl, h1⟩
      go_wp2_with fail
      go_ret
      exact ⟨by first | rfl | (show Ending.returned (Value.bool _) = Ending.returned (Value.bool true); congr 2; rw [Bool.or_eq_true]; first | exact Or.inl (decide_eq_true (by have := E7.out; omega)) | exact Or.inr (decide_eq_true (by have := E7.out; omega))), h1.1⟩
  · by_cases hk3 : kd = 3
    · subst hk3
      by_cases he0 : er = 0
      · subst he0
        by_cases h1 : lim < n + 1
        · by_cases h2 : lim < B
          · by_cases hm : m2 ≤ lim2
            · have r7 : lim2 = lim + 1 := by have := LAW.out.1; unfold wantN at this; rw [if_pos (Or.inr ⟨rfl, rfl, h1, h2⟩)] at this; exact this
              have e1 : decide ((lim : Int) < (n : Int) + 1) = true := decide_eq_true (by omega)
              have e6 : decide ((lim : Int) < (B : Int)) = true := decide_eq_true (by omega)
              have e6n : decide (lim < B) = true := decide_eq_true (by omega)
              have e3 : ((lim2 : Int) == ((lim : Int) + 1)) = true := by rw [beq_iff_eq]; omega
              have E7 := Lib.hid (show m2 ≤ lim2 ∧ m2 ≤ (lim + 1 : Nat) from ⟨hm, by omega⟩)
              have e8 : decide ((m2 : Int) ≤ (lim2 : Int)) = true := decide_eq_true (by omega)
              have e8n : decide (m2 ≤ lim2) = true := decide_eq_true (by omega)
              have f0 : decide ((lim : Int) < 1) = false := decide_eq_false (by omega)
              have f0n : decide (lim < 1) = false := decide_eq_false (by omega)
              have f1 : decide ((128 : Int) < (lim : Int)) = false := decide_eq_false (by omega)
              have f1n : decide (128 < lim) = false := decide_eq_false (by omega)
              have f2 : decide ((lim2 : Int) < 1) = false := decide_eq_false (by omega)
              have f2n : decide (lim2 < 1) = false := decide_eq_false (by omega)
              have f3 : decide ((128 : Int) < (lim2 : Int)) = false := decide_eq_false (by omega)
              have f3n : decide (128 < lim2) = false := decide_eq_false (by omega)
              have g0 : IntKind.i64.wrap ((n : Int) + 1) = (n : Int) + 1 := IntWalk.i64_in _ (by omega)
              have g1 : IntKind.i64.wrap ((lim : Int) + 1) = (lim : Int) + 1 := IntWalk.i64_in _ (by omega)
              have g2 : IntKind.i64.wrap ((lim : Int) + (B : Int)) = (lim : Int) + (B : Int) := IntWalk.i64_in _ (by omega)
              have g3 : IntKind.i64.wrap ((lim : Int) - (B : Int)) = (lim : Int) - (B : Int) := IntWalk.i64_in _ (by omega)
              have H9 := H2.out
              clear H2 r1 r2 r3 r4 r5 r6 r7 LAW hBr hN e2 xl3 hn2 n60 h1 h2 hm
              go_wp2_with fail
              refine (AL.out _ _ H9).mono ?_
              rintro e w1 ⟨rfl, h1⟩
              go_wp2_with fail
              go_ret
              exact ⟨by first | rfl | (show Ending.returned (Value.bool _) = Ending.returned (Value.bool true); congr 2; rw [Bool.or_eq_true]; first | exact Or.inl (decide_eq_true (by have := E7.out; omega)) | exact Or.inr (decide_eq_true (by have := E7.out; omega))), h1.1⟩
            · have r7 : lim2 = lim + 1 := by have := LAW.out.1; unfold wantN at this; rw [if_pos (Or.inr ⟨rfl, rfl, h1, h2⟩)] at this; exact this
              have e1 : decide ((lim : Int) < (n : Int) + 1) = true := decide_eq_true (by omega)
              have e6 : decide ((lim : Int) < (B : Int)) = true := decide_eq_true (by omega)
              have e6n : decide (lim < B) = true := decide_eq_true (by omega)
              have e3 : ((lim2 : Int) == ((lim : Int) + 1)) = true := by rw [beq_iff_eq]; omega
              have e7 : lim + B ≤ n := by rcases LAW.out.2 with h | h | h | h <;> first | omega | exact absurd rfl h
              have e8 : decide ((m2 : Int) ≤ (lim2 : Int)) = false := decide_eq_false (by omega)
              have e8n : decide (m2 ≤ lim2) = false := decide_eq_false (by omega)
              have e9 : decide ((lim : Int) + (B : Int) ≤ (n : Int)) = true := decide_eq_true (by omega)
              have E7 := Lib.hid e7
              clear e7
              have f0 : decide ((lim : Int) < 1) = false := decide_eq_false (by omega)
              have f0n : decide (lim < 1) = false := decide_eq_false (by omega)
              have f1 : decide ((128 : Int) < (lim : Int)) = false := decide_eq_false (by omega)
              have f1n : decide (128 < lim) = false := decide_eq_false (by omega)
              have f2 : decide ((lim2 : Int) < 1) = false := decide_eq_false (by omega)
              have f2n : decide (lim2 < 1) = false := decide_eq_false (by omega)
              have f3 : decide ((128 : Int) < (lim2 : Int)) = false := decide_eq_false (by omega)
              have f3n : decide (128 < lim2) = false := decide_eq_false (by omega)
              have g0 : IntKind.i64.wrap ((n : Int) + 1) = (n : Int) + 1 := IntWalk.i64_in _ (by omega)
              have g1 : IntKind.i64.wrap ((lim : Int) + 1) = (lim : Int) + 1 := IntWalk.i64_in _ (by omega)
              have g2 : IntKind.i64.wrap ((lim : Int) + (B : Int)) = (lim : Int) + (B : Int) := IntWalk.i64_in _ (by omega)
              have g3 : IntKind.i64.wrap ((lim : Int) - (B : Int)) = (lim : Int) - (B : Int) := IntWalk.i64_in _ (by omega)
              have H9 := H2.out
              clear H2 r1 r2 r3 r4 r5 r6 r7 LAW hBr hN e2 xl3 hn2 n60 h1 h2 hm
              go_wp2_with fail
              refine (AL.out _ _ H9).mono ?_
              rintro e w1 ⟨rfl, h1⟩
              go_wp2_with fail
              go_ret
              exact ⟨by first | rfl | (show Ending.returned (Value.bool _) = Ending.returned (Value.bool true); congr 2; rw [Bool.or_eq_true]; first | exact Or.inl (decide_eq_true (by have := E7.out; omega)) | exact Or.inr (decide_eq_true (by have := E7.out; omega))), h1.1⟩
          · by_cases hm : m2 ≤ lim2
            · have r7 : lim2 = lim := by have := LAW.out.1; unfold wantN at this; rw [if_neg (by omega), if_neg (by omega), if_neg (by omega)] at this; exact this
              have e1 : decide ((lim : Int) < (n : Int) + 1) = true := decide_eq_true (by omega)
              have e6 : decide ((lim : Int) < (B : Int)) = false := decide_eq_false (by omega)
              have e6n : decide (lim < B) = false := decide_eq_false (by omega)
              have e3 : ((lim2 : Int) == (lim : Int)) = true := by rw [beq_iff_eq]; omega
              have E7 := Lib.hid (show m2 ≤ lim2 ∧ m2 ≤ (lim : Nat) from ⟨hm, by omega⟩)
              have e8 : decide ((m2 : Int) ≤ (lim2 : Int)) = true := decide_eq_true (by omega)
              have e8n : decide (m2 ≤ lim2) = true := decide_eq_true (by omega)
              have f0 : decide ((lim : Int) < 1) = false := decide_eq_false (by omega)
              have f0n : decide (lim < 1) = false := decide_eq_false (by omega)
              have f1 : decide ((128 : Int) < (lim : Int)) = false := decide_eq_false (by omega)
              have f1n : decide (128 < lim) = false := decide_eq_false (by omega)
              have f2 : decide ((lim2 : Int) < 1) = false := decide_eq_false (by omega)
              have f2n : decide (lim2 < 1) = false := decide_eq_false (by omega)
              have f3 : decide ((128 : Int) < (lim2 : Int)) = false := decide_eq_false (by omega)
              have f3n : decide (128 < lim2) = false := decide_eq_false (by omega)
              have g0 : IntKind.i64.wrap ((n : Int) + 1) = (n : Int) + 1 := IntWalk.i64_in _ (by omega)
              have g1 : IntKind.i64.wrap ((lim : Int) + 1) = (lim : Int) + 1 := IntWalk.i64_in _ (by omega)
              have g2 : IntKind.i64.wrap ((lim : Int) + (B : Int)) = (lim : Int) + (B : Int) := IntWalk.i64_in _ (by omega)
              have g3 : IntKind.i64.wrap ((lim : Int) - (B : Int)) = (lim : Int) - (B : Int) := IntWalk.i64_in _ (by omega)
              have H9 := H2.out
              clear H2 r1 r2 r3 r4 r5 r6 r7 LAW hBr hN e2 xl3 hn2 n60 h1 h2 hm
              go_wp2_with fail
              refine (AL.out _ _ H9).mono ?_
              rintro e w1 ⟨rfl, h1⟩
              go_wp2_with fail
              go_ret
              exact ⟨by first | rfl | (show Ending.returned (Value.bool _) = Ending.returned (Value.bool true); congr 2; rw [Bool.or_eq_true]; first | exact Or.inl (decide_eq_true (by have := E7.out; omega)) | exact Or.inr (decide_eq_true (by have := E7.out; omega))), h1.1⟩
            · have r7 : lim2 = lim := by have := LAW.out.1; unfold wantN at this; rw [if_neg (by omega), if_neg (by omega), if_neg (by omega)] at this; exact this
              have e1 : decide ((lim : Int) < (n : Int) + 1) = true := decide_eq_true (by omega)
              have e6 : decide ((lim : Int) < (B : Int)) = false := decide_eq_false (by omega)
              have e6n : decide (lim < B) = false := decide_eq_false (by omega)
              have e3 : ((lim2 : Int) == (lim : Int)) = true := by rw [beq_iff_eq]; omega
              have e7 : lim + B ≤ n := by rcases LAW.out.2 with h | h | h | h <;> first | omega | exact absurd rfl h
              have e8 : decide ((m2 : Int) ≤ (lim2 : Int)) = false := decide_eq_false (by omega)
              have e8n : decide (m2 ≤ lim2) = false := decide_eq_false (by omega)
              have e9 : decide ((lim : Int) + (B : Int) ≤ (n : Int)) = true := decide_eq_true (by omega)
              have E7 := Lib.hid e7
              clear e7
              have f0 : decide ((lim : Int) < 1) = false := decide_eq_false (by omega)
              have f0n : decide (lim < 1) = false := decide_eq_false (by omega)
              have f1 : decide ((128 : Int) < (lim : Int)) = false := decide_eq_false (by omega)
              have f1n : decide (128 < lim) = false := decide_eq_false (by omega)
              have f2 : decide ((lim2 : Int) < 1) = false := decide_eq_false (by omega)
              have f2n : decide (lim2 < 1) = false := decide_eq_false (by omega)
              have f3 : decide ((128 : Int) < (lim2 : Int)) = false := decide_eq_false (by omega)
              have f3n : decide (128 < lim2) = false := decide_eq_false (by omega)
              have g0 : IntKind.i64.wrap ((n : Int) + 1) = (n : Int) + 1 := IntWalk.i64_in _ (by omega)
              have g1 : IntKind.i64.wrap ((lim : Int) + 1) = (lim : Int) + 1 := IntWalk.i64_in _ (by omega)
              have g2 : IntKind.i64.wrap ((lim : Int) + (B : Int)) = (lim : Int) + (B : Int) := IntWalk.i64_in _ (by omega)
              have g3 : IntKind.i64.wrap ((lim : Int) - (B : Int)) = (lim : Int) - (B : Int) := IntWalk.i64_in _ (by omega)
              have H9 := H2.out
              clear H2 r1 r2 r3 r4 r5 r6 r7 LAW hBr hN e2 xl3 hn2 n60 h1 h2 hm
              go_wp2_with fail
              refine (AL.out _ _ H9).mono ?_
              rintro e w1 ⟨rfl, h1⟩
              go_wp2_with fail
              go_ret
              exact ⟨by first | rfl | (show Ending.returned (Value.bool _) = Ending.returned (Value.bool true); congr 2; rw [Bool.or_eq_true]; first | exact Or.inl (decide_eq_true (by have := E7.out; omega)) | exact Or.inr (decide_eq_true (by have := E7.out; omega))), h1.1⟩
        · by_cases hm : m2 ≤ lim2
          · have r7 : lim2 = lim := by have := LAW.out.1; unfold wantN at this; rw [if_neg (by omega), if_neg (by omega), if_neg (by omega)] at this; exact this
            have e1 : decide ((lim : Int) < (n : Int) + 1) = false := decide_eq_false (by omega)
            have e3 : ((lim2 : Int) == (lim : Int)) = true := by rw [beq_iff_eq]; omega
            have E7 := Lib.hid (show m2 ≤ lim2 ∧ m2 ≤ (lim : Nat) from ⟨hm, by omega⟩)
            have e8 : decide ((m2 : Int) ≤ (lim2 : Int)) = true := decide_eq_true (by omega)
            have e8n : decide (m2 ≤ lim2) = true := decide_eq_true (by omega)
            have f0 : decide ((lim : Int) < 1) = false := decide_eq_false (by omega)
            have f0n : decide (lim < 1) = false := decide_eq_false (by omega)
            have f1 : decide ((128 : Int) < (lim : Int)) = false := decide_eq_false (by omega)
            have f1n : decide (128 < lim) = false := decide_eq_false (by omega)
            have f2 : decide ((lim2 : Int) < 1) = false := decide_eq_false (by omega)
            have f2n : decide (lim2 < 1) = false := decide_eq_false (by omega)
            have f3 : decide ((128 : Int) < (lim2 : Int)) = false := decide_eq_false (by omega)
            have f3n : decide (128 < lim2) = false := decide_eq_false (by omega)
            have g0 : IntKind.i64.wrap ((n : Int) + 1) = (n : Int) + 1 := IntWalk.i64_in _ (by omega)
            have g1 : IntKind.i64.wrap ((lim : Int) + 1) = (lim : Int) + 1 := IntWalk.i64_in _ (by omega)
            have g2 : IntKind.i64.wrap ((lim : Int) + (B : Int)) = (lim : Int) + (B : Int) := IntWalk.i64_in _ (by omega)
            have g3 : IntKind.i64.wrap ((lim : Int) - (B : Int)) = (lim : Int) - (B : Int) := IntWalk.i64_in _ (by omega)
            have H9 := H2.out
            clear H2 r1 r2 r3 r4 r5 r6 r7 LAW hBr hN e2 xl3 hn2 n60 h1 hm
            go_wp2_with fail
            refine (AL.out _ _ H9).mono ?_
            rintro e w1 ⟨rfl, h1⟩
            go_wp2_with fail
            go_ret
            exact ⟨by first | rfl | (show Ending.returned (Value.bool _) = Ending.returned (Value.bool true); congr 2; rw [Bool.or_eq_true]; first | exact Or.inl (decide_eq_true (by have := E7.out; omega)) | exact Or.inr (decide_eq_true (by have := E7.out; omega))), h1.1⟩
          · have r7 : lim2 = lim := by have := LAW.out.1; unfold wantN at this; rw [if_neg (by omega), if_neg (by omega), if_neg (by omega)] at this; exact this
            have e1 : decide ((lim : Int) < (n : Int) + 1) = false := decide_eq_false (by omega)
            have e3 : ((lim2 : Int) == (lim : Int)) = true := by rw [beq_iff_eq]; omega
            have e7 : lim + B ≤ n := by rcases LAW.out.2 with h | h | h | h <;> first | omega | exact absurd rfl h
            have e8 : decide ((m2 : Int) ≤ (lim2 : Int)) = false := decide_eq_false (by omega)
            have e8n : decide (m2 ≤ lim2) = false := decide_eq_false (by omega)
            have e9 : decide ((lim : Int) + (B : Int) ≤ (n : Int)) = true := decide_eq_true (by omega)
            have E7 := Lib.hid e7
            clear e7
            have f0 : decide ((lim : Int) < 1) = false := decide_eq_false (by omega)
            have f0n : decide (lim < 1) = false := decide_eq_false (by omega)
            have f1 : decide ((128 : Int) < (lim : Int)) = false := decide_eq_false (by omega)
            have f1n : decide (128 < lim) = false := decide_eq_false (by omega)
            have f2 : decide ((lim2 : Int) < 1) = false := decide_eq_false (by omega)
            have f2n : decide (lim2 < 1) = false := decide_eq_false (by omega)
            have f3 : decide ((128 : Int) < (lim2 : Int)) = false := decide_eq_false (by omega)
            have f3n : decide (128 < lim2) = false := decide_eq_false (by omega)
            have g0 : IntKind.i64.wrap ((n : Int) + 1) = (n : Int) + 1 := IntWalk.i64_in _ (by omega)
            have g1 : IntKind.i64.wrap ((lim : Int) + 1) = (lim : Int) + 1 := IntWalk.i64_in _ (by omega)
            have g2 : IntKind.i64.wrap ((lim : Int) + (B : Int)) = (lim : Int) + (B : Int) := IntWalk.i64_in _ (by omega)
            have g3 : IntKind.i64.wrap ((lim : Int) - (B : Int)) = (lim : Int) - (B : Int) := IntWalk.i64_in _ (by omega)
            have H9 := H2.out
            clear H2 r1 r2 r3 r4 r5 r6 r7 LAW hBr hN e2 xl3 hn2 n60 h1 hm
            go_wp2_with fail
            refine (AL.out _ _ H9).mono ?_
            rintro e w1 ⟨rfl, h1⟩
            go_wp2_with fail
            go_ret
            exact ⟨by first | rfl | (show Ending.returned (Value.bool _) = Ending.returned (Value.bool true); congr 2; rw [Bool.or_eq_true]; first | exact Or.inl (decide_eq_true (by have := E7.out; omega)) | exact Or.inr (decide_eq_true (by have := E7.out; omega))), h1.1⟩
      · have r7 : lim2 = lim := by have := LAW.out.1; unfold wantN at this; rw [if_neg (by omega), if_neg (by omega), if_neg (by omega)] at this; exact this
        have e1 : ((er : Int) == 0) = false := by rw [beq_eq_false_iff_ne]; omega
        have e6 : ((er : Int) != 0) = true := by rw [bne_iff_ne]; omega
        have e3 : ((lim2 : Int) == (lim : Int)) = true := by rw [beq_iff_eq]; omega
        have f0 : decide ((lim : Int) < 1) = false := decide_eq_false (by omega)
        have f0n : decide (lim < 1) = false := decide_eq_false (by omega)
        have f1 : decide ((128 : Int) < (lim : Int)) = false := decide_eq_false (by omega)
        have f1n : decide (128 < lim) = false := decide_eq_false (by omega)
        have f2 : decide ((lim2 : Int) < 1) = false := decide_eq_false (by omega)
        have f2n : decide (lim2 < 1) = false := decide_eq_false (by omega)
        have f3 : decide ((128 : Int) < (lim2 : Int)) = false := decide_eq_false (by omega)
        have f3n : decide (128 < lim2) = false := decide_eq_false (by omega)
        have g0 : IntKind.i64.wrap ((n : Int) + 1) = (n : Int) + 1 := IntWalk.i64_in _ (by omega)
        have g1 : IntKind.i64.wrap ((lim : Int) + 1) = (lim : Int) + 1 := IntWalk.i64_in _ (by omega)
        have g2 : IntKind.i64.wrap ((lim : Int) + (B : Int)) = (lim : Int) + (B : Int) := IntWalk.i64_in _ (by omega)
        have g3 : IntKind.i64.wrap ((lim : Int) - (B : Int)) = (lim : Int) - (B : Int) := IntWalk.i64_in _ (by omega)
        have H9 := H2.out
        clear H2 r1 r2 r3 r4 r5 r6 r7 LAW hBr hN e2 xl3 hn2 n60 he0
        go_wp2_with fail
        refine (AL.out _ _ H9).mono ?_
        rintro e w1 ⟨rfl, h1⟩
        go_wp2_with fail
        go_ret
        exact ⟨by first | rfl | (show Ending.returned (Value.bool _) = Ending.returned (Value.bool true); congr 2; rw [Bool.or_eq_true]; first | exact Or.inl (decide_eq_true (by have := E7.out; omega)) | exact Or.inr (decide_eq_true (by have := E7.out; omega))), h1.1⟩
    · by_cases hk4 : kd = 4
      · subst hk4
        by_cases h1 : B < lim
        · have r7 : lim2 = max (lim - B) B := by have := LAW.out.1; unfold wantN at this; rw [if_neg (by omega), if_neg (by omega), if_pos ⟨rfl, h1⟩] at this; exact this
          have e1 : decide ((B : Int) < (lim : Int)) = true := decide_eq_true (by omega)
          have e1n : decide (B < lim) = true := decide_eq_true (by omega)
          have e3 : ((lim2 : Int) == (max ((lim : Int) - (B : Int)) (B : Int))) = true := by rw [beq_iff_eq]; omega
          have f0 : decide ((lim : Int) < 1) = false := decide_eq_false (by omega)
          have f0n : decide (lim < 1) = false := decide_eq_false (by omega)
          have f1 : decide ((128 : Int) < (lim : Int)) = false := decide_eq_false (by omega)
          have f1n : decide (128 < lim) = false := decide_eq_false (by omega)
          have f2 : decide ((lim2 : Int) < 1) = false := decide_eq_false (by omega)
          have f2n : decide (lim2 < 1) = false := decide_eq_false (by omega)
          have f3 : decide ((128 : Int) < (lim2 : Int)) = false := decide_eq_false (by omega)
          have f3n : decide (128 < lim2) = false := decide_eq_false (by omega)
          have g0 : IntKind.i64.wrap ((n : Int) + 1) = (n : Int) + 1 := IntWalk.i64_in _ (by omega)
          have g1 : IntKind.i64.wrap ((lim : Int) + 1) = (lim : Int) + 1 := IntWalk.i64_in _ (by omega)
          have g2 : IntKind.i64.wrap ((lim : Int) + (B : Int)) = (lim : Int) + (B : Int) := IntWalk.i64_in _ (by omega)
          have g3 : IntKind.i64.wrap ((lim : Int) - (B : Int)) = (lim : Int) - (B : Int) := IntWalk.i64_in _ (by omega)
          have H9 := H2.out
          clear H2 r1 r2 r3 r4 r5 r6 r7 LAW hBr hN e2 xl3 hn2 n60 h1
          go_wp2_with fail
          refine (AL.out _ _ H9).mono ?_
          rintro e w1 ⟨rfl, h1⟩
          go_wp2_with fail
          go_ret
          exact ⟨by first | rfl | (show Ending.returned (Value.bool _) = Ending.returned (Value.bool true); congr 2; rw [Bool.or_eq_true]; first | exact Or.inl (decide_eq_true (by have := E7.out; omega)) | exact Or.inr (decide_eq_true (by have := E7.out; omega))), h1.1⟩
        · have r7 : lim2 = lim := by have := LAW.out.1; unfold wantN at this; rw [if_neg (by omega), if_neg (by omega), if_neg (by omega)] at this; exact this
          have e1 : decide ((B : Int) < (lim : Int)) = false := decide_eq_false (by omega)
          have e1n : decide (B < lim) = false := decide_eq_false (by omega)
          have e3 : ((lim2 : Int) == (lim : Int)) = true := by rw [beq_iff_eq]; omega
          have f0 : decide ((lim : Int) < 1) = false := decide_eq_false (by omega)
          have f0n : decide (lim < 1) = false := decide_eq_false (by omega)
          have f1 : decide ((128 : Int) < (lim : Int)) = false := decide_eq_false (by omega)
          have f1n : decide (128 < lim) = false := decide_eq_false (by omega)
          have f2 : decide ((lim2 : Int) < 1) = false := decide_eq_false (by omega)
          have f2n : decide (lim2 < 1) = false := decide_eq_false (by omega)
          have f3 : decide ((128 : Int) < (lim2 : Int)) = false := decide_eq_false (by omega)
          have f3n : decide (128 < lim2) = false := decide_eq_false (by omega)
          have g0 : IntKind.i64.wrap ((n : Int) + 1) = (n : Int) + 1 := IntWalk.i64_in _ (by omega)
          have g1 : IntKind.i64.wrap ((lim : Int) + 1) = (lim : Int) + 1 := IntWalk.i64_in _ (by omega)
          have g2 : IntKind.i64.wrap ((lim : Int) + (B : Int)) = (lim : Int) + (B : Int) := IntWalk.i64_in _ (by omega)
          have g3 : IntKind.i64.wrap ((lim : Int) - (B : Int)) = (lim : Int) - (B : Int) := IntWalk.i64_in _ (by omega)
          have H9 := H2.out
          clear H2 r1 r2 r3 r4 r5 r6 r7 LAW hBr hN e2 xl3 hn2 n60 h1
          go_wp2_with fail
          refine (AL.out _ _ H9).mono ?_
          rintro e w1 ⟨rfl, h1⟩
          go_wp2_with fail
          go_ret
          exact ⟨by first | rfl | (show Ending.returned (Value.bool _) = Ending.returned (Value.bool true); congr 2; rw [Bool.or_eq_true]; first | exact Or.inl (decide_eq_true (by have := E7.out; omega)) | exact Or.inr (decide_eq_true (by have := E7.out; omega))), h1.1⟩
      · have r7 : lim2 = lim := by have := LAW.out.1; unfold wantN at this; rw [if_neg (by omega), if_neg (by omega), if_neg (by omega)] at this; exact this
        have e1 : ((kd : Int) == 0) = false := by rw [beq_eq_false_iff_ne]; omega
        have e6 : ((kd : Int) == 3) = false := by rw [beq_eq_false_iff_ne]; omega
        have e4 : ((kd : Int) == 4) = false := by rw [beq_eq_false_iff_ne]; omega
        have e5 : ((kd : Int) != 3) = true := by rw [bne_iff_ne]; omega
        have e3 : ((lim2 : Int) == (lim : Int)) = true := by rw [beq_iff_eq]; omega
        have f0 : decide ((lim : Int) < 1) = false := decide_eq_false (by omega)
        have f0n : decide (lim < 1) = false := decide_eq_false (by omega)
        have f1 : decide ((128 : Int) < (lim : Int)) = false := decide_eq_false (by omega)
        have f1n : decide (128 < lim) = false := decide_eq_false (by omega)
        have f2 : decide ((lim2 : Int) < 1) = false := decide_eq_false (by omega)
        have f2n : decide (lim2 < 1) = false := decide_eq_false (by omega)
        have f3 : decide ((128 : Int) < (lim2 : Int)) = false := decide_eq_false (by omega)
        have f3n : decide (128 < lim2) = false := decide_eq_false (by omega)
        have g0 : IntKind.i64.wrap ((n : Int) + 1) = (n : Int) + 1 := IntWalk.i64_in _ (by omega)
        have g1 : IntKind.i64.wrap ((lim : Int) + 1) = (lim : Int) + 1 := IntWalk.i64_in _ (by omega)
        have g2 : IntKind.i64.wrap ((lim : Int) + (B : Int)) = (lim : Int) + (B : Int) := IntWalk.i64_in _ (by omega)
        have g3 : IntKind.i64.wrap ((lim : Int) - (B : Int)) = (lim : Int) - (B : Int) := IntWalk.i64_in _ (by omega)
        have H9 := H2.out
        clear H2 r1 r2 r3 r4 r5 r6 r7 LAW hBr hN e2 xl3 hn2 n60 hk0 hk3 hk4
        go_wp2_with fail
        refine (AL.out _ _ H9).mono ?_
        rintro e w1 ⟨rfl, h1⟩
        go_wp2_with fail
        go_ret
        exact ⟨by first | rfl | (show Ending.returned (Value.bool _) = Ending.returned (Value.bool true); congr 2; rw [Bool.or_eq_true]; first | exact Or.inl (decide_eq_true (by have := E7.out; omega)) | exact Or.inr (decide_eq_true (by have := E7.out; omega))), h1.1⟩
end Go.Proofs.Ytaejojbdkgccpaa

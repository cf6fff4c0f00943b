/-
  do: a call, what it returns and leaves. (Printed by mkC24.py.)
-/
import Derived.Test.YtaejojbdkgccpaaC23
namespace Go.Proofs.Ytaejojbdkgccpaa
open Go.RowKit Go.Maps Go.ChangeMaps

def flatB (bs : List (Nat × List Int)) : List Int := bs.flatMap Prod.snd
def doL (tb : List Cls) (s : Nat → CL) (x : ActC) : List Int :=
  if x.kind = 4 then flatB (scavB s tb.length) else if x.kind = 5 then flatB (drainB s tb.length) else if ¬ inC tb.length x.cls then []
  else if x.kind = 0 then (if (s x.cls.toNat).objs.length = 0 then [] else [(s x.cls.toNat).takeV])
  else if x.kind = 3 then (s x.cls.toNat).putL (Bt tb x.cls.toNat) x.a else []
def doE (tb : List Cls) (s : Nat → CL) (x : ActC) : Int :=
  if x.kind = 0 then (if inC tb.length x.cls then (s x.cls.toNat).takeE else 1)
  else if x.kind = 1 then (if inC tb.length x.cls then 0 else 1)
  else if x.kind = 2 then (if inC tb.length x.cls then (s x.cls.toNat).fillE x.l else 1)
  else if x.kind = 3 then (if inC tb.length x.cls then (s x.cls.toNat).putE else 1) else 0
def actS (tb : List Cls) (s : Nat → CL) (x : ActC) : Nat → CL := actC tb.length (Bt tb) s x
theorem actS_ok {tb : List Cls} (ht : tbOk tb) {s : Nat → CL} (h : ∀ c, (s c).ok) (x : ActC) : ∀ c, (actS tb s x c).ok := actC_ok (Bt_range ht) h x

theorem outB_len (fL : CL → List Int) (s : Nat → CL) (N : Nat) : (outB fL s N).length ≤ N := by
  unfold outB
  exact Nat.le_trans (List.length_filterMap_le _ _) (by rw [List.length_range]; exact Nat.le_refl _)
theorem flat_len (M : Nat) : ∀ bs : List (Nat × List Int), (∀ x ∈ bs, x.2.length ≤ M) → (flatB bs).length ≤ bs.length * M
  | [], _ => by simp [flatB]
  | x :: bs, h => by
    have h1 := flat_len M bs fun y hy => h y (List.mem_cons_of_mem _ hy)
    have h2 := h x (by simp)
    unfold flatB at *
    rw [List.flatMap_cons, List.length_append, List.length_cons, Nat.add_mul]
    omega
theorem outB_objs {fL : CL → List Int} {s : Nat → CL} {N M : Nat} (h : ∀ k, (fL (s k)).length ≤ M) : ∀ x ∈ outB fL s N, x.2.length ≤ M := by
  intro x hx
  obtain ⟨_, h2, _⟩ := mem_outB.1 hx
  rw [h2]
  exact h _
theorem scavB_objs {s : Nat → CL} (hok : ∀ k, (s k).ok) (N : Nat) : ∀ x ∈ scavB s N, x.2.length ≤ 256 := outB_objs fun k => by
  unfold CL.scavL
  rw [List.length_take]
  have := (hok k).2.2.2
  omega
theorem drainB_objs {s : Nat → CL} (hok : ∀ k, (s k).ok) (N : Nat) : ∀ x ∈ drainB s N, x.2.length ≤ 256 := outB_objs fun k => (hok k).2.2.2
theorem flat_small {bs : List (Nat × List Int)} (h : ∀ x ∈ bs, x.2.length ≤ 256) (hn : bs.length ≤ 40) : (flatB bs).length ≤ 100000 := by
  have h1 := flat_len 256 bs h
  have : bs.length * 256 ≤ 40 * 256 := Nat.mul_le_mul_right _ hn
  omega
theorem inC_nat {N : Nat} {c : Int} (h : inC N c) : c = ((c.toNat : Nat) : Int) ∧ c.toNat < N := by unfold inC at h; omega

set_option maxRecDepth 10000 in
set_option maxHeartbeats 4000000 in
theorem do_any (w0 w : World) (F : List HP) (c : Nat) (tb : List Cls) (bud : Int) (s : Nat → CL) (ht : tbOk tb) (hok : ∀ k, (s k).ok) (hs : St w0 (cacheP c tb bud s :: F) w) (x : ActV)
    (hr : ∀ (G : List HP) w', St w0 (G ++ F) w' → Reads w' 1 x.v x.l.length (intsC x.l)) (hl : x.l.length ≤ 300) :
    Calls Try.prog 21 #[.pointer (some ⟨c, 0, none⟩), .agg #[.int .i64 x.kind, .int .i64 x.cls, .int .i64 x.o, x.v]] w fun e w' => ∃ a' c', e = .returned (.tuple #[.slice a' (doL tb s x.c).length c', .int .i64 (doE tb s x.c)]) ∧
      St w0 (intsP (.slice a' (doL tb s x.c).length c') (doL tb s x.c) :: cacheP c tb bud (actS tb s x.c) :: F) w' := by
  obtain ⟨kd, cls, o, a, cap, l⟩ := x
  have h1 := hs.allocRow #[.int .i64 kd, .int .i64 cls, .int .i64 o, .slice a l.length cap] 37
  obtain ⟨q0, q1, q2, q3⟩ := h1.cells4
  have H2 := Lib.hid h1.swap
  have HR : Hid (∀ (G : List HP) w', St w0 (G ++ F) w' → Reads w' 1 (.slice a l.length cap) l.length (intsC l)) := Lib.hid hr
  have HR2 : Hid (∀ (G : List HP) w', St w0 (G ++ (HP.blk w.heap.size #[.int .i64 kd, .int .i64 cls, .int .i64 o, .slice a l.length cap] 37 :: F)) w' → Reads w' 1 (.slice a l.length cap) l.length (intsC l)) := Lib.hid fun G w' h => HR.out (G ++ [HP.blk w.heap.size #[.int .i64 kd, .int .i64 cls, .int .i64 o, .slice a l.length cap] 37]) w' (by rw [List.append_assoc]; exact h)
  have HT := Lib.hid ht
  have HOK := Lib.hid hok
  have hN := ht.2.1
  have hl : l.length ≤ 300 := hl
  have ev : (⟨kd, cls, o, a, cap, l⟩ : ActV).v = .slice a l.length cap := rfl
  have ec : (⟨kd, cls, o, a, cap, l⟩ : ActV).c = ⟨kd, cls, o, l⟩ := rfl
  rw [ev, ec]
  dsimp only
  clear ev ec hs h1 hr ht hok
  by_cases h0 : kd = 0
  · subst h0
    by_cases hin : inC tb.length cls
    · obtain ⟨e1, e2⟩ := inC_nat hin
      generalize cls.toNat = n at *
      subst e1
      have eL : doL tb s ⟨0, (n : Int), o, l⟩ = if (s n).objs.length = 0 then [] else [(s n).takeV] := by simp [doL, hin]
      have eE : doE tb s ⟨0, (n : Int), o, l⟩ = (s n).takeE := by simp [doE, hin]
      have eS : actS tb s ⟨0, (n : Int), o, l⟩ = updC s n ((s n).takeF (Bt tb n)) := by simp [actS, actC, hin]
      rw [eL, eE, eS]
      clear eL eE eS
      have T := Lib.hid (take_in w0 _ _ c tb bud s HT.out H2.out n e2 (HOK.out n))
      by_cases hz : (s n).objs.length = 0
      · have E1 : (s n).takeE = 4 := if_pos hz
        have E2 : (s n).takeV = 0 := by
          have : (s n).objs = [] := List.eq_nil_of_length_eq_zero hz
          unfold CL.takeV
          rw [this]
          rfl
        rw [E1, E2] at T
        rw [if_pos hz, E1]
        clear hin hz E1 E2
        go_enter Try.func21, Try.ntmps21
        go_wp2_with fail
        refine T.out.mono ?_
        rintro e w1 ⟨rfl, g⟩
        go_wp2_with fail
        go_ret2
        exact ⟨none, 0, rfl, (g.pick 2 [0]).arr_nil 3 1⟩
      · have E1 : (s n).takeE = 0 := if_neg hz
        rw [E1] at T
        rw [if_neg hz, E1]
        generalize (s n).takeV = tv at *
        clear hin hz E1
        obtain ⟨i0, hi, hz0, hz1, hz2⟩ := info_parts info3
        have HI := Lib.hid hi
        have Z0 := Lib.hid hz0
        have Z1 := Lib.hid hz1
        have Z2 := Lib.hid hz2
        clear hi hz0 hz1 hz2
        go_enter Try.func21, Try.ntmps21
        go_wp2_with fail
        refine T.out.mono ?_
        rintro e w1 ⟨rfl, g⟩
        have g2 := (g.arr_nil 3 1).newArr 3 1 1 [.int .i64 tv] rfl (by decide)
        have R2 := Lib.hid (HP.arr_reads g2)
        have G2 := Lib.hid g2.swap
        clear g2
        go_wp2_with (at_builtin; refine wpList_append_st rfl _ _ 28 rfl 3 i0 _ 1 8 Try.underlying28 HI.out Z0.out Z1.out Z2.out rfl _ _ rfl rfl 0 [] G2.out 1 [.int .i64 tv] R2.out (by intro u hu; simp at hu; subst hu; rfl) (by unfold maxLen; omega) (by omega) ?_; intro v' w' hs' hv'; obtain ⟨a3, c3, rfl⟩ := (HP.arr_reads hs').form; have HS9 := Lib.hid hs'; clear hs' hv')
        go_ret2
        exact ⟨a3, c3, rfl, (HS9.out.pick 4 [0, 2])⟩
    · have eL : doL tb s ⟨0, cls, o, l⟩ = [] := by simp [doL, hin]
      have eE : doE tb s ⟨0, cls, o, l⟩ = 1 := by simp [doE, hin]
      have eS : actS tb s ⟨0, cls, o, l⟩ = s := by simp [actS, actC, hin]
      rw [eL, eE, eS]
      clear eL eE eS
      have T := Lib.hid (take_out w0 _ _ c tb bud s H2.out cls hin)
      clear hin
      go_enter Try.func21, Try.ntmps21
      go_wp2_with fail
      refine T.out.mono ?_
      rintro e w1 ⟨rfl, rfl⟩
      go_wp2_with fail
      go_ret2
      exact ⟨none, 0, rfl, (H2.out.pick 2 [0]).arr_nil 3 1⟩
  have b0 : (kd == 0) = false := by simpa using h0
  by_cases h1 : kd = 1
  · subst h1
    by_cases hin : inC tb.length cls
    · obtain ⟨e1, e2⟩ := inC_nat hin
      generalize cls.toNat = n at *
      subst e1
      have eL : doL tb s ⟨1, (n : Int), o, l⟩ = [] := by simp [doL, hin]
      have eE : doE tb s ⟨1, (n : Int), o, l⟩ = 0 := by simp [doE, hin]
      have eS : actS tb s ⟨1, (n : Int), o, l⟩ = s := by simp [actS, actC, hin]
      rw [eL, eE, eS]
      clear eL eE eS
      have T := Lib.hid (want_in w0 _ _ c tb bud s HT.out H2.out n e2)
      generalize (s n).wantV (Bt tb n) = wv at *
      clear hin
      go_enter Try.func21, Try.ntmps21
      go_wp2_with fail
      refine T.out.mono ?_
      rintro e w1 ⟨rfl, g⟩
      go_wp2_with fail
      go_ret2
      exact ⟨none, 0, rfl, (g.pick 2 [0]).arr_nil 3 1⟩
    · have eL : doL tb s ⟨1, cls, o, l⟩ = [] := by simp [doL, hin]
      have eE : doE tb s ⟨1, cls, o, l⟩ = 1 := by simp [doE, hin]
      have eS : actS tb s ⟨1, cls, o, l⟩ = s := by simp [actS, actC, hin]
      rw [eL, eE, eS]
      clear eL eE eS
      have T := Lib.hid (want_out w0 _ _ c tb bud s H2.out cls hin)
      clear hin
      go_enter Try.func21, Try.ntmps21
      go_wp2_with fail
      refine T.out.mono ?_
      rintro e w1 ⟨rfl, rfl⟩
      go_wp2_with fail
      go_ret2
      exact ⟨none, 0, rfl, (H2.out.pick 2 [0]).arr_nil 3 1⟩
  have b1 : (kd == 1) = false := by simpa using h1
  by_cases h2 : kd = 2
  · subst h2
    by_cases hin : inC tb.length cls
    · obtain ⟨e1, e2⟩ := inC_nat hin
      generalize cls.toNat = n at *
      subst e1
      have eL : doL tb s ⟨2, (n : Int), o, l⟩ = [] := by simp [doL, hin]
      have eE : doE tb s ⟨2, (n : Int), o, l⟩ = (s n).fillE l := by simp [doE, hin]
      have eS : actS tb s ⟨2, (n : Int), o, l⟩ = updC s n ((s n).fillF l) := by simp [actS, actC, hin]
      rw [eL, eE, eS]
      clear eL eE eS
      have T := Lib.hid (fill_in w0 _ _ c tb bud s HT.out.2.1 H2.out n e2 (HOK.out n) a cap l HR2.out hl)
      generalize (s n).fillE l = fe at *
      clear hin
      go_enter Try.func21, Try.ntmps21
      go_wp2_with fail
      refine T.out.mono ?_
      rintro e w1 ⟨rfl, g⟩
      go_wp2_with fail
      go_ret2
      exact ⟨none, 0, rfl, (g.pick 2 [0]).arr_nil 3 1⟩
    · have eL : doL tb s ⟨2, cls, o, l⟩ = [] := by simp [doL, hin]
      have eE : doE tb s ⟨2, cls, o, l⟩ = 1 := by simp [doE, hin]
      have eS : actS tb s ⟨2, cls, o, l⟩ = s := by simp [actS, actC, hin]
      rw [eL, eE, eS]
      clear eL eE eS
      have T := Lib.hid (fill_out w0 _ _ c tb bud s H2.out cls hin (.slice a l.length cap))
      clear hin
      go_enter Try.func21, Try.ntmps21
      go_wp2_with fail
      refine T.out.mono ?_
      rintro e w1 ⟨rfl, rfl⟩
      go_wp2_with fail
      go_ret2
      exact ⟨none, 0, rfl, (H2.out.pick 2 [0]).arr_nil 3 1⟩
  have b2 : (kd == 2) = false := by simpa using h2
  by_cases h3 : kd = 3
  · subst h3
    by_cases hin : inC tb.length cls
    · obtain ⟨e1, e2⟩ := inC_nat hin
      generalize cls.toNat = n at *
      subst e1
      have eL : doL tb s ⟨3, (n : Int), o, l⟩ = (s n).putL (Bt tb n) o := by simp [doL, hin]
      have eE : doE tb s ⟨3, (n : Int), o, l⟩ = (s n).putE := by simp [doE, hin]
      have eS : actS tb s ⟨3, (n : Int), o, l⟩ = updC s n ((s n).putF (Bt tb n) o) := by simp [actS, actC, hin]
      rw [eL, eE, eS]
      clear eL eE eS
      have T := Lib.hid (put_in w0 _ _ c tb bud s HT.out H2.out n e2 (HOK.out n) o)
      generalize (s n).putE = pe at *
      generalize (s n).putL (Bt tb n) o = pl at *
      clear hin
      go_enter Try.func21, Try.ntmps21
      go_wp2_with fail
      refine T.out.mono ?_
      rintro e w1 ⟨a', c', rfl, g⟩
      go_wp2_with fail
      go_ret2
      exact ⟨a', c', rfl, g.pick 3 [0, 1]⟩
    · have eL : doL tb s ⟨3, cls, o, l⟩ = [] := by simp [doL, hin]
      have eE : doE tb s ⟨3, cls, o, l⟩ = 1 := by simp [doE, hin]
      have eS : actS tb s ⟨3, cls, o, l⟩ = s := by simp [actS, actC, hin]
      rw [eL, eE, eS]
      clear eL eE eS
      have T := Lib.hid (put_out w0 _ _ c tb bud s H2.out cls o hin)
      clear hin
      go_enter Try.func21, Try.ntmps21
      go_wp2_with fail
      refine T.out.mono ?_
      rintro e w1 ⟨rfl, rfl⟩
      go_wp2_with fail
      go_ret2
      exact ⟨none, 0, rfl, (H2.out.pick 2 [0]).arr_nil 3 1⟩
  have b3 : (kd == 3) = false := by simpa using h3
  by_cases h4 : kd = 4
  · subst h4
    have eL : doL tb s ⟨4, cls, o, l⟩ = flatB (scavB s tb.length) := by simp [doL]
    have eE : doE tb s ⟨4, cls, o, l⟩ = 0 := by simp [doE]
    have eS : actS tb s ⟨4, cls, o, l⟩ = scavS tb s := by simp [actS, actC]; rfl
    rw [eL, eE, eS]
    clear eL eE eS
    have T := Lib.hid (scavenge_any w0 _ _ c tb bud s HT.out HOK.out H2.out)
    have hbl : (scavB s tb.length).length ≤ 40 := Nat.le_trans (outB_len _ _ _) hN
    have hbo := scavB_objs HOK.out tb.length
    have A : Hid (∀ w1 (G : List HP) a' c', St w0 (batsP (.slice a' (scavB s tb.length).length c') (scavB s tb.length) :: G) w1 → Calls Try.prog 26 #[.slice a' (scavB s tb.length).length c'] w1 fun e w' => ∃ a2 c2, e = .returned (.slice a2 (flatB (scavB s tb.length)).length c2) ∧ St w0 (intsP (.slice a2 (flatB (scavB s tb.length)).length c2) (flatB (scavB s tb.length)) :: batsP (.slice a' (scavB s tb.length).length c') (scavB s tb.length) :: G) w') := Lib.hid fun w1 G a' c' h => all_any w0 w1 G a' c' (scavB s tb.length) (flat_small hbo hbl) (by omega) h
    clear hbl hbo
    generalize scavB s tb.length = bs at *
    go_enter Try.func21, Try.ntmps21
    go_wp2_with fail
    refine T.out.mono ?_
    rintro e w1 ⟨a', c', rfl, g⟩
    go_wp2_with fail
    refine (A.out _ _ _ _ g).mono ?_
    rintro e w2 ⟨a2, c2, rfl, g2⟩
    go_wp2_with fail
    go_ret2
    exact ⟨a2, c2, rfl, g2.pick 4 [0, 2]⟩
  have b4 : (kd == 4) = false := by simpa using h4
  by_cases h5 : kd = 5
  · subst h5
    have eL : doL tb s ⟨5, cls, o, l⟩ = flatB (drainB s tb.length) := by simp [doL]
    have eE : doE tb s ⟨5, cls, o, l⟩ = 0 := by simp [doE]
    have eS : actS tb s ⟨5, cls, o, l⟩ = drainS s := by simp [actS, actC]; rfl
    rw [eL, eE, eS]
    clear eL eE eS
    have T := Lib.hid (drain_any w0 _ _ c tb bud s HT.out HOK.out H2.out)
    have hbl : (drainB s tb.length).length ≤ 40 := Nat.le_trans (outB_len _ _ _) hN
    have hbo := drainB_objs HOK.out tb.length
    have A : Hid (∀ w1 (G : List HP) a' c', St w0 (batsP (.slice a' (drainB s tb.length).length c') (drainB s tb.length) :: G) w1 → Calls Try.prog 26 #[.slice a' (drainB s tb.length).length c'] w1 fun e w' => ∃ a2 c2, e = .returned (.slice a2 (flatB (drainB s tb.length)).length c2) ∧ St w0 (intsP (.slice a2 (flatB (drainB s tb.length)).length c2) (flatB (drainB s tb.length)) :: batsP (.slice a' (drainB s tb.length).length c') (drainB s tb.length) :: G) w') := Lib.hid fun w1 G a' c' h => all_any w0 w1 G a' c' (drainB s tb.length) (flat_small hbo hbl) (by omega) h
    clear hbl hbo
    generalize drainB s tb.length = bs at *
    go_enter Try.func21, Try.ntmps21
    go_wp2_with fail
    refine T.out.mono ?_
    rintro e w1 ⟨a', c', rfl, g⟩
    go_wp2_with fail
    refine (A.out _ _ _ _ g).mono ?_
    rintro e w2 ⟨a2, c2, rfl, g2⟩
    go_wp2_with fail
    go_ret2
    exact ⟨a2, c2, rfl, g2.pick 4 [0, 2]⟩
  have b5 : (kd == 5) = false := by simpa using h5
  have eL : doL tb s ⟨kd, cls, o, l⟩ = [] := by simp [doL, h0, h3, h4, h5]
  have eE : doE tb s ⟨kd, cls, o, l⟩ = 0 := by simp [doE, h0, h1, h2, h3]
  have eS : actS tb s ⟨kd, cls, o, l⟩ = s := by simp [actS, actC, h0, h2, h3, h4, h5]
  rw [eL, eE, eS]
  clear eL eE eS
  clear h0 h1 h2 h3 h4 h5
  go_enter Try.func21, Try.ntmps21
  go_wp2_with fail
  go_ret2
  exact ⟨none, 0, rfl, (H2.out.pick 2 [0]).arr_nil 3 1⟩
end Go.Proofs.Ytaejojbdkgccpaa

/-
  play on a cache and its reference that hold the same. (Printed by mkC44.py.)
-/
import Derived.Test.YtaejojbdkgccpaaC43
namespace Go.Proofs.Ytaejojbdkgccpaa
open Go.RowKit Go.Maps Go.ChangeMaps

def takeVV (s : Nat → CL) (N : Nat) (cls : Int) : Int := if inC N cls then (s cls.toNat).takeV else 0
def wantVV (tb : List Cls) (s : Nat → CL) (cls : Int) : Int := if inC tb.length cls then ((s cls.toNat).wantV (Bt tb cls.toNat) : Nat) else 0
def putLL (tb : List Cls) (s : Nat → CL) (cls o : Int) : List Int := if inC tb.length cls then (s cls.toNat).putL (Bt tb cls.toNat) o else []
theorem take_all (w0 w : World) (F : List HP) (c : Nat) (tb : List Cls) (bud : Int) (s : Nat → CL) (ht : tbOk tb) (hok : ∀ k, (s k).ok) (hs : St w0 (cacheP c tb bud s :: F) w) (cls o : Int) (l : List Int) :
    Calls Try.prog 18 #[.pointer (some ⟨c, 0, none⟩), .int .i64 cls] w fun e w' => e = .returned (.tuple #[.int .i64 (takeVV s tb.length cls), .int .i64 (doE tb s ⟨0, cls, o, l⟩)]) ∧ St w0 (cacheP c tb bud (actS tb s ⟨0, cls, o, l⟩) :: F) w' := by
  by_cases hin : inC tb.length cls
  · obtain ⟨e1, e2⟩ := inC_nat hin
    generalize hn : cls.toNat = n at *
    subst e1
    have eV : takeVV s tb.length (n : Int) = (s n).takeV := by simp [takeVV, hin]
    have eE : doE tb s ⟨0, (n : Int), o, l⟩ = (s n).takeE := by simp [doE, hin]
    have eS : actS tb s ⟨0, (n : Int), o, l⟩ = updC s n ((s n).takeF (Bt tb n)) := by simp [actS, actC, hin]
    rw [eV, eE, eS]
    exact take_in w0 w F c tb bud s ht hs n e2 (hok n)
  · have eV : takeVV s tb.length cls = 0 := by simp [takeVV, hin]
    have eE : doE tb s ⟨0, cls, o, l⟩ = 1 := by simp [doE, hin]
    have eS : actS tb s ⟨0, cls, o, l⟩ = s := by simp [actS, actC, hin]
    rw [eV, eE, eS]
    refine (take_out w0 w F c tb bud s hs cls hin).mono ?_
    rintro e w' ⟨rfl, rfl⟩
    exact ⟨rfl, hs⟩
theorem rtake_all (w0 w : World) (F : List HP) (c : Nat) (tb : List Cls) (bud : Int) (s : Nat → CL) (ht : tbOk tb) (hok : ∀ k, (s k).ok) (hs : St w0 (refP c tb bud s :: F) w) (cls o : Int) (l : List Int) :
    Calls Try.prog 53 #[.pointer (some ⟨c, 0, none⟩), .int .i64 cls] w fun e w' => e = .returned (.tuple #[.int .i64 (takeVV s tb.length cls), .int .i64 (doE tb s ⟨0, cls, o, l⟩)]) ∧ St w0 (refP c tb bud (actS tb s ⟨0, cls, o, l⟩) :: F) w' := by
  by_cases hin : inC tb.length cls
  · obtain ⟨e1, e2⟩ := inC_nat hin
    generalize hn : cls.toNat = n at *
    subst e1
    have eV : takeVV s tb.length (n : Int) = (s n).takeV := by simp [takeVV, hin]
    have eE : doE tb s ⟨0, (n : Int), o, l⟩ = (s n).takeE := by simp [doE, hin]
    have eS : actS tb s ⟨0, (n : Int), o, l⟩ = updC s n ((s n).takeF (Bt tb n)) := by simp [actS, actC, hin]
    rw [eV, eE, eS]
    exact rtake_in ht hs e2 (hok n)
  · have eV : takeVV s tb.length cls = 0 := by simp [takeVV, hin]
    have eE : doE tb s ⟨0, cls, o, l⟩ = 1 := by simp [doE, hin]
    have eS : actS tb s ⟨0, cls, o, l⟩ = s := by simp [actS, actC, hin]
    rw [eV, eE, eS]
    refine (rtake_out ht.1 hs hin).mono ?_
    rintro e w' ⟨rfl, rfl⟩
    exact ⟨rfl, hs⟩
theorem want_all (w0 w : World) (F : List HP) (c : Nat) (tb : List Cls) (bud : Int) (s : Nat → CL) (ht : tbOk tb) (hok : ∀ k, (s k).ok) (hs : St w0 (cacheP c tb bud s :: F) w) (cls o : Int) (l : List Int) :
    Calls Try.prog 37 #[.pointer (some ⟨c, 0, none⟩), .int .i64 cls] w fun e w' => e = .returned (.tuple #[.int .i64 (wantVV tb s cls), .int .i64 (doE tb s ⟨1, cls, o, l⟩)]) ∧ St w0 (cacheP c tb bud (actS tb s ⟨1, cls, o, l⟩) :: F) w' := by
  by_cases hin : inC tb.length cls
  · obtain ⟨e1, e2⟩ := inC_nat hin
    generalize hn : cls.toNat = n at *
    subst e1
    have eV : wantVV tb s (n : Int) = ((s n).wantV (Bt tb n) : Nat) := by simp [wantVV, hin]
    have eE : doE tb s ⟨1, (n : Int), o, l⟩ = 0 := by simp [doE, hin]
    have eS : actS tb s ⟨1, (n : Int), o, l⟩ = s := by simp [actS, actC, hin]
    rw [eV, eE, eS]
    exact want_in w0 w F c tb bud s ht hs n e2
  · have eV : wantVV tb s cls = 0 := by simp [wantVV, hin]
    have eE : doE tb s ⟨1, cls, o, l⟩ = 1 := by simp [doE, hin]
    have eS : actS tb s ⟨1, cls, o, l⟩ = s := by simp [actS, actC, hin]
    rw [eV, eE, eS]
    refine (want_out w0 w F c tb bud s hs cls hin).mono ?_
    rintro e w' ⟨rfl, rfl⟩
    exact ⟨rfl, hs⟩
theorem rwant_all (w0 w : World) (F : List HP) (c : Nat) (tb : List Cls) (bud : Int) (s : Nat → CL) (ht : tbOk tb) (hok : ∀ k, (s k).ok) (hs : St w0 (refP c tb bud s :: F) w) (cls o : Int) (l : List Int) :
    Calls Try.prog 54 #[.pointer (some ⟨c, 0, none⟩), .int .i64 cls] w fun e w' => e = .returned (.tuple #[.int .i64 (wantVV tb s cls), .int .i64 (doE tb s ⟨1, cls, o, l⟩)]) ∧ St w0 (refP c tb bud (actS tb s ⟨1, cls, o, l⟩) :: F) w' := by
  by_cases hin : inC tb.length cls
  · obtain ⟨e1, e2⟩ := inC_nat hin
    generalize hn : cls.toNat = n at *
    subst e1
    have eV : wantVV tb s (n : Int) = ((s n).wantV (Bt tb n) : Nat) := by simp [wantVV, hin]
    have eE : doE tb s ⟨1, (n : Int), o, l⟩ = 0 := by simp [doE, hin]
    have eS : actS tb s ⟨1, (n : Int), o, l⟩ = s := by simp [actS, actC, hin]
    rw [eV, eE, eS]
    exact rwant_in ht hs e2
  · have eV : wantVV tb s cls = 0 := by simp [wantVV, hin]
    have eE : doE tb s ⟨1, cls, o, l⟩ = 1 := by simp [doE, hin]
    have eS : actS tb s ⟨1, cls, o, l⟩ = s := by simp [actS, actC, hin]
    rw [eV, eE, eS]
    refine (rwant_out ht.1 hs hin).mono ?_
    rintro e w' ⟨rfl, rfl⟩
    exact ⟨rfl, hs⟩
theorem fill_all (w0 w : World) (F : List HP) (c : Nat) (tb : List Cls) (bud : Int) (s : Nat → CL) (ht : tbOk tb) (hok : ∀ k, (s k).ok) (hs : St w0 (cacheP c tb bud s :: F) w) (cls o : Int) (l : List Int) (a : Option Addr) (cap : Nat) (hr : ∀ (G : List HP) w', St w0 (G ++ F) w' → Reads w' 1 (.slice a l.length cap) l.length (intsC l)) (hl : l.length ≤ 300) :
    Calls Try.prog 20 #[.pointer (some ⟨c, 0, none⟩), .int .i64 cls, .slice a l.length cap] w fun e w' => e = .returned (.int .i64 (doE tb s ⟨2, cls, o, l⟩)) ∧ St w0 (cacheP c tb bud (actS tb s ⟨2, cls, o, l⟩) :: F) w' := by
  by_cases hin : inC tb.length cls
  · obtain ⟨e1, e2⟩ := inC_nat hin
    generalize hn : cls.toNat = n at *
    subst e1
    have eE : doE tb s ⟨2, (n : Int), o, l⟩ = (s n).fillE l := by simp [doE, hin]
    have eS : actS tb s ⟨2, (n : Int), o, l⟩ = updC s n ((s n).fillF l) := by simp [actS, actC, hin]
    rw [eE, eS]
    exact fill_in w0 w F c tb bud s ht.2.1 hs n e2 (hok n) a cap l hr hl
  · have eE : doE tb s ⟨2, cls, o, l⟩ = 1 := by simp [doE, hin]
    have eS : actS tb s ⟨2, cls, o, l⟩ = s := by simp [actS, actC, hin]
    rw [eE, eS]
    refine (fill_out w0 w F c tb bud s hs cls hin _).mono ?_
    rintro e w' ⟨rfl, rfl⟩
    exact ⟨rfl, hs⟩
theorem rfill_all (w0 w : World) (F : List HP) (c : Nat) (tb : List Cls) (bud : Int) (s : Nat → CL) (ht : tbOk tb) (hok : ∀ k, (s k).ok) (hs : St w0 (refP c tb bud s :: F) w) (cls o : Int) (l : List Int) (a : Option Addr) (cap : Nat) (hr : ∀ (G : List HP) w', St w0 (G ++ F) w' → Reads w' 1 (.slice a l.length cap) l.length (intsC l)) (hl : l.length ≤ 300) :
    Calls Try.prog 55 #[.pointer (some ⟨c, 0, none⟩), .int .i64 cls, .slice a l.length cap] w fun e w' => e = .returned (.int .i64 (doE tb s ⟨2, cls, o, l⟩)) ∧ St w0 (refP c tb bud (actS tb s ⟨2, cls, o, l⟩) :: F) w' := by
  by_cases hin : inC tb.length cls
  · obtain ⟨e1, e2⟩ := inC_nat hin
    generalize hn : cls.toNat = n at *
    subst e1
    have eE : doE tb s ⟨2, (n : Int), o, l⟩ = (s n).fillE l := by simp [doE, hin]
    have eS : actS tb s ⟨2, (n : Int), o, l⟩ = updC s n ((s n).fillF l) := by simp [actS, actC, hin]
    rw [eE, eS]
    exact rfill_in ht hs e2 (hok n) a cap l hr hl
  · have eE : doE tb s ⟨2, cls, o, l⟩ = 1 := by simp [doE, hin]
    have eS : actS tb s ⟨2, cls, o, l⟩ = s := by simp [actS, actC, hin]
    rw [eE, eS]
    refine (rfill_out ht.1 hs hin _).mono ?_
    rintro e w' ⟨rfl, rfl⟩
    exact ⟨rfl, hs⟩
theorem put_all (w0 w : World) (F : List HP) (c : Nat) (tb : List Cls) (bud : Int) (s : Nat → CL) (ht : tbOk tb) (hok : ∀ k, (s k).ok) (hs : St w0 (cacheP c tb bud s :: F) w) (cls o : Int) (l : List Int) :
    Calls Try.prog 38 #[.pointer (some ⟨c, 0, none⟩), .int .i64 cls, .int .i64 o] w fun e w' => ∃ a' c', e = .returned (.tuple #[.slice a' (putLL tb s cls o).length c', .int .i64 (doE tb s ⟨3, cls, o, l⟩)]) ∧ St w0 (intsP (.slice a' (putLL tb s cls o).length c') (putLL tb s cls o) :: cacheP c tb bud (actS tb s ⟨3, cls, o, l⟩) :: F) w' := by
  by_cases hin : inC tb.length cls
  · obtain ⟨e1, e2⟩ := inC_nat hin
    generalize hn : cls.toNat = n at *
    subst e1
    have eV : putLL tb s (n : Int) o = (s n).putL (Bt tb n) o := by simp [putLL, hin]
    have eE : doE tb s ⟨3, (n : Int), o, l⟩ = (s n).putE := by simp [doE, hin]
    have eS : actS tb s ⟨3, (n : Int), o, l⟩ = updC s n ((s n).putF (Bt tb n) o) := by simp [actS, actC, hin]
    rw [eV, eE, eS]
    exact put_in w0 w F c tb bud s ht hs n e2 (hok n) o
  · have eV : putLL tb s cls o = [] := by simp [putLL, hin]
    have eE : doE tb s ⟨3, cls, o, l⟩ = 1 := by simp [doE, hin]
    have eS : actS tb s ⟨3, cls, o, l⟩ = s := by simp [actS, actC, hin]
    rw [eV, eE, eS]
    refine (put_out w0 w F c tb bud s hs cls o hin).mono ?_
    rintro e w' ⟨rfl, rfl⟩
    exact ⟨none, 0, rfl, hs.arr_nil 3 1⟩
theorem rput_all (w0 w : World) (F : List HP) (c : Nat) (tb : List Cls) (bud : Int) (s : Nat → CL) (ht : tbOk tb) (hok : ∀ k, (s k).ok) (hs : St w0 (refP c tb bud s :: F) w) (cls o : Int) (l : List Int) :
    Calls Try.prog 56 #[.pointer (some ⟨c, 0, none⟩), .int .i64 cls, .int .i64 o] w fun e w' => ∃ a' c', e = .returned (.tuple #[.slice a' (putLL tb s cls o).length c', .int .i64 (doE tb s ⟨3, cls, o, l⟩)]) ∧ St w0 (intsP (.slice a' (putLL tb s cls o).length c') (putLL tb s cls o) :: refP c tb bud (actS tb s ⟨3, cls, o, l⟩) :: F) w' := by
  by_cases hin : inC tb.length cls
  · obtain ⟨e1, e2⟩ := inC_nat hin
    generalize hn : cls.toNat = n at *
    subst e1
    have eV : putLL tb s (n : Int) o = (s n).putL (Bt tb n) o := by simp [putLL, hin]
    have eE : doE tb s ⟨3, (n : Int), o, l⟩ = (s n).putE := by simp [doE, hin]
    have eS : actS tb s ⟨3, (n : Int), o, l⟩ = updC s n ((s n).putF (Bt tb n) o) := by simp [actS, actC, hin]
    rw [eV, eE, eS]
    exact rput_in ht hs e2 (hok n) o
  · have eV : putLL tb s cls o = [] := by simp [putLL, hin]
    have eE : doE tb s ⟨3, cls, o, l⟩ = 1 := by simp [doE, hin]
    have eS : actS tb s ⟨3, cls, o, l⟩ = s := by simp [actS, actC, hin]
    rw [eV, eE, eS]
    refine (rput_out ht.1 hs hin o).mono ?_
    rintro e w' ⟨rfl, rfl⟩
    exact ⟨none, 0, rfl, hs.arr_nil 3 1⟩
theorem outB_mem {fL : CL → List Int} {s : Nat → CL} (h : ∀ k, (fL (s k)).length ≤ 256) {N : Nat} : ∀ x ∈ outB fL s N, x.2.length ≤ 1000 := fun x hx => by
  have := mem_outB.1 hx
  rw [this.2.1]
  have := h x.1
  omega
set_option maxRecDepth 10000 in
set_option maxHeartbeats 4000000 in
theorem play_in (w0 w : World) (F : List HP) (c c2 : Nat) (tb : List Cls) (bud : Int) (s : Nat → CL) (ht : tbOk tb) (hok : ∀ k, (s k).ok) (hs : St w0 (cacheP c tb bud s :: refP c2 tb bud s :: F) w) (x : ActV)
    (hr : ∀ (G : List HP) w', St w0 (G ++ F) w' → Reads w' 1 x.v x.l.length (intsC x.l)) (hl : x.l.length ≤ 300) :
    Calls Try.prog 35 #[.pointer (some ⟨c, 0, none⟩), .pointer (some ⟨c2, 0, none⟩), .agg #[.int .i64 x.kind, .int .i64 x.cls, .int .i64 x.o, x.v]] w fun e w' => e = .returned (.bool true) ∧
      St w0 (cacheP c tb bud (actS tb s x.c) :: refP c2 tb bud (actS tb s x.c) :: F) w' := by
  obtain ⟨kd, cls, o, a, cap, l⟩ := x
  have ev : (⟨kd, cls, o, a, cap, l⟩ : ActV).v = .slice a l.length cap := rfl
  have ec : (⟨kd, cls, o, a, cap, l⟩ : ActV).c = ⟨kd, cls, o, l⟩ := rfl
  have hl : l.length ≤ 300 := hl
  have HR : Hid (∀ (G : List HP) w', St w0 (G ++ F) w' → Reads w' 1 (.slice a l.length cap) l.length (intsC l)) := Lib.hid hr
  rw [ev, ec]
  dsimp only
  clear ev ec hr
  have h1 := hs.allocRow #[.int .i64 kd, .int .i64 cls, .int .i64 o, .slice a l.length cap] 37
  generalize hh : w.heap.size = b at *
  obtain ⟨q0, q1, q2, q3⟩ := h1.cells4
  have H2 := Lib.hid h1.swap
  have HT := Lib.hid ht
  have HOK := Lib.hid hok
  have hN := ht.2.1
  clear hs h1 ht hok
  have LP : Hid (∀ k, (s k).objs.length ≤ 256) := Lib.hid fun k => (HOK.out k).2.2.2
  by_cases h0 : kd = 0
  · subst h0
    have T := Lib.hid (take_all w0 _ _ c tb bud s HT.out HOK.out H2.out cls o l)
    go_enter Try.func35, Try.ntmps35
    go_wp2_with fail
    refine T.out.mono ?_
    rintro e w1 ⟨rfl, g⟩
    obtain ⟨x0, x1, x2, x3⟩ := (g.front 1).cells4
    have T2 := Lib.hid (rtake_all w0 _ _ c2 tb bud s HT.out HOK.out g.rot cls o l)
    clear g T q0 q1 q2 q3 H2
    go_wp2_with fail
    refine T2.out.mono ?_
    rintro e w2 ⟨rfl, g⟩
    have G := Lib.hid g
    clear g T2 x0 x1 x2 x3
    go_wp2_with fail
    go_ret
    exact ⟨by simp, (G.out.pick 3 [1, 0])⟩
  by_cases h1 : kd = 1
  · subst h1
    have T := Lib.hid (want_all w0 _ _ c tb bud s HT.out HOK.out H2.out cls o l)
    go_enter Try.func35, Try.ntmps35
    go_wp2_with fail
    refine T.out.mono ?_
    rintro e w1 ⟨rfl, g⟩
    obtain ⟨x0, x1, x2, x3⟩ := (g.front 1).cells4
    have T2 := Lib.hid (rwant_all w0 _ _ c2 tb bud s HT.out HOK.out g.rot cls o l)
    clear g T q0 q1 q2 q3 H2
    go_wp2_with fail
    refine T2.out.mono ?_
    rintro e w2 ⟨rfl, g⟩
    have G := Lib.hid g
    clear g T2 x0 x1 x2 x3
    go_wp2_with fail
    go_ret
    exact ⟨by simp, (G.out.pick 3 [1, 0])⟩
  by_cases h2 : kd = 2
  · subst h2
    go_enter Try.func35, Try.ntmps35
    go_wp2_with fail
    refine wp_region_par (w0 := w0) 2 13 [7, 13] [cacheP c tb bud s, refP c2 tb bud s] (HP.blk b #[.int .i64 2, .int .i64 cls, .int .i64 o, .slice a l.length cap] 37 :: F) [(5, [0]), (11, [1])]
      (fun i v => v = .int .i64 (doE tb s ⟨2, cls, o, l⟩))
      (fun i v => if i = 5 then cacheP c tb bud (actS tb s ⟨2, cls, o, l⟩) else refP c2 tb bud (actS tb s ⟨2, cls, o, l⟩)) (by kernel_rfl) (by kernel_rfl) rfl (by kernel_rfl) (by exact H2.out.pick 3 [0, 2, 1]) ?_
    simp only [List.take_succ_cons, List.take_zero, List.drop_succ_cons, List.drop_zero]
    clear q0 q1 q2 q3
    iterate 5
      with_reducible refine wpPar_pure (by kernel_rfl) (fun K hK => ?_)
      go_simp
      apply Exists.intro
      refine ⟨fun G w1 h1 => ?_, hK _ ?_⟩
      (first
        | (with_reducible rfl)
        | (obtain ⟨q0, q1, q2, q3⟩ := St.cells4 (b := b) (a0 := .int .i64 2) (a1 := .int .i64 cls) (a2 := .int .i64 o) (a3 := .slice a l.length cap) (t := 37) h1; go_simp; done)
        | (obtain ⟨q0, q1, q2, q3⟩ := St.cells4 (b := b) (a0 := .int .i64 2) (a1 := .int .i64 cls) (a2 := .int .i64 o) (a3 := .slice a l.length cap) (t := 37) h1; go_simp; with_reducible rfl))
      clear hK K
    refine wpPar_eff (c := [0]) (by kernel_rfl) ⟨_, rfl⟩ (fun G w1 h1 => ?_) (fun v hv K hK => ?_)
    · simp [tokA, upd] at h1
      have T := fill_all w0 w1 _ c tb bud s HT.out HOK.out h1 cls o l a cap (fun G' w' h' => HR.out (G' ++ (HP.blk b #[.int .i64 2, .int .i64 cls, .int .i64 o, .slice a l.length cap] 37 :: G)) w' (h'.perm (by simp only [HP.big, HP.big_append, List.append_assoc, List.cons_append]; ac_rfl))) hl
      go_simp
      refine T.mono ?_
      rintro e w' ⟨rfl, g⟩
      exact ⟨_, rfl, rfl, by simpa using g⟩
    skip
    obtain rfl := hv
    refine hK _ ?_; clear hK K
    iterate 5
      with_reducible refine wpPar_pure (by kernel_rfl) (fun K hK => ?_)
      go_simp
      apply Exists.intro
      refine ⟨fun G w1 h1 => ?_, hK _ ?_⟩
      (first
        | (with_reducible rfl)
        | (obtain ⟨q0, q1, q2, q3⟩ := St.cells4 (b := b) (a0 := .int .i64 2) (a1 := .int .i64 cls) (a2 := .int .i64 o) (a3 := .slice a l.length cap) (t := 37) h1; go_simp; done)
        | (obtain ⟨q0, q1, q2, q3⟩ := St.cells4 (b := b) (a0 := .int .i64 2) (a1 := .int .i64 cls) (a2 := .int .i64 o) (a3 := .slice a l.length cap) (t := 37) h1; go_simp; with_reducible rfl))
      clear hK K
    refine wpPar_eff (c := [1]) (by kernel_rfl) ⟨_, rfl⟩ (fun G w1 h1 => ?_) (fun v hv K hK => ?_)
    · simp [tokA, upd] at h1
      have T := rfill_all w0 w1 _ c2 tb bud s HT.out HOK.out h1 cls o l a cap (fun G' w' h' => HR.out (G' ++ (HP.blk b #[.int .i64 2, .int .i64 cls, .int .i64 o, .slice a l.length cap] 37 :: G)) w' (h'.perm (by simp only [HP.big, HP.big_append, List.append_assoc, List.cons_append]; ac_rfl))) hl
      go_simp
      refine T.mono ?_
      rintro e w' ⟨rfl, g⟩
      exact ⟨_, rfl, rfl, by simpa using g⟩
    skip
    obtain rfl := hv
    refine hK _ ?_; clear hK K
    iterate 1
      with_reducible refine wpPar_pure (by kernel_rfl) (fun K hK => ?_)
      go_simp
      apply Exists.intro
      refine ⟨fun G w1 h1 => ?_, hK _ ?_⟩
      (first
        | (with_reducible rfl))
      clear hK K
    refine wpPar_nil ?_
    intro w5 h5
    simp [tokA, upd] at h5
    have G := Lib.hid h5
    clear h5
    go_wp2_with fail
    go_ret
    exact ⟨by simp, (G.out.pick 3 [0, 1])⟩
  by_cases h3 : kd = 3
  · subst h3
    have T := Lib.hid (put_all w0 _ _ c tb bud s HT.out HOK.out H2.out cls o l)
    have hpl : (putLL tb s cls o).length ≤ 300 := by
      unfold putLL
      split
      · unfold CL.putL
        have := LP.out cls.toNat
        split
        · simp
        · split
          · simp
          · rw [List.length_take, List.length_append]; simp; omega
      · simp
    go_enter Try.func35, Try.ntmps35
    go_wp2_with fail
    refine T.out.mono ?_
    rintro e w1 ⟨a8, p8, rfl, g⟩
    obtain ⟨x0, x1, x2, x3⟩ := (g.front 2).cells4
    have T2 := Lib.hid (rput_all w0 _ _ c2 tb bud s HT.out HOK.out (g.pick 4 [3, 0, 1, 2]) cls o l)
    clear g T q0 q1 q2 q3 H2
    go_wp2_with fail
    refine T2.out.mono ?_
    rintro e w2 ⟨a9, p9, rfl, g⟩
    have IA := Lib.hid (Ints_any w2 a8 a9 p8 p9 (putLL tb s cls o) (putLL tb s cls o) (HP.arr_reads (g.front 2)) (HP.arr_reads g) (by omega) (by omega))
    have G := Lib.hid g
    clear g T2 x0 x1 x2 x3
    go_wp2_with fail
    refine IA.out.mono ?_
    rintro e w3 ⟨rfl, n, rfl⟩
    have dt : decide (putLL tb s cls o = putLL tb s cls o) = true := decide_eq_true rfl
    go_wp2_with fail
    go_ret
    exact ⟨by simp, ((G.out.drewN n).pick 5 [3, 1])⟩
  by_cases h4 : kd = 4
  · subst h4
    have eS : actS tb s ⟨4, cls, o, l⟩ = scavS tb s := by simp [actS, actC]; rfl
    rw [eS]
    clear eS
    have hbl : (scavB s tb.length).length ≤ 40 := Nat.le_trans (outB_len _ _ _) hN
    have hbm : ∀ x ∈ scavB s tb.length, x.2.length ≤ 1000 := outB_mem fun k => by
      have := LP.out k
      unfold CL.scavL; rw [List.length_take]; omega
    have T := Lib.hid (scavenge_any w0 _ _ c tb bud s HT.out HOK.out H2.out)
    have SM := Lib.hid fun w9 F9 a8 p8 a9 p9 (g9 : St w0 (batsP (.slice a8 (scavB s tb.length).length p8) (scavB s tb.length) :: batsP (.slice a9 (scavB s tb.length).length p9) (scavB s tb.length) :: F9) w9) => same_any w0 w9 F9 a8 a9 p8 p9 (scavB s tb.length) (scavB s tb.length) (by omega) (by omega) hbm hbm g9
    clear hbl hbm
    go_enter Try.func35, Try.ntmps35
    go_wp2_with fail
    refine T.out.mono ?_
    rintro e w1 ⟨a8, p8, rfl, g⟩
    obtain ⟨x0, x1, x2, x3⟩ := (g.front 2).cells4
    have T2 := Lib.hid (rscavenge_in HT.out HOK.out (g.pick 4 [3, 0, 1, 2]))
    clear g T q0 q1 q2 q3 H2
    go_wp2_with fail
    refine T2.out.mono ?_
    rintro e w2 ⟨a9, p9, rfl, g⟩
    have S := Lib.hid (SM.out w2 _ a8 p8 a9 p9 (g.pick 5 [2, 0, 1, 3, 4]))
    clear g T2 x0 x1 x2 x3
    go_wp2_with fail
    refine S.out.mono ?_
    rintro e w3 ⟨rfl, g⟩
    have G := Lib.hid g
    have dt : decide (scavB s tb.length = scavB s tb.length) = true := decide_eq_true rfl
    clear g S
    go_wp2_with fail
    go_ret
    exact ⟨by simp, (G.out.pick 5 [3, 2])⟩
  by_cases h5 : kd = 5
  · subst h5
    have eS : actS tb s ⟨5, cls, o, l⟩ = drainS s := by simp [actS, actC]; rfl
    rw [eS]
    clear eS
    have hbl : (drainB s tb.length).length ≤ 40 := Nat.le_trans (outB_len _ _ _) hN
    have hbm : ∀ x ∈ drainB s tb.length, x.2.length ≤ 1000 := outB_mem fun k => by
      have := LP.out k
      exact this
    have T := Lib.hid (drain_any w0 _ _ c tb bud s HT.out HOK.out H2.out)
    have SM := Lib.hid fun w9 F9 a8 p8 a9 p9 (g9 : St w0 (batsP (.slice a8 (drainB s tb.length).length p8) (drainB s tb.length) :: batsP (.slice a9 (drainB s tb.length).length p9) (drainB s tb.length) :: F9) w9) => same_any w0 w9 F9 a8 a9 p8 p9 (drainB s tb.length) (drainB s tb.length) (by omega) (by omega) hbm hbm g9
    clear hbl hbm
    go_enter Try.func35, Try.ntmps35
    go_wp2_with fail
    refine T.out.mono ?_
    rintro e w1 ⟨a8, p8, rfl, g⟩
    obtain ⟨x0, x1, x2, x3⟩ := (g.front 2).cells4
    have T2 := Lib.hid (rdrain_in HT.out HOK.out (g.pick 4 [3, 0, 1, 2]))
    clear g T q0 q1 q2 q3 H2
    go_wp2_with fail
    refine T2.out.mono ?_
    rintro e w2 ⟨a9, p9, rfl, g⟩
    have S := Lib.hid (SM.out w2 _ a8 p8 a9 p9 (g.pick 5 [2, 0, 1, 3, 4]))
    clear g T2 x0 x1 x2 x3
    go_wp2_with fail
    refine S.out.mono ?_
    rintro e w3 ⟨rfl, g⟩
    have G := Lib.hid g
    have dt : decide (drainB s tb.length = drainB s tb.length) = true := decide_eq_true rfl
    clear g S
    go_wp2_with fail
    go_ret
    exact ⟨by simp, (G.out.pick 5 [3, 2])⟩
  have b0 : (kd == 0) = false := by rw [beq_eq_false_iff_ne]; exact h0
  have b1 : (kd == 1) = false := by rw [beq_eq_false_iff_ne]; exact h1
  have b2 : (kd == 2) = false := by rw [beq_eq_false_iff_ne]; exact h2
  have b3 : (kd == 3) = false := by rw [beq_eq_false_iff_ne]; exact h3
  have b4 : (kd == 4) = false := by rw [beq_eq_false_iff_ne]; exact h4
  have b5 : (kd == 5) = false := by rw [beq_eq_false_iff_ne]; exact h5
  have eS : actS tb s ⟨kd, cls, o, l⟩ = s := by simp [actS, actC, h0, h2, h3, h4, h5]
  rw [eS]
  clear h0 h1 h2 h3 h4 h5 eS
  go_enter Try.func35, Try.ntmps35
  go_wp2_with fail
  go_ret
  exact ⟨by simp, H2.out.pick 3 [0, 2]⟩
end Go.Proofs.Ytaejojbdkgccpaa

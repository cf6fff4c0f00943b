/-
  sample.Parse.
-/
import Derived.Test.YtcihbmifogfdpaaGreatDoorT9
namespace Go.Proofs.YtcihbmifogfdpaaGreatDoor
open Go.RowKit
attribute [local go_sem] Oper.semAt_some

theorem lines_call (w : World) (s : ByteArray) :
    Calls Tryz.prog 49 #[.string s] w fun e w' => e = .returned (.func (.func 94) #[] #[.pointer (some ⟨w.heap.size, 0, none⟩)]) ∧ w' = w.alloc (.cells #[.string s] 9) := by
  go_enter Tryz.func49, Tryz.ntmps49
  go_wp2
  go_ret
  exact ⟨rfl, rfl⟩
/-- between two rounds -/
def parseI (s : ByteArray) (b2 b3 b4 : Nat) (r : ByteArray) (R : List HP) : Prop :=
  ∃ (acc : List Rw) (v : Value), R = [HP.blk b4 #[v] 22, HP.arr 47 5 v acc.length (rowsC acc), HP.blk b2 #[.slice none 0 0] 22, HP.blk b3 #[.int .i64 0] 25] ∧
    (∀ x ∈ acc, x.wf) ∧ acc.length ≤ 200 ∧ parseL s = parseF r.size r acc ∧ r.size ≤ s.size
/-- a round has refused -/
def parseX (s : ByteArray) (b2 b3 : Nat) (c : Code) (R : List HP) : Prop :=
  c = .ret ∧ parseL s = none ∧ ∃ R', R = HP.blk b2 #[.slice none 0 0] 22 :: HP.blk b3 #[.int .i64 2] 25 :: R'

theorem splitB_sizes (sep : ByteArray) : ∀ (k : Nat) (s : ByteArray), ∀ p ∈ Lib.splitB sep 0 k s, p.size ≤ s.size
  | 0, s, p, hp => by rw [Lib.splitB_zero, List.mem_singleton] at hp; rw [hp]; exact Nat.le_refl _
  | k + 1, s, p, hp => by
    by_cases h : Lib.indexB s sep = -1
    · rw [Lib.splitB_miss _ _ _ _ h, List.mem_singleton] at hp; rw [hp]; exact Nat.le_refl _
    · have hge := Lib.index_ge s.data.toList sep.data.toList
      obtain ⟨i, hi⟩ : ∃ i : Nat, Lib.indexB s sep = i := ⟨(Lib.indexB s sep).toNat, by have : -1 ≤ Lib.indexB s sep := hge; omega⟩
      rw [Lib.splitB_hit _ _ _ _ _ hi] at hp
      rcases List.mem_cons.1 hp with rfl | hp
      · rw [ByteArray.size_extract]; omega
      · have := splitB_sizes sep k _ p hp
        rw [ByteArray.size_extract] at this
        omega
theorem pieces_size (s : ByteArray) : ∀ p ∈ pieces s, p.size ≤ s.size := splitB_sizes _ _ s
/-- what Parse gives -/
def parsePost (w : World) (s : ByteArray) (e : Ending) (w' : World) : Prop := match parseP s with
  | some l => ∃ v, e = .returned (.tuple #[v, .int .i64 0]) ∧ (∀ r ∈ l, r.wf) ∧ l.length ≤ 200 ∧ St w [HP.arr 47 5 v l.length (rowsC l)] w'
  | none => e = .returned (.tuple #[.slice none 0 0, .int .i64 2]) ∧ Below w.heap.size w w'
theorem isProfB_len {l : List Rw} (h : isProfB l = true) : l.length ≤ 200 ∧ ∀ r ∈ l, r.site.size ≤ 16 := by
  unfold isProfB at h
  rw [Bool.and_eq_true, List.all_eq_true] at h
  refine ⟨of_decide_eq_true h.1, fun r hr => ?_⟩
  obtain ⟨k, hk, hkr⟩ := List.getElem_of_mem hr
  have h2 := h.2 k (List.mem_range.2 hk)
  rw [List.getElem?_eq_getElem hk, hkr] at h2
  simp only [rowOk, isSiteB, Bool.and_eq_true, decide_eq_true_eq] at h2
  exact h2.1.1.1.1.1.2
theorem ba_eq_of_beq {a b : ByteArray} (h : (a == b) = true) : a = b := by
  have h2 : (a.data == b.data) = true := h
  have h3 := eq_of_beq h2
  cases a; cases b; simp at h3; rw [h3]
theorem results_cells2 {P : Program} {w : World} {fn : Func} {p q : Tmp} {ty ty2 : TypeId} {tmps : Array Value} {a b : Addr} {v v2 : Value} (h : fn.results = #[.cell p ty, .cell q ty2]) (hp : tmps.getD p undef = .pointer (some a)) (hq : tmps.getD q undef = .pointer (some b))
    (h1 : (loadVar ty a).run P w = .ok v w) (h2 : (loadVar ty2 b).run P w = .ok v2 w) : (results fn tmps).run P w = .ok (.tuple #[v, v2]) w := by
  have hp' : tmps[p]?.getD undef = .pointer (some a) := by simpa using hp
  have hq' : tmps[q]?.getD undef = .pointer (some b) := by simpa using hq
  simp [results, h, hp', hq', asAddr, h1, h2]
theorem run_loadVar_slice (w : World) {b : Nat} {v : Value} (h : w.cell? ⟨b, 0, none⟩ = some v) : (loadVar 22 ⟨b, 0, none⟩).run Tryz.prog w = .ok v w := by
  go_simp
theorem run_loadVar_errno (w : World) {b : Nat} {v : Value} (h : w.cell? ⟨b, 0, none⟩ = some v) : (loadVar 25 ⟨b, 0, none⟩).run Tryz.prog w = .ok v w := by
  go_simp
def noDef (l : List Oper) : Bool := l.all fun o => match o.op with
  | .defer _ => false
  | _ => true
theorem noDef_spec {l : List Oper} (h : noDef l = true) : ∀ o ∈ l, ∀ c, o.op ≠ .defer c := by
  intro o ho c hc
  have := List.all_eq_true.1 h o ho
  rw [hc] at this
  cases this
theorem info_row : ∃ i : TypeInfo, Tryz.prog.info? 47 = some i ∧ i.zero = some (.agg #[.string ⟨#[]⟩, .int .i64 0, .int .i64 0, .int .i64 0, .int .i64 0]) ∧ i.size = 5 ∧ i.bytes = 48 := info_parts (show (Tryz.prog.info? 47).map (fun i => (i.zero, i.size, i.bytes)) = some (some (.agg #[.string ⟨#[]⟩, .int .i64 0, .int .i64 0, .int .i64 0, .int .i64 0]), 5, 48) by kernel_rfl)
theorem YieldAt.mono {F : Fence} {m : Nat} {P : Program} {l : Nat} {args : Array Value} {W : World} {R R' : Ending → World → Prop} (h : YieldAt F m P l args W R) (hr : ∀ e w', R e w' → R' e w') : YieldAt F m P l args W R' := by
  obtain ⟨fn, tmps, assign, body, hy, hR⟩ := h
  exact ⟨fn, tmps, assign, body, hy, hR.mono hr⟩
theorem rowOf_not {P : List ByteArray} (h : P.length ≠ 5) : rowOf P = none := by
  match P, h with
  | [], _ => rfl
  | [_], _ => rfl
  | [_, _], _ => rfl
  | [_, _, _], _ => rfl
  | [_, _, _, _], _ => rfl
  | [_, _, _, _, _], h => exact absurd rfl h
  | _ :: _ :: _ :: _ :: _ :: _ :: _, _ => rfl
theorem five {P : List ByteArray} (h : P.length = 5) : ∃ p0 p1 p2 p3 p4, P = [p0, p1, p2, p3, p4] := by
  match P, h with
  | [p0, p1, p2, p3, p4], _ => exact ⟨p0, p1, p2, p3, p4, rfl⟩

set_option maxRecDepth 100000 in
set_option maxHeartbeats 8000000 in
theorem parse_any (w : World) (s : ByteArray) (hs : s.size ≤ 4294967280) (he : Errs w) (ht : Pow10 w) :
    Calls Tryz.prog 19 #[.string s] w (parsePost w s) := by
  have HE := Lib.hid he
  have HT := Lib.hid ht
  clear he ht
  refine (callsIn_wide (n := 6)).1 ?_
  refine callsIn_of_wp_marks Tryz.func19 rfl trivial ?_ rfl
  simp only [Tryz.ntmps19, List.size_toArray, List.length_cons, List.length_nil, Nat.reduceAdd, Nat.reduceSub, Array.replicate_succ, Array.replicate_zero, List.push_toArray, List.append_toArray, List.nil_append, List.cons_append]
  gi_wp2_with (first
    | (refine ⟨trivial, ?_⟩; gi_at_call 49; refine (callsIn_wide.2 (lines_call _ _)).mono ?_; rintro e w' ⟨rfl, hw'⟩)
    | (gi_at_call 49; refine (callsIn_wide.2 (lines_call _ _)).mono ?_; rintro e w' ⟨rfl, hw'⟩))
  have hS : St w [HP.blk (w.heap.size + 1 + 1 + 1) #[.string s] 9, HP.blk (w.heap.size + 1 + 1) #[.slice none 0 0] 22, HP.blk (w.heap.size + 1) #[.int .i64 0] 25, HP.blk w.heap.size #[.slice none 0 0] 22] w' := by
    have h1 := (((St.start w).allocRow #[.slice none 0 0] 22).allocRow #[.int .i64 0] 25).allocRow #[.slice none 0 0] 22
    have h2 := h1.allocRow #[.string s] 9
    simp only [World.size_alloc] at h2
    rw [hw']
    exact h2
  have hS0 : St w (HP.blk (w.heap.size + 1 + 1 + 1) #[.string s] 9 :: [HP.blk (w.heap.size + 1 + 1) #[.slice none 0 0] 22, HP.arr 47 5 (.slice none 0 0) ([] : List Rw).length (rowsC []), HP.blk w.heap.size #[.slice none 0 0] 22, HP.blk (w.heap.size + 1) #[.int .i64 0] 25]) w' := by
    refine (hS.arr_nil 47 5).perm ?_
    simp only [HP.big, List.length_nil, rowsC, List.flatMap_nil]
    ac_rfl
  rw [← hw']
  clear hS hw'
  refine range_st (w0 := w) (R0 := _) (N := fun R => ∃ R', R = HP.blk (w.heap.size + 1 + 1 + 1) #[.string ByteArray.empty] 9 :: R' ∧ parseI s w.heap.size (w.heap.size + 1) (w.heap.size + 1 + 1) ByteArray.empty R') (X := parseX s w.heap.size (w.heap.size + 1)) rfl (by decide) rfl trivial (enters_of Tryz.func94 (by kernel_rfl) rfl) hS0 ?call ?done ?stop
  case call =>
    intro fn l D W hfn hD hW
    clear hD hfn
    refine lines_st (n := 5) (by decide) (recL fn _ _ _ _ D) (parseI s w.heap.size (w.heap.size + 1) (w.heap.size + 1 + 1)) (parseX s w.heap.size (w.heap.size + 1)) ?_ s (by omega) _ W ⟨[], _, rfl, by simp, by simp, rfl, Nat.le_refl _⟩ hW
    intro r R W1 hr hI hW1
    obtain ⟨acc, v, rfl, hwf, h200, hp, hrs⟩ := hI
    have hcs := cutL_size r hr
    have hstep := parseF_step (acc := acc) hr
    rw [← hp] at hstep
    generalize (cutL r).1 = x at *
    generalize (cutL r).2 = r' at *
    have HSTEP := Lib.hid hstep
    have HWF := Lib.hid hwf
    have htr := trimN_size x
    have cT := fun w1 => trim_any w1 x (by omega)
    have cS := fun w1 => split_any w1 (trimN x) (by omega)
    obtain ⟨P, hP⟩ : ∃ P, pieces (trimN x) = P := ⟨_, rfl⟩
    simp only [hP] at cS
    have HPS : Hid (∀ p ∈ P, p.size ≤ 4294967280) := Lib.hid (fun p hp' => by have := pieces_size (trimN x) p (hP ▸ hp'); omega)
    have HT1 := Lib.hid cT
    have HS1 := Lib.hid cS
    have HROW : Hid (lineRow x = rowOf P) := Lib.hid (by unfold lineRow; rw [hP])
    clear hstep hwf htr cT cS hP hp
    refine YieldAt.mono (round_st (w0 := w) (N := fun R => ∃ R', R = HP.at D (.deferred (some [])) :: HP.blk (w.heap.size + 1 + 1 + 1) #[.string r'] 9 :: R' ∧ parseI s w.heap.size (w.heap.size + 1) (w.heap.size + 1 + 1) r' R') (X := fun c R => ∃ R', R = HP.at D (.deferred (some [])) :: R' ∧ parseX s w.heap.size (w.heap.size + 1) c R') ?a1 trivial hW1 rfl ?assign ?body) ?post
    case post =>
      rintro e W' (⟨rfl, _, h1, R', rfl, h2⟩ | ⟨rfl, c, _, h1, R', rfl, h2⟩)
      · exact .inl ⟨rfl, R', h1, h2⟩
      · exact .inr ⟨rfl, c, R', h1, h2⟩
    case assign =>
      intro K hK
      gi_wp2
      exact hK
    case body =>
      intro W2 hW2
      generalize hLB : HP.at l _ = LB at hW2
      have HLB := Lib.hid hLB
      have HW2 := Lib.hid hW2
      clear hLB
      clear hW2 hW1 hW
      by_cases h5 : P.length = 5
      · obtain ⟨i0, hi0, hz0, hz1, hz2⟩ := info_row
        have HI := Lib.hid hi0; have Z0 := Lib.hid hz0; have Z1 := Lib.hid hz1; have Z2 := Lib.hid hz2
        clear hi0 hz0 hz1 hz2
        obtain ⟨va, vc, rfl⟩ := (HP.arr_reads (HW2.out.front 4)).form
        have h5' : ((P.length : Int) != 5) = false := by simp; omega
        have H3 := HW2.out.allocRow (P.map Value.string).toArray 9
        have c4 := St.cells1 (H3.front 4)
        by_cases hacc : acc.length < 200
        · have ha2 : ¬ (200 : Int) ≤ (acc.length : Int) := by omega
          obtain ⟨p0, p1, p2, p3, p4, hP5⟩ := five h5
          have HP5 := Lib.hid hP5
          have H4 := Lib.hid (H3.allocRow #[.int .i64 0, .int .i64 0, .int .i64 0, .int .i64 0] 105)
          clear H3 hP5
          gi_wp2_with (first
          | (refine ⟨trivial, ?_⟩; gi_at_call 51; refine (CallsIn.inRound l (callsIn_wide.2 (HT1.out _))).mono ?_; rintro e w' ⟨rfl, rfl⟩)
          | (gi_at_call 51; refine (CallsIn.inRound l (callsIn_wide.2 (HT1.out _))).mono ?_; rintro e w' ⟨rfl, rfl⟩)
          | (refine ⟨trivial, ?_⟩; gi_at_call 50; refine (CallsIn.inRound l (callsIn_wide.2 (HS1.out _))).mono ?_; rintro e w' ⟨rfl, hw3⟩)
          | (gi_at_call 50; refine (CallsIn.inRound l (callsIn_wide.2 (HS1.out _))).mono ?_; rintro e w' ⟨rfl, hw3⟩))
          simp only [World.size_alloc] at H4
          gi_loopw [25] (fun i wr => ∃ (m : Nat) (c : Nat → Int), m ≤ 4 ∧ i = .int .i64 m ∧ Hid (∀ j, j < m → ∃ p, [p1, p2, p3, p4][j]? = some p ∧ atoiO p = some (c j) ∧ i64r (c j)) ∧
            Hid (St w (HP.blk (W2.heap.size + 1) #[.int .i64 (c 0), .int .i64 (c 1), .int .i64 (c 2), .int .i64 (c 3)] 105 :: HP.blk W2.heap.size (P.map Value.string).toArray 9 :: LB :: HP.at D (.deferred (some [])) :: HP.blk (w.heap.size + 1 + 1 + 1) #[.string r'] 9 :: HP.blk (w.heap.size + 1 + 1) #[.slice va acc.length vc] 22 :: HP.arr 47 5 (.slice va acc.length vc) acc.length (rowsC acc) :: HP.blk w.heap.size #[.slice none 0 0] 22 :: HP.blk (w.heap.size + 1) #[.int .i64 0] 25 :: []) wr)) (fun i _ => 4 - (intOf i).toNat)
          case atStart => exact ⟨0, fun _ => 0, Nat.zero_le _, rfl, Lib.hid (fun j hj => by omega), H4⟩
          case round =>
            clear H4
            obtain ⟨m, c, hm, rfl, HC, HS⟩ := hrel
            by_cases hm4 : m = 4
            · subst hm4
              have hrow : Hid (rowOf P = some ⟨p0, c 0, c 1, c 2, c 3⟩ ∧ i64r (c 0) ∧ i64r (c 1) ∧ i64r (c 2) ∧ i64r (c 3)) := Lib.hid (by
                obtain ⟨q1, e1, a1, b1⟩ := HC.out 0 (by omega)
                obtain ⟨q2, e2, a2, b2⟩ := HC.out 1 (by omega)
                obtain ⟨q3, e3, a3, b3⟩ := HC.out 2 (by omega)
                obtain ⟨q4, e4, a4, b4⟩ := HC.out 3 (by omega)
                cases e1; cases e2; cases e3; cases e4
                rw [HP5.out]
                exact ⟨by simp [rowOf, a1, a2, a3, a4], b1, b2, b3, b4⟩)
              have d0 : ((P.map Value.string).toArray)[0]? = some (.string p0) := by rw [HP5.out]; rfl
              have FACTS : Hid (∀ G wx, St w (HP.blk (W2.heap.size + 1) #[.int .i64 (c 0), .int .i64 (c 1), .int .i64 (c 2), .int .i64 (c 3)] 105 :: HP.blk W2.heap.size (P.map Value.string).toArray 9 :: HP.blk (w.heap.size + 1 + 1) #[.slice va acc.length vc] 22 :: G) wx →
                  wx.cell? ⟨W2.heap.size + 1, 0, none⟩ = some (.int .i64 (c 0)) ∧ wx.cell? ⟨W2.heap.size + 1, 1, none⟩ = some (.int .i64 (c 1)) ∧ wx.cell? ⟨W2.heap.size + 1, 2, none⟩ = some (.int .i64 (c 2)) ∧ wx.cell? ⟨W2.heap.size + 1, 3, none⟩ = some (.int .i64 (c 3)) ∧
                  wx.cell? ⟨W2.heap.size, 0, none⟩ = some (.string p0) ∧ wx.cell? ⟨w.heap.size + 1 + 1, 0, none⟩ = some (.slice va acc.length vc)) := Lib.hid (fun G wx hx => by
                obtain ⟨x0, x1, x2, x3⟩ := St.cells4 hx
                exact ⟨x0, x1, x2, x3, St.cell (hx.front 1) d0, St.cells1 (hx.front 2)⟩)
              gi_wp2
              have HST : Hid (St w ([HP.arr 47 5 (.slice va acc.length vc) acc.length (rowsC acc)] ++ (HP.blk (W2.heap.size + 1) #[.int .i64 (c 0), .int .i64 (c 1), .int .i64 (c 2), .int .i64 (c 3)] 105 :: HP.blk W2.heap.size (P.map Value.string).toArray 9 :: HP.blk (w.heap.size + 1 + 1) #[.slice va acc.length vc] 22 :: LB :: HP.at D (.deferred (some [])) :: HP.blk (w.heap.size + 1 + 1 + 1) #[.string r'] 9 :: HP.blk w.heap.size #[.slice none 0 0] 22 :: HP.blk (w.heap.size + 1) #[.int .i64 0] 25 :: [])) wr) := Lib.hid (HS.out.perm (by simp only [HP.big, HP.big_append]; ac_rfl))
              obtain ⟨row, hrw⟩ : ∃ row : Rw, row = ⟨p0, c 0, c 1, c 2, c 3⟩ := ⟨_, rfl⟩
              have HRW := Lib.hid hrw
              clear hrw
              refine wpIn_region_any (by kernel_rfl) (wpAnyIn_of (noDef_spec (by kernel_rfl)) (fun ⟨_, _, h⟩ => h) ?_)
              refine wpAny_par (w0 := w) 1 15 [15] [HP.arr 47 5 (.slice va acc.length vc) acc.length (rowsC acc)] (HP.blk (W2.heap.size + 1) #[.int .i64 (c 0), .int .i64 (c 1), .int .i64 (c 2), .int .i64 (c 3)] 105 :: HP.blk W2.heap.size (P.map Value.string).toArray 9 :: HP.blk (w.heap.size + 1 + 1) #[.slice va acc.length vc] 22 :: LB :: HP.at D (.deferred (some [])) :: HP.blk (w.heap.size + 1 + 1 + 1) #[.string r'] 9 :: HP.blk w.heap.size #[.slice none 0 0] 22 :: HP.blk (w.heap.size + 1) #[.int .i64 0] 25 :: []) [(13, []), (14, [0, 14])]
                (fun i v => if i = 13 then ∃ a, v = .slice (some a) 1 1 else ∃ a' c', v = .slice a' (acc.length + 1) c')
                (fun i v => if i = 13 then HP.arr 47 5 v 1 row.cells else HP.arr 47 5 v (acc.length + 1) (rowsC acc ++ row.cells)) (by kernel_rfl) rfl (by kernel_rfl) HST.out ?_
              simp only [List.take_succ_cons, List.take_zero, List.drop_succ_cons, List.drop_zero]
              iterate 13 (
                with_reducible refine wpPar_pure (by kernel_rfl) (fun K hK => ?_)
                go_simp
                apply Exists.intro
                refine ⟨fun G w1 h1 => ?_, hK _ ?_⟩
                (first
                  | (with_reducible rfl)
                  | (obtain ⟨q0, q1, q2, q3, q4, q5⟩ := FACTS.out _ w1 h1; go_simp; done)
                  | (obtain ⟨q0, q1, q2, q3, q4, q5⟩ := FACTS.out _ w1 h1; go_simp; with_reducible rfl))
                clear hK K)
              refine wpPar_eff (c := []) (by kernel_rfl) ⟨.slice (some ⟨0, 0, none⟩) 1 1, ⟨_, rfl⟩⟩ (fun G w1 h1 => ?_) (fun v hv K hK => ?_)
              · simp only [List.map_nil, List.nil_append] at h1
                go_simp
                have h2 := h1.newArr 47 5 1 row.cells rfl (by decide)
                rw [HRW.out] at h2 ⊢
                simpa [Rw.cells] using h2
              simp only [if_true] at hv
              obtain ⟨a8, rfl⟩ := hv
              refine hK _ ?_; clear hK K
              refine wpPar_eff (c := [0, 14]) (by kernel_rfl) ⟨.slice none (acc.length + 1) 0, (show ∃ a' c', (Value.slice none (acc.length + 1) 0) = .slice a' (acc.length + 1) c' from ⟨_, _, rfl⟩)⟩ (fun G w1 h1 => ?_) (fun v hv K hK => ?_)
              · simp [tokA, upd] at h1
                have R1 := HP.arr_reads (h1.drop)
                refine eff_append_st _ _ 22 rfl 47 i0 _ 5 48 Tryz.underlying22 HI.out Z0.out Z1.out Z2.out rfl _ _ rfl rfl acc.length (rowsC acc) h1 1 row.cells R1 (by rw [HRW.out]; intro u hu; simp [Rw.cells] at hu; rcases hu with rfl | rfl | rfl | rfl | rfl <;> rfl) (by simp only [maxLen]; omega) (by omega) ?_
                intro v' w' hs' _
                obtain ⟨a7, p7, rfl⟩ := (HP.arr_reads hs').form
                refine ⟨⟨a7, p7, rfl⟩, ?_⟩
                have hs2 := hs'.swap.drop
                simpa using hs2
              simp only [show ¬ ((14 : Nat) = 13) by decide, if_false] at hv
              obtain ⟨a9, p9, rfl⟩ := hv
              refine hK _ ?_; clear hK K
              refine wpPar_nil ?_
              intro w5 h5
              simp [tokA, upd] at h5
              have c5 := St.cells1 (h5.front 3)
              have f5 := St.frozen (h5.front 3) 0
              have H5 := Lib.hid (St.set (h5.front 3) 0 (.slice a9 (acc.length + 1) p9))
              clear h5
              go_wp2_with fail
              have hlen : (acc ++ [row]).length = acc.length + 1 := by simp
              have hrc : rowsC (acc ++ [row]) = rowsC acc ++ row.cells := by simp [rowsC]
              refine ⟨HP.at D (.deferred (some [])) :: HP.blk (w.heap.size + 1 + 1 + 1) #[.string r'] 9 :: [HP.blk (w.heap.size + 1 + 1) #[.slice a9 (acc.length + 1) p9] 22, HP.arr 47 5 (.slice a9 (acc.length + 1) p9) (acc ++ [row]).length (rowsC (acc ++ [row])), HP.blk w.heap.size #[.slice none 0 0] 22, HP.blk (w.heap.size + 1) #[.int .i64 0] 25], ?_, _, rfl, acc ++ [row], _, rfl, ?_, ?_, ?_, ?_⟩
              · rw [hlen, hrc]
                refine St.eq (A := LB) ?_ HLB.out.symm
                have h6 : St w (HP.blk (W2.heap.size + 1) #[.int .i64 (c 0), .int .i64 (c 1), .int .i64 (c 2), .int .i64 (c 3)] 105 :: HP.blk W2.heap.size (P.map Value.string).toArray 9 :: LB :: HP.at D (.deferred (some [])) :: HP.blk (w.heap.size + 1 + 1 + 1) #[.string r'] 9 :: [HP.blk (w.heap.size + 1 + 1) #[.slice a9 (acc.length + 1) p9] 22, HP.arr 47 5 (.slice a9 (acc.length + 1) p9) (acc.length + 1) (rowsC acc ++ row.cells), HP.blk w.heap.size #[.slice none 0 0] 22, HP.blk (w.heap.size + 1) #[.int .i64 0] 25]) (w5.setCell { block := w.heap.size + 1 + 1, off := 0 } (Value.slice a9 (acc.length + 1) p9)) := H5.out.perm (by simp [HP.big]; ac_rfl)
                exact h6.drop.drop
              · intro y hy
                rcases List.mem_append.1 hy with hy | hy
                · exact HWF.out y hy
                · rw [List.mem_singleton] at hy
                  subst hy
                  rw [HRW.out]
                  exact ⟨Nat.le_trans (HPS.out p0 (by rw [HP5.out]; simp)) (by simp only [maxLen]; omega), hrow.out.2.1, hrow.out.2.2.1, hrow.out.2.2.2.1, hrow.out.2.2.2.2⟩
              · rw [hlen]; omega
              · rw [HSTEP.out, HROW.out, hrow.out.1, ← HRW.out]
                simp [hacc]
              · omega
            · rcases (by omega : m = 0 ∨ m = 1 ∨ m = 2 ∨ m = 3) with h | h | h | h <;> subst h
              · have dm : ((P.map Value.string).toArray)[1]? = some (.string p1) := by rw [HP5.out]; rfl
                have y0 := St.cell (HS.out.front 1) dm
                have HEW := Lib.hid (HE.out.grow HS.out.below)
                have hsp := HPS.out p1 (by rw [HP5.out]; simp)
                rcases hA : atoiO p1 with _ | av
                · have cA : Hid (∀ w1, Errs w1 → Calls Tryz.prog 52 #[.string p1] w1 fun e w' => ∃ v t q, e = .returned (.tuple #[.int .i64 v, .iface t q]) ∧ Below w1.heap.size w1 w') := Lib.hid fun w1 h1 => (atoi_any w1 p1 (by omega) h1).mono fun e w' ⟨v, x, h2, h3, h4⟩ => by
                    rcases h4 with ⟨h5, _, _⟩ | ⟨_, t, q, h5⟩
                    · rw [hA] at h5; cases h5
                    · subst h5; exact ⟨v, t, q, h2, h3⟩
                  have HA := Lib.hid hA
                  clear hA hsp
                  gi_wp2_with (first
                    | (refine ⟨trivial, ?_⟩; gi_at_call 52; refine (CallsIn.inRound l (callsIn_wide.2 (cA.out _ HEW.out))).mono ?_; rintro e w4 ⟨v4, t4, q4, rfl, hb4⟩; have HG := Lib.hid (HS.out.grow hb4); have c2 := St.cells1 (HG.out.front 7); have f2 := St.frozen (HG.out.front 7) 0; have c3 := St.cells1 (HG.out.front 8); have f3 := St.frozen (HG.out.front 8) 0)
                    | (gi_at_call 52; refine (CallsIn.inRound l (callsIn_wide.2 (cA.out _ HEW.out))).mono ?_; rintro e w4 ⟨v4, t4, q4, rfl, hb4⟩; have HG := Lib.hid (HS.out.grow hb4); have c2 := St.cells1 (HG.out.front 7); have f2 := St.frozen (HG.out.front 7) 0; have c3 := St.cells1 (HG.out.front 8); have f3 := St.frozen (HG.out.front 8) 0))
                  have HX := Lib.hid (St.set ((St.set (HG.out.front 7) 0 (.slice none 0 0)).front 8) 0 (.int .i64 2))
                  refine ⟨HP.at D (.deferred (some [])) :: HP.blk w.heap.size #[.slice none 0 0] 22 :: HP.blk (w.heap.size + 1) #[.int .i64 2] 25 :: [HP.blk (W2.heap.size + 1) #[.int .i64 (c 0), .int .i64 (c 1), .int .i64 (c 2), .int .i64 (c 3)] 105, HP.blk W2.heap.size (P.map Value.string).toArray 9, HP.blk (w.heap.size + 1 + 1 + 1) #[.string r'] 9, HP.blk (w.heap.size + 1 + 1) #[.slice va acc.length vc] 22, HP.arr 47 5 (.slice va acc.length vc) acc.length (rowsC acc)], ?_, _, rfl, rfl, ?_, _, rfl⟩
                  · exact St.eq (A := LB) (HX.out.perm (by simp [HP.big]; ac_rfl)) HLB.out.symm
                  · rw [HSTEP.out, HROW.out, HP5.out]
                    have : rowOf [p0, p1, p2, p3, p4] = none := by
                      simp only [rowOf]
                      rw [HA.out]
                    rw [this]
                · have cA : Hid (∀ w1, Errs w1 → Calls Tryz.prog 52 #[.string p1] w1 fun e w' => e = .returned (.tuple #[.int .i64 av, .nilIface]) ∧ Below w1.heap.size w1 w' ∧ i64r av) := Lib.hid fun w1 h1 => (atoi_any w1 p1 (by omega) h1).mono fun e w' ⟨v, x, h2, h3, h4⟩ => by
                    rcases h4 with ⟨h5, h6, h7⟩ | ⟨h5, _⟩
                    · rw [hA] at h5; cases h5; subst h7; exact ⟨h2, h3, h6⟩
                    · rw [hA] at h5; cases h5
                  have HA := Lib.hid hA
                  clear hA hsp
                  gi_wp2_with (first
                    | (refine ⟨trivial, ?_⟩; gi_at_call 52; refine (CallsIn.inRound l (callsIn_wide.2 (cA.out _ HEW.out))).mono ?_; rintro e w4 ⟨rfl, hb4, hav⟩; have HAV := Lib.hid hav; have HG := Lib.hid (HS.out.grow hb4); have cm := St.cell (HG.out.front 0) (i := 0) rfl; have fm := St.frozen (HG.out.front 0) 0; clear hav)
                    | (gi_at_call 52; refine (CallsIn.inRound l (callsIn_wide.2 (cA.out _ HEW.out))).mono ?_; rintro e w4 ⟨rfl, hb4, hav⟩; have HAV := Lib.hid hav; have HG := Lib.hid (HS.out.grow hb4); have cm := St.cell (HG.out.front 0) (i := 0) rfl; have fm := St.frozen (HG.out.front 0) 0; clear hav))
                  have HX := Lib.hid (St.set (HG.out.front 0) 0 (.int .i64 av))
                  go_roundw
                  case rel =>
                    refine ⟨1, upd c 0 av, by omega, by go_num, Lib.hid fun j hj => ?_, Lib.hid ?_⟩
                    · by_cases hjm : j = 0
                      · subst hjm
                        exact ⟨p1, rfl, by rw [upd_at]; exact HA.out, by rw [upd_at]; exact HAV.out⟩
                      · obtain ⟨q, e1, e2, e3⟩ := HC.out j (by omega)
                        exact ⟨q, e1, by rw [upd_ne hjm]; exact e2, by rw [upd_ne hjm]; exact e3⟩
                    · have h9 := HX.out
                      simpa [upd] using h9
                  case measure => simp [intOf]
              · have dm : ((P.map Value.string).toArray)[2]? = some (.string p2) := by rw [HP5.out]; rfl
                have y0 := St.cell (HS.out.front 1) dm
                have HEW := Lib.hid (HE.out.grow HS.out.below)
                have hsp := HPS.out p2 (by rw [HP5.out]; simp)
                rcases hA : atoiO p2 with _ | av
                · have cA : Hid (∀ w1, Errs w1 → Calls Tryz.prog 52 #[.string p2] w1 fun e w' => ∃ v t q, e = .returned (.tuple #[.int .i64 v, .iface t q]) ∧ Below w1.heap.size w1 w') := Lib.hid fun w1 h1 => (atoi_any w1 p2 (by omega) h1).mono fun e w' ⟨v, x, h2, h3, h4⟩ => by
                    rcases h4 with ⟨h5, _, _⟩ | ⟨_, t, q, h5⟩
                    · rw [hA] at h5; cases h5
                    · subst h5; exact ⟨v, t, q, h2, h3⟩
                  have HA := Lib.hid hA
                  clear hA hsp
                  gi_wp2_with (first
                    | (refine ⟨trivial, ?_⟩; gi_at_call 52; refine (CallsIn.inRound l (callsIn_wide.2 (cA.out _ HEW.out))).mono ?_; rintro e w4 ⟨v4, t4, q4, rfl, hb4⟩; have HG := Lib.hid (HS.out.grow hb4); have c2 := St.cells1 (HG.out.front 7); have f2 := St.frozen (HG.out.front 7) 0; have c3 := St.cells1 (HG.out.front 8); have f3 := St.frozen (HG.out.front 8) 0)
                    | (gi_at_call 52; refine (CallsIn.inRound l (callsIn_wide.2 (cA.out _ HEW.out))).mono ?_; rintro e w4 ⟨v4, t4, q4, rfl, hb4⟩; have HG := Lib.hid (HS.out.grow hb4); have c2 := St.cells1 (HG.out.front 7); have f2 := St.frozen (HG.out.front 7) 0; have c3 := St.cells1 (HG.out.front 8); have f3 := St.frozen (HG.out.front 8) 0))
                  have HX := Lib.hid (St.set ((St.set (HG.out.front 7) 0 (.slice none 0 0)).front 8) 0 (.int .i64 2))
                  refine ⟨HP.at D (.deferred (some [])) :: HP.blk w.heap.size #[.slice none 0 0] 22 :: HP.blk (w.heap.size + 1) #[.int .i64 2] 25 :: [HP.blk (W2.heap.size + 1) #[.int .i64 (c 0), .int .i64 (c 1), .int .i64 (c 2), .int .i64 (c 3)] 105, HP.blk W2.heap.size (P.map Value.string).toArray 9, HP.blk (w.heap.size + 1 + 1 + 1) #[.string r'] 9, HP.blk (w.heap.size + 1 + 1) #[.slice va acc.length vc] 22, HP.arr 47 5 (.slice va acc.length vc) acc.length (rowsC acc)], ?_, _, rfl, rfl, ?_, _, rfl⟩
                  · exact St.eq (A := LB) (HX.out.perm (by simp [HP.big]; ac_rfl)) HLB.out.symm
                  · rw [HSTEP.out, HROW.out, HP5.out]
                    have : rowOf [p0, p1, p2, p3, p4] = none := by
                      simp only [rowOf]
                      rw [HA.out]
                      cases atoiO p1 <;> rfl
                    rw [this]
                · have cA : Hid (∀ w1, Errs w1 → Calls Tryz.prog 52 #[.string p2] w1 fun e w' => e = .returned (.tuple #[.int .i64 av, .nilIface]) ∧ Below w1.heap.size w1 w' ∧ i64r av) := Lib.hid fun w1 h1 => (atoi_any w1 p2 (by omega) h1).mono fun e w' ⟨v, x, h2, h3, h4⟩ => by
                    rcases h4 with ⟨h5, h6, h7⟩ | ⟨h5, _⟩
                    · rw [hA] at h5; cases h5; subst h7; exact ⟨h2, h3, h6⟩
                    · rw [hA] at h5; cases h5
                  have HA := Lib.hid hA
                  clear hA hsp
                  gi_wp2_with (first
                    | (refine ⟨trivial, ?_⟩; gi_at_call 52; refine (CallsIn.inRound l (callsIn_wide.2 (cA.out _ HEW.out))).mono ?_; rintro e w4 ⟨rfl, hb4, hav⟩; have HAV := Lib.hid hav; have HG := Lib.hid (HS.out.grow hb4); have cm := St.cell (HG.out.front 0) (i := 1) rfl; have fm := St.frozen (HG.out.front 0) 1; clear hav)
                    | (gi_at_call 52; refine (CallsIn.inRound l (callsIn_wide.2 (cA.out _ HEW.out))).mono ?_; rintro e w4 ⟨rfl, hb4, hav⟩; have HAV := Lib.hid hav; have HG := Lib.hid (HS.out.grow hb4); have cm := St.cell (HG.out.front 0) (i := 1) rfl; have fm := St.frozen (HG.out.front 0) 1; clear hav))
                  have HX := Lib.hid (St.set (HG.out.front 0) 1 (.int .i64 av))
                  go_roundw
                  case rel =>
                    refine ⟨2, upd c 1 av, by omega, by go_num, Lib.hid fun j hj => ?_, Lib.hid ?_⟩
                    · by_cases hjm : j = 1
                      · subst hjm
                        exact ⟨p2, rfl, by rw [upd_at]; exact HA.out, by rw [upd_at]; exact HAV.out⟩
                      · obtain ⟨q, e1, e2, e3⟩ := HC.out j (by omega)
                        exact ⟨q, e1, by rw [upd_ne hjm]; exact e2, by rw [upd_ne hjm]; exact e3⟩
                    · have h9 := HX.out
                      simpa [upd] using h9
                  case measure => simp [intOf]
              · have dm : ((P.map Value.string).toArray)[3]? = some (.string p3) := by rw [HP5.out]; rfl
                have y0 := St.cell (HS.out.front 1) dm
                have HEW := Lib.hid (HE.out.grow HS.out.below)
                have hsp := HPS.out p3 (by rw [HP5.out]; simp)
                rcases hA : atoiO p3 with _ | av
                · have cA : Hid (∀ w1, Errs w1 → Calls Tryz.prog 52 #[.string p3] w1 fun e w' => ∃ v t q, e = .returned (.tuple #[.int .i64 v, .iface t q]) ∧ Below w1.heap.size w1 w') := Lib.hid fun w1 h1 => (atoi_any w1 p3 (by omega) h1).mono fun e w' ⟨v, x, h2, h3, h4⟩ => by
                    rcases h4 with ⟨h5, _, _⟩ | ⟨_, t, q, h5⟩
                    · rw [hA] at h5; cases h5
                    · subst h5; exact ⟨v, t, q, h2, h3⟩
                  have HA := Lib.hid hA
                  clear hA hsp
                  gi_wp2_with (first
                    | (refine ⟨trivial, ?_⟩; gi_at_call 52; refine (CallsIn.inRound l (callsIn_wide.2 (cA.out _ HEW.out))).mono ?_; rintro e w4 ⟨v4, t4, q4, rfl, hb4⟩; have HG := Lib.hid (HS.out.grow hb4); have c2 := St.cells1 (HG.out.front 7); have f2 := St.frozen (HG.out.front 7) 0; have c3 := St.cells1 (HG.out.front 8); have f3 := St.frozen (HG.out.front 8) 0)
                    | (gi_at_call 52; refine (CallsIn.inRound l (callsIn_wide.2 (cA.out _ HEW.out))).mono ?_; rintro e w4 ⟨v4, t4, q4, rfl, hb4⟩; have HG := Lib.hid (HS.out.grow hb4); have c2 := St.cells1 (HG.out.front 7); have f2 := St.frozen (HG.out.front 7) 0; have c3 := St.cells1 (HG.out.front 8); have f3 := St.frozen (HG.out.front 8) 0))
                  have HX := Lib.hid (St.set ((St.set (HG.out.front 7) 0 (.slice none 0 0)).front 8) 0 (.int .i64 2))
                  refine ⟨HP.at D (.deferred (some [])) :: HP.blk w.heap.size #[.slice none 0 0] 22 :: HP.blk (w.heap.size + 1) #[.int .i64 2] 25 :: [HP.blk (W2.heap.size + 1) #[.int .i64 (c 0), .int .i64 (c 1), .int .i64 (c 2), .int .i64 (c 3)] 105, HP.blk W2.heap.size (P.map Value.string).toArray 9, HP.blk (w.heap.size + 1 + 1 + 1) #[.string r'] 9, HP.blk (w.heap.size + 1 + 1) #[.slice va acc.length vc] 22, HP.arr 47 5 (.slice va acc.length vc) acc.length (rowsC acc)], ?_, _, rfl, rfl, ?_, _, rfl⟩
                  · exact St.eq (A := LB) (HX.out.perm (by simp [HP.big]; ac_rfl)) HLB.out.symm
                  · rw [HSTEP.out, HROW.out, HP5.out]
                    have : rowOf [p0, p1, p2, p3, p4] = none := by
                      simp only [rowOf]
                      rw [HA.out]
                      cases atoiO p1 <;> cases atoiO p2 <;> rfl
                    rw [this]
                · have cA : Hid (∀ w1, Errs w1 → Calls Tryz.prog 52 #[.string p3] w1 fun e w' => e = .returned (.tuple #[.int .i64 av, .nilIface]) ∧ Below w1.heap.size w1 w' ∧ i64r av) := Lib.hid fun w1 h1 => (atoi_any w1 p3 (by omega) h1).mono fun e w' ⟨v, x, h2, h3, h4⟩ => by
                    rcases h4 with ⟨h5, h6, h7⟩ | ⟨h5, _⟩
                    · rw [hA] at h5; cases h5; subst h7; exact ⟨h2, h3, h6⟩
                    · rw [hA] at h5; cases h5
                  have HA := Lib.hid hA
                  clear hA hsp
                  gi_wp2_with (first
                    | (refine ⟨trivial, ?_⟩; gi_at_call 52; refine (CallsIn.inRound l (callsIn_wide.2 (cA.out _ HEW.out))).mono ?_; rintro e w4 ⟨rfl, hb4, hav⟩; have HAV := Lib.hid hav; have HG := Lib.hid (HS.out.grow hb4); have cm := St.cell (HG.out.front 0) (i := 2) rfl; have fm := St.frozen (HG.out.front 0) 2; clear hav)
                    | (gi_at_call 52; refine (CallsIn.inRound l (callsIn_wide.2 (cA.out _ HEW.out))).mono ?_; rintro e w4 ⟨rfl, hb4, hav⟩; have HAV := Lib.hid hav; have HG := Lib.hid (HS.out.grow hb4); have cm := St.cell (HG.out.front 0) (i := 2) rfl; have fm := St.frozen (HG.out.front 0) 2; clear hav))
                  have HX := Lib.hid (St.set (HG.out.front 0) 2 (.int .i64 av))
                  go_roundw
                  case rel =>
                    refine ⟨3, upd c 2 av, by omega, by go_num, Lib.hid fun j hj => ?_, Lib.hid ?_⟩
                    · by_cases hjm : j = 2
                      · subst hjm
                        exact ⟨p3, rfl, by rw [upd_at]; exact HA.out, by rw [upd_at]; exact HAV.out⟩
                      · obtain ⟨q, e1, e2, e3⟩ := HC.out j (by omega)
                        exact ⟨q, e1, by rw [upd_ne hjm]; exact e2, by rw [upd_ne hjm]; exact e3⟩
                    · have h9 := HX.out
                      simpa [upd] using h9
                  case measure => simp [intOf]
              · have dm : ((P.map Value.string).toArray)[4]? = some (.string p4) := by rw [HP5.out]; rfl
                have y0 := St.cell (HS.out.front 1) dm
                have HEW := Lib.hid (HE.out.grow HS.out.below)
                have hsp := HPS.out p4 (by rw [HP5.out]; simp)
                rcases hA : atoiO p4 with _ | av
                · have cA : Hid (∀ w1, Errs w1 → Calls Tryz.prog 52 #[.string p4] w1 fun e w' => ∃ v t q, e = .returned (.tuple #[.int .i64 v, .iface t q]) ∧ Below w1.heap.size w1 w') := Lib.hid fun w1 h1 => (atoi_any w1 p4 (by omega) h1).mono fun e w' ⟨v, x, h2, h3, h4⟩ => by
                    rcases h4 with ⟨h5, _, _⟩ | ⟨_, t, q, h5⟩
                    · rw [hA] at h5; cases h5
                    · subst h5; exact ⟨v, t, q, h2, h3⟩
                  have HA := Lib.hid hA
                  clear hA hsp
                  gi_wp2_with (first
                    | (refine ⟨trivial, ?_⟩; gi_at_call 52; refine (CallsIn.inRound l (callsIn_wide.2 (cA.out _ HEW.out))).mono ?_; rintro e w4 ⟨v4, t4, q4, rfl, hb4⟩; have HG := Lib.hid (HS.out.grow hb4); have c2 := St.cells1 (HG.out.front 7); have f2 := St.frozen (HG.out.front 7) 0; have c3 := St.cells1 (HG.out.front 8); have f3 := St.frozen (HG.out.front 8) 0)
                    | (gi_at_call 52; refine (CallsIn.inRound l (callsIn_wide.2 (cA.out _ HEW.out))).mono ?_; rintro e w4 ⟨v4, t4, q4, rfl, hb4⟩; have HG := Lib.hid (HS.out.grow hb4); have c2 := St.cells1 (HG.out.front 7); have f2 := St.frozen (HG.out.front 7) 0; have c3 := St.cells1 (HG.out.front 8); have f3 := St.frozen (HG.out.front 8) 0))
                  have HX := Lib.hid (St.set ((St.set (HG.out.front 7) 0 (.slice none 0 0)).front 8) 0 (.int .i64 2))
                  refine ⟨HP.at D (.deferred (some [])) :: HP.blk w.heap.size #[.slice none 0 0] 22 :: HP.blk (w.heap.size + 1) #[.int .i64 2] 25 :: [HP.blk (W2.heap.size + 1) #[.int .i64 (c 0), .int .i64 (c 1), .int .i64 (c 2), .int .i64 (c 3)] 105, HP.blk W2.heap.size (P.map Value.string).toArray 9, HP.blk (w.heap.size + 1 + 1 + 1) #[.string r'] 9, HP.blk (w.heap.size + 1 + 1) #[.slice va acc.length vc] 22, HP.arr 47 5 (.slice va acc.length vc) acc.length (rowsC acc)], ?_, _, rfl, rfl, ?_, _, rfl⟩
                  · exact St.eq (A := LB) (HX.out.perm (by simp [HP.big]; ac_rfl)) HLB.out.symm
                  · rw [HSTEP.out, HROW.out, HP5.out]
                    have : rowOf [p0, p1, p2, p3, p4] = none := by
                      simp only [rowOf]
                      rw [HA.out]
                      cases atoiO p1 <;> cases atoiO p2 <;> cases atoiO p3 <;> rfl
                    rw [this]
                · have cA : Hid (∀ w1, Errs w1 → Calls Tryz.prog 52 #[.string p4] w1 fun e w' => e = .returned (.tuple #[.int .i64 av, .nilIface]) ∧ Below w1.heap.size w1 w' ∧ i64r av) := Lib.hid fun w1 h1 => (atoi_any w1 p4 (by omega) h1).mono fun e w' ⟨v, x, h2, h3, h4⟩ => by
                    rcases h4 with ⟨h5, h6, h7⟩ | ⟨h5, _⟩
                    · rw [hA] at h5; cases h5; subst h7; exact ⟨h2, h3, h6⟩
                    · rw [hA] at h5; cases h5
                  have HA := Lib.hid hA
                  clear hA hsp
                  gi_wp2_with (first
                    | (refine ⟨trivial, ?_⟩; gi_at_call 52; refine (CallsIn.inRound l (callsIn_wide.2 (cA.out _ HEW.out))).mono ?_; rintro e w4 ⟨rfl, hb4, hav⟩; have HAV := Lib.hid hav; have HG := Lib.hid (HS.out.grow hb4); have cm := St.cell (HG.out.front 0) (i := 3) rfl; have fm := St.frozen (HG.out.front 0) 3; clear hav)
                    | (gi_at_call 52; refine (CallsIn.inRound l (callsIn_wide.2 (cA.out _ HEW.out))).mono ?_; rintro e w4 ⟨rfl, hb4, hav⟩; have HAV := Lib.hid hav; have HG := Lib.hid (HS.out.grow hb4); have cm := St.cell (HG.out.front 0) (i := 3) rfl; have fm := St.frozen (HG.out.front 0) 3; clear hav))
                  have HX := Lib.hid (St.set (HG.out.front 0) 3 (.int .i64 av))
                  go_roundw
                  case rel =>
                    refine ⟨4, upd c 3 av, by omega, by go_num, Lib.hid fun j hj => ?_, Lib.hid ?_⟩
                    · by_cases hjm : j = 3
                      · subst hjm
                        exact ⟨p4, rfl, by rw [upd_at]; exact HA.out, by rw [upd_at]; exact HAV.out⟩
                      · obtain ⟨q, e1, e2, e3⟩ := HC.out j (by omega)
                        exact ⟨q, e1, by rw [upd_ne hjm]; exact e2, by rw [upd_ne hjm]; exact e3⟩
                    · have h9 := HX.out
                      simpa [upd] using h9
                  case measure => simp [intOf]
        · have ha2 : (200 : Int) ≤ (acc.length : Int) := by omega
          have c2 := St.cells1 (H3.front 6)
          have f2 := St.frozen (H3.front 6) 0
          have c3 := St.cells1 (H3.front 7)
          have f3 := St.frozen (H3.front 7) 0
          have HX := Lib.hid (St.set ((St.set (H3.front 6) 0 (.slice none 0 0)).front 7) 0 (.int .i64 2))
          clear H3
          gi_wp2_with (first
          | (refine ⟨trivial, ?_⟩; gi_at_call 51; refine (CallsIn.inRound l (callsIn_wide.2 (HT1.out _))).mono ?_; rintro e w' ⟨rfl, rfl⟩)
          | (gi_at_call 51; refine (CallsIn.inRound l (callsIn_wide.2 (HT1.out _))).mono ?_; rintro e w' ⟨rfl, rfl⟩)
          | (refine ⟨trivial, ?_⟩; gi_at_call 50; refine (CallsIn.inRound l (callsIn_wide.2 (HS1.out _))).mono ?_; rintro e w' ⟨rfl, hw3⟩)
          | (gi_at_call 50; refine (CallsIn.inRound l (callsIn_wide.2 (HS1.out _))).mono ?_; rintro e w' ⟨rfl, hw3⟩))
          refine ⟨HP.at _ (.deferred (some [])) :: HP.blk w.heap.size #[.slice none 0 0] 22 :: HP.blk (w.heap.size + 1) #[.int .i64 2] 25 :: [HP.blk W2.heap.size (P.map Value.string).toArray 9, HP.blk (w.heap.size + 1 + 1 + 1) #[.string r'] 9, HP.blk (w.heap.size + 1 + 1) #[.slice va acc.length vc] 22, HP.arr 47 5 (.slice va acc.length vc) acc.length (rowsC acc)], ?_, _, rfl, rfl, ?_, _, rfl⟩
          · exact St.eq (A := LB) (HX.out.perm (by simp [HP.big]; ac_rfl)) HLB.out.symm
          · rw [HSTEP.out, HROW.out]
            cases rowOf P <;> simp [hacc]
      · have H3 := HW2.out.allocRow (P.map Value.string).toArray 9
        have c2 := St.cells1 (H3.front 6)
        have f2 := St.frozen (H3.front 6) 0
        have c3 := St.cells1 (H3.front 7)
        have f3 := St.frozen (H3.front 7) 0
        have h5' : ((P.length : Int) != 5) = true := by simp; omega
        have HX := Lib.hid (St.set ((St.set (H3.front 6) 0 (.slice none 0 0)).front 7) 0 (.int .i64 2))
        clear H3
        gi_wp2_with (first
          | (refine ⟨trivial, ?_⟩; gi_at_call 51; refine (CallsIn.inRound l (callsIn_wide.2 (HT1.out _))).mono ?_; rintro e w' ⟨rfl, rfl⟩)
          | (gi_at_call 51; refine (CallsIn.inRound l (callsIn_wide.2 (HT1.out _))).mono ?_; rintro e w' ⟨rfl, rfl⟩)
          | (refine ⟨trivial, ?_⟩; gi_at_call 50; refine (CallsIn.inRound l (callsIn_wide.2 (HS1.out _))).mono ?_; rintro e w' ⟨rfl, hw3⟩)
          | (gi_at_call 50; refine (CallsIn.inRound l (callsIn_wide.2 (HS1.out _))).mono ?_; rintro e w' ⟨rfl, hw3⟩))
        refine ⟨HP.at _ (.deferred (some [])) :: HP.blk w.heap.size #[.slice none 0 0] 22 :: HP.blk (w.heap.size + 1) #[.int .i64 2] 25 :: [HP.blk W2.heap.size (P.map Value.string).toArray 9, HP.blk (w.heap.size + 1 + 1 + 1) #[.string r'] 9, HP.blk (w.heap.size + 1 + 1) #[v] 22, HP.arr 47 5 v acc.length (rowsC acc)], ?_, _, rfl, rfl, ?_, _, rfl⟩
        · exact St.eq (A := LB) (HX.out.perm (by simp [HP.big]; ac_rfl)) HLB.out.symm
        · rw [HSTEP.out, HROW.out, rowOf_not h5]
  case stop =>
    rintro D c R W ⟨rfl, hnone, R', rfl⟩ hW
    have hW2 := hW.putL (.deferred none)
    have hp : parseP s = none := by unfold parseP; rw [hnone]
    have HK := Lib.hid hW
    have HW2 := Lib.hid hW2
    have HP' := Lib.hid hp
    clear hW hW2 hp hnone
    gi_wp2
    refine ⟨by simp, .inl ⟨_, _, rfl, run_takeDeferred HK.out.block.2, ?_⟩⟩
    refine ⟨_, results_cells2 rfl rfl rfl (run_loadVar_slice _ (St.cells1 (HW2.out.front 1))) (run_loadVar_errno _ (St.cells1 (HW2.out.front 2))), ?_⟩
    unfold parsePost
    rw [HP'.out]
    exact ⟨rfl, HW2.out.below⟩
  case done =>
    rintro D R W ⟨R', rfl, acc, v, rfl, hwf, h200, hp, _⟩ hW
    have hpl : parseL s = some acc := hp
    obtain ⟨va, vc, rfl⟩ := (HP.arr_reads (hW.front 3)).form
    have hRA : Hid (RowsAt W (.slice va acc.length vc) acc) := Lib.hid (HP.arr_reads (hW.front 3))
    have c4 := St.cells1 (hW.front 2)
    have HW := Lib.hid hW
    have HWF := Lib.hid hwf
    have HPL := Lib.hid hpl
    have cP : Hid (∀ w1, RowsAt w1 (.slice va acc.length vc) acc → Calls Tryz.prog 47 #[.slice va acc.length vc] w1 fun e w' => e = .returned (.bool (isProfB acc)) ∧ Below w1.heap.size w1 w') := Lib.hid fun w1 h1 => isProfile_any w1 va vc acc hwf (by omega) h1
    clear hW hp hpl hwf
    by_cases hpr : isProfB acc = true
    · have hshort : Short acc := ⟨by omega, fun r hr => Nat.le_trans ((isProfB_len hpr).2 r hr) (by decide)⟩
      have cX : Hid (∀ w1, Pow10 w1 → RowsAt w1 (.slice va acc.length vc) acc → Calls Tryz.prog 48 #[.slice va acc.length vc] w1 fun e w' => e = .returned (.string ⟨(textL acc).toArray⟩) ∧ Below w1.heap.size w1 w') := Lib.hid fun w1 h1 h2 => text_any w1 va vc acc HWF.out hshort h1 h2
      rw [hpr] at cP
      have HPR := Lib.hid hpr
      clear hpr hshort
      by_cases hts : (⟨(textL acc).toArray⟩ : ByteArray) = s
      · have HTS : Hid (textL acc = s.data.toList) := Lib.hid (by rw [← hts])
        rw [hts] at cX
        clear hts
        gi_wp2_with (first
          | (refine ⟨trivial, ?_⟩; gi_at_call 47; refine (callsIn_wide.2 (cP.out _ hRA.out)).mono ?_; rintro e w4 ⟨rfl, hb4⟩; have HG := Lib.hid (HW.out.grow hb4); have d4 := St.cells1 (HG.out.front 2))
          | (refine ⟨trivial, ?_⟩; gi_at_call 48; refine (callsIn_wide.2 (cX.out _ (HT.out.grow HG.out.below) (HP.arr_reads (HG.out.front 3)))).mono ?_; rintro e w5 ⟨rfl, hb5⟩; have HG5 := Lib.hid (HG.out.grow hb5); have e4 := St.cells1 (HG5.out.front 2); have c2 := St.cells1 (HG5.out.front 4); have f2 := St.frozen (HG5.out.front 4) 0; have c3 := St.cells1 (HG5.out.front 5); have f3 := St.frozen (HG5.out.front 5) 0))
        have HX := Lib.hid (((St.set ((St.set (HG5.out.front 4) 0 (.slice va acc.length vc)).front 5) 0 (.int .i64 0)).perm (L' := HP.at D (.deferred (some [])) :: HP.blk w.heap.size #[.slice va acc.length vc] 22 :: HP.blk (w.heap.size + 1) #[.int .i64 0] 25 :: HP.blk (w.heap.size + 1 + 1 + 1) #[.string ByteArray.empty] 9 :: HP.blk (w.heap.size + 1 + 1) #[.slice va acc.length vc] 22 :: HP.arr 47 5 (.slice va acc.length vc) acc.length (rowsC acc) :: []) (by simp [HP.big]; ac_rfl)))
        have HY := Lib.hid (HX.out.putL (.deferred none))
        refine ⟨by simp, .inl ⟨_, _, rfl, run_takeDeferred HX.out.block.2, ?_⟩⟩
        refine ⟨_, results_cells2 rfl rfl rfl (run_loadVar_slice _ (St.cells1 (HY.out.front 1))) (run_loadVar_errno _ (St.cells1 (HY.out.front 2))), ?_⟩
        unfold parsePost parseP
        rw [HPL.out]
        simp only [HPR.out, HTS.out, and_self, if_true]
        exact ⟨_, rfl, HWF.out, h200, HY.out.drop.drop.drop.drop.drop⟩
      · have HTS : Hid (¬ (isProfB acc = true ∧ textL acc = s.data.toList)) := Lib.hid (fun h => hts (by rw [h.2]))
        have hbl : (textL acc == s.toList) = false := beq_eq_false_iff_ne.2 fun h => hts (by rw [h, Lib.toList_data])
        clear hts
        gi_wp2_with (first
          | (refine ⟨trivial, ?_⟩; gi_at_call 47; refine (callsIn_wide.2 (cP.out _ hRA.out)).mono ?_; rintro e w4 ⟨rfl, hb4⟩; have HG := Lib.hid (HW.out.grow hb4); have d4 := St.cells1 (HG.out.front 2))
          | (refine ⟨trivial, ?_⟩; gi_at_call 48; refine (callsIn_wide.2 (cX.out _ (HT.out.grow HG.out.below) (HP.arr_reads (HG.out.front 3)))).mono ?_; rintro e w5 ⟨rfl, hb5⟩; have HG5 := Lib.hid (HG.out.grow hb5); have e4 := St.cells1 (HG5.out.front 2); have c2 := St.cells1 (HG5.out.front 4); have f2 := St.frozen (HG5.out.front 4) 0; have c3 := St.cells1 (HG5.out.front 5); have f3 := St.frozen (HG5.out.front 5) 0))
        have HX := Lib.hid (((St.set ((St.set (HG5.out.front 4) 0 (.slice none 0 0)).front 5) 0 (.int .i64 2)).perm (L' := HP.at D (.deferred (some [])) :: HP.blk w.heap.size #[.slice none 0 0] 22 :: HP.blk (w.heap.size + 1) #[.int .i64 2] 25 :: HP.blk (w.heap.size + 1 + 1 + 1) #[.string ByteArray.empty] 9 :: HP.blk (w.heap.size + 1 + 1) #[.slice va acc.length vc] 22 :: HP.arr 47 5 (.slice va acc.length vc) acc.length (rowsC acc) :: []) (by simp [HP.big]; ac_rfl)))
        have HY := Lib.hid (HX.out.putL (.deferred none))
        refine ⟨by simp, .inl ⟨_, _, rfl, run_takeDeferred HX.out.block.2, ?_⟩⟩
        refine ⟨_, results_cells2 rfl rfl rfl (run_loadVar_slice _ (St.cells1 (HY.out.front 1))) (run_loadVar_errno _ (St.cells1 (HY.out.front 2))), ?_⟩
        unfold parsePost parseP
        rw [HPL.out]
        simp only [if_neg HTS.out]
        exact ⟨trivial, HY.out.below⟩
    · have HTS : Hid (¬ (isProfB acc = true ∧ textL acc = s.data.toList)) := Lib.hid (fun h => hpr h.1)
      rw [Bool.not_eq_true] at hpr
      rw [hpr] at cP
      clear hpr
      gi_wp2_with (refine ⟨trivial, ?_⟩; gi_at_call 47; refine (callsIn_wide.2 (cP.out _ hRA.out)).mono ?_; rintro e w4 ⟨rfl, hb4⟩; have HG := Lib.hid (HW.out.grow hb4); have d4 := St.cells1 (HG.out.front 2); have c2 := St.cells1 (HG.out.front 4); have f2 := St.frozen (HG.out.front 4) 0; have c3 := St.cells1 (HG.out.front 5); have f3 := St.frozen (HG.out.front 5) 0)
      refine ⟨trivial, ?_⟩
      gi_wp2
      have HX := Lib.hid (((St.set ((St.set (HG.out.front 4) 0 (.slice none 0 0)).front 5) 0 (.int .i64 2)).perm (L' := HP.at D (.deferred (some [])) :: HP.blk w.heap.size #[.slice none 0 0] 22 :: HP.blk (w.heap.size + 1) #[.int .i64 2] 25 :: HP.blk (w.heap.size + 1 + 1 + 1) #[.string ByteArray.empty] 9 :: HP.blk (w.heap.size + 1 + 1) #[.slice va acc.length vc] 22 :: HP.arr 47 5 (.slice va acc.length vc) acc.length (rowsC acc) :: []) (by simp [HP.big]; ac_rfl)))
      have HY := Lib.hid (HX.out.putL (.deferred none))
      refine ⟨by simp, .inl ⟨_, _, rfl, run_takeDeferred HX.out.block.2, ?_⟩⟩
      refine ⟨_, results_cells2 rfl rfl rfl (run_loadVar_slice _ (St.cells1 (HY.out.front 1))) (run_loadVar_errno _ (St.cells1 (HY.out.front 2))), ?_⟩
      unfold parsePost parseP
      rw [HPL.out]
      simp only [if_neg HTS.out]
      exact ⟨trivial, HY.out.below⟩
end Go.Proofs.YtcihbmifogfdpaaGreatDoor

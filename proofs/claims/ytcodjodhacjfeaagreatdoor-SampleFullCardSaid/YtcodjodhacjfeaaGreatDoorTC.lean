/-
  Several texts in one: ParA, Rnd, T10, T9, T11.
-/
import Derived.Test.YtcodjodhacjfeaaGreatDoorPar
import Derived.RangeFuncKeeps
import Derived.RangeFuncCalls
import Derived.RangeFuncLeaves
import Derived.OrdersIn
import Derived.Test.YtcodjodhacjfeaaGreatDoorTB
import Derived.TacticsInMore
import Derived.LoopIn
import Derived.Lib.IndexLaws
import Derived.OwnWalkIn
/-! A region that draws its order, walked once, as 'wpAny' (for rounds of a range over a function). -/
section
namespace Go.Proofs.YtcodjodhacjfeaaGreatDoor
open Go.RowKit
section
variable {P : Program} {w0 : World}
theorem wpAny_par0 {Q : Exit → Act → World → Prop} {a : Act} {w : World} {l : List Oper} (n0 stop : Nat) (fin : List Nat) (T0 R : List HP) (es : List (Nat × List Nat)) (ph : Nat → Value → Prop) (gv : Nat → Value → HP)
    (hC : parC l es n0 stop = true) (hn : T0.length = n0) (hf : finL es n0 stop = fin)
    (hs : St w0 (T0 ++ R) w)
    (h : wpPar P l.toArray w0 R T0 es ph gv (fun a' vs => ∀ w', St w0 (fin.map (tokA T0 gv vs) ++ R) w' → wpList P l.toArray Q (l.drop stop) a' w') stop 0 a (fun _ => undef)) : wpAny P .any l.toArray Q l.toArray.size (Array.replicate l.toArray.size false) a { w with drawn := w.drawn + 1 } := by
  subst hn
  subst hf
  simp only [parC, Bool.and_eq_true, decide_eq_true_eq] at hC
  obtain ⟨⟨⟨⟨⟨⟨⟨hsel, hlex⟩, hB⟩, hb⟩, hT⟩, hst⟩, hkey⟩, hseq⟩ := hC
  have hst' : stop ≤ l.toArray.size := by simpa using hst
  have hs' : St w0 (T0 ++ R) { w with drawn := w.drawn + 1 } := hs.drew
  have main := wpAnyP_lex (md := .any) (G := T0) hT hst' (hs'.perm (L' := R ++ T0) (by simp only [HP.big_append]; ac_rfl)) hB hsel stop 0 (Array.replicate l.length false) a (fun _ => undef) (by omega) Closed.start hlex h
  have start : St w0 (tokS l.toArray T0 es gv (Array.replicate l.length false) (fun _ => undef) :: R) { w with drawn := w.drawn + 1 } := by
    have e : tokS l.toArray T0 es gv (Array.replicate l.length false) (fun _ => undef) = HP.big T0 := by
      have hl : ∀ t, liveB es T0.length (Array.replicate l.length false) t = decide (t < T0.length) := fun t => by
        unfold liveB
        have hr : ∀ q, (Array.replicate l.length false).getD q false = false := fun q => by
          by_cases hq : q < l.length
          · simp [hq]
          · simp [hq]
        simp [hr]
      unfold tokS
      rw [stars_ext (B := fun t => if decide (t < T0.length) then tokA T0 gv (fun _ => undef) t else HP.emp) (fun t _ => by rw [hl t]), stars_filter]
      have e2 : (List.range (T0.length + l.toArray.size)).filter (fun t => decide (t < T0.length)) = List.range T0.length := by
        rw [List.range_add, List.filter_append]
        rw [List.filter_eq_self.2 (fun t ht => by simpa using ht), List.filter_eq_nil_iff.2 (fun t ht => by
          obtain ⟨x, _, rfl⟩ := List.mem_map.1 ht
          simp), List.append_nil]
      rw [e2]
      congr 1
      refine List.ext_getElem? fun i => ?_
      rw [List.getElem?_map]
      by_cases hi : i < T0.length
      · rw [List.getElem?_range hi, Option.map_some]
        unfold tokA
        rw [if_pos hi, List.getElem?_eq_getElem hi, List.getD_eq_getElem?_getD, List.getElem?_eq_getElem hi]
        rfl
      · rw [List.getElem?_eq_none (by simpa using hi), List.getElem?_eq_none (by simpa using hi)]
        rfl
    rw [e]
    exact hs'.perm (by simp only [HP.big, HP.big_append])
  suffices ∀ (fuel : Nat) (listed : Array Bool) (a : Act) (vs : Nat → Value) (w : World), listed.size = l.length → (∀ j, stop ≤ j → listed.getD j false = false) → Closed .any l.toArray listed → St w0 (tokS l.toArray T0 es gv listed vs :: R) w →
      wpAnyP P l.toArray w0 R T0 es ph gv .any stop (fun a' vs => ∀ w', St w0 ((finL es T0.length stop).map (tokA T0 gv vs) ++ R) w' → wpList P l.toArray Q (l.drop stop) a' w') fuel listed a vs → wpAny P .any l.toArray Q (fuel + (l.length - stop)) listed a w by
    have := this _ _ _ _ _ (by simp) (fun j _ => getD_replicate_false _ _) Closed.start start main
    rw [show stop + (l.length - stop) = l.toArray.size by simp; omega] at this
    simpa using this
  have hkeys := (parB_spec hB).1
  have hks : ∀ i c, eatsOf es i = some c → i < stop := fun i c hc => by
    have := List.all_eq_true.1 hkey _ (mem_of_eats hc)
    simpa using this
  clear main start h hs hs' hlex
  intro fuel
  induction fuel with
  | zero =>
    intro listed a vs w hz hno hcl hst2 h
    have hall := all_listed hb (by simpa using hz) h.1 hst' stop
    have hL : listed = (List.replicate stop true ++ List.replicate (l.length - stop) false).toArray := by
      refine Array.ext (by simp [hz]; omega) fun i h1 h2 => ?_
      by_cases hi : i < stop
      · have := hall i hi hi
        simp [h1] at this
        simp [hi, this]
      · have := hno i (by omega)
        simp [h1] at this
        simp [hi, List.getElem_append, this]
    rw [Nat.zero_add]
    rw [← hL] at hseq
    have hw := h.2 w (hst2.perm ?_)
    · have := wpAny_of_seq (md := .any) (Q' := Q) (l.drop stop) stop listed a w (fun j => by simp [List.getElem?_drop]) (by simpa using hseq) hw
      simpa using this
    · have hl : ∀ t, liveB es T0.length listed t = ((decide (t < T0.length) || (eatsOf es (t - T0.length)).isSome) && es.all fun p => !p.2.contains t) := fun t => by
        unfold liveB
        congr 1
        · congr 1
          cases he : eatsOf es (t - T0.length) with
          | none => rfl
          | some c =>
            have h1 := hks _ _ he
            rw [hall _ h1 h1]
            rfl
        · rw [Bool.eq_iff_iff, List.all_eq_true, List.all_eq_true]
          have hp : ∀ p ∈ es, listed.getD p.1 false = true := fun p hp => by
            have h1 : p.1 < stop := by have := List.all_eq_true.1 hkey p hp; simpa using this
            exact hall _ h1 h1
          constructor
          · intro h p h1
            have := h p h1
            rwa [hp p h1, Bool.true_and] at this
          · intro h p h1
            rw [hp p h1, Bool.true_and]
            exact h p h1
      have hcut : (List.range (T0.length + l.toArray.size)).filter (fun t => (decide (t < T0.length) || (eatsOf es (t - T0.length)).isSome) && es.all fun p => !p.2.contains t) = finL es T0.length stop := by
        unfold finL
        rw [show T0.length + l.toArray.size = (T0.length + stop) + (l.length - stop) by simp; omega, List.range_add (n := T0.length + stop), List.filter_append]
        refine (congrArg _ (List.filter_eq_nil_iff.2 fun t ht => ?_)).trans (List.append_nil _)
        obtain ⟨x, _, rfl⟩ := List.mem_map.1 ht
        have h1 : eatsOf es (T0.length + stop + x - T0.length) = none := by
          cases he : eatsOf es (T0.length + stop + x - T0.length) with
          | none => rfl
          | some c => have := hks _ _ he; omega
        have h2 : ¬ (T0.length + stop + x < T0.length) := by omega
        simp [h1, h2]
      unfold tokS
      rw [HP.big, stars_ext (B := fun t => if (decide (t < T0.length) || (eatsOf es (t - T0.length)).isSome) && (es.all fun p => !p.2.contains t) then tokA T0 gv vs t else HP.emp) (fun t _ => by rw [hl t]), stars_filter, hcut, HP.big_append]
  | succ fuel ih =>
    intro listed a vs w hz hno hcl hst2 h
    rw [show fuel + 1 + (l.length - stop) = (fuel + (l.length - stop)) + 1 by omega]
    refine ⟨fun h0 => absurd h0 h.1, fun i hi => ?_⟩
    obtain ⟨his, h2⟩ := h.2 i hi
    have nxt := fun a' vs' w' => ih (listed.setIfInBounds i true) a' vs' w' (by simpa using hz) (fun j hj => by rw [getD_set_ne false (by omega)]; exact hno j hj) (hcl.set hi)
    unfold parOp at h2
    unfold wpOp
    obtain ⟨_, o, ho, _⟩ := mem_ready.1 hi
    simp only [ho] at h2 ⊢
    cases hc : eatsOf es i with
    | some c =>
      simp only [hc] at h2
      obtain ⟨_, hsp, hK⟩ := h2
      obtain ⟨⟨o', ho', hg, _⟩, _⟩ := (parB_spec hB).2 i c (mem_of_eats hc)
      rw [ho] at ho'
      cases ho'
      have hw : Region.wanted o (yielded l.toArray a.tmps) = true := by simp [Region.wanted, hg]
      rw [if_pos hw]
      obtain ⟨r, e1, e2⟩ := tokS_eat (gv := gv) (vs := vs) hB hc hcl hi
      refine .inl (effUpon_wp (fun v w' hp => ?_) (hsp [r] w ?_))
      · refine nxt _ _ _ ?_ (hK v hp.1)
        rw [e2]
        exact hp.2.perm (by simp only [HP.big, HP.big_append]; ac_rfl)
      · rw [e1] at hst2
        exact hst2.perm (by simp only [HP.big, HP.big_append]; ac_rfl)
    | none =>
      simp only [hc] at h2
      by_cases hw : Region.wanted o (yielded l.toArray a.tmps) = true
      · simp only [hw, if_true] at h2 ⊢
        obtain ⟨v, h3, hK⟩ := h2
        refine .inl (pureUpon_wp (nxt _ _ _ ?_ hK) (h3 [tokS l.toArray T0 es gv listed vs] w ?_))
        · rw [tokS_still hc hkeys]; exact hst2
        · exact hst2.perm (by simp only [HP.big, HP.big_append]; ac_rfl)
      · simp only [hw] at h2 ⊢
        exact nxt _ _ _ (by rw [tokS_still hc hkeys]; exact hst2) h2

theorem wpAny_par {Q : Exit → Act → World → Prop} {a : Act} {w : World} {l : List Oper} (n0 stop : Nat) (fin : List Nat) (T0 R : List HP) (es : List (Nat × List Nat)) (ph : Nat → Value → Prop) (gv : Nat → Value → HP)
    (hC : parC l es n0 stop = true) (hn : T0.length = n0) (hf : finL es n0 stop = fin)
    (hs : St w0 (T0 ++ R) w)
    (h : wpParL P l.toArray w0 R T0 es ph gv (fun a' vs => ∀ w', St w0 (fin.map (tokA T0 gv vs) ++ R) w' → wpList P l.toArray Q (l.drop stop) a' w') (l.take stop) 0 a (fun _ => undef)) : wpAny P .any l.toArray Q l.toArray.size (Array.replicate l.toArray.size false) a { w with drawn := w.drawn + 1 } := by
  have hst : stop ≤ l.length := by
    simp only [parC, Bool.and_eq_true, decide_eq_true_eq] at hC
    exact hC.1.1.2
  refine wpAny_par0 n0 stop fin T0 R es ph gv hC hn hf hs ?_
  have := wpPar_of_list (fun j hj => ?_) h
  · rwa [show (l.take stop).length = stop by simp; omega] at this
  · have : j < stop := by simp at hj; omega
    simp [this]
end
end Go.Proofs.YtcodjodhacjfeaaGreatDoor
end

/-! Walks in a round of a range over a function, out of walks outside of one; the range itself, over memory told by assertions. -/
section
namespace Go.Proofs.YtcodjodhacjfeaaGreatDoor
open Go.RowKit

section
variable {P : Program} {l n : Nat} {Q : Exit → Act → World → Prop}
theorem opIn_of {o : Oper} {a : Act} {w : World} {K : Act → World → Prop} (hd : ∀ c, o.op ≠ .defer c) (h : o.wp P a w K Q) : o.wpIn (Fence.wide.inRound l) n P a w K Q := by
  refine ⟨fun _ _ => trivial, ?_⟩
  rw [Oper.semAt_eq _ _ _ hd]
  unfold Oper.wp at h
  generalize (execOp a.eval o).run P w = r at h
  cases r with
  | ok x w' =>
    cases x with
    | value v => exact h
    | skip => exact h
    | defer d => exact h
    | enter f args =>
      refine ⟨fun h => (by cases h), ?_⟩
      refine CallsIn.mono (CallsIn.inRound l (callsIn_wide.2 h)) ?_
      intro e w'' h2
      cases e <;> exact h2
    | row r args =>
      refine ⟨fun h => (by cases h), fun c cs _ => ?_⟩
      obtain ⟨v, w2, h1, h2⟩ := h c cs
      exact ⟨v, w2, h1, stepsIn_wide.2 h2⟩
    | _ => exact h.elim
  | halt x w' =>
    cases x <;> exact h
theorem wpListIn_of {ops : Array Oper} (hQ : ¬ LetsOut Q) : ∀ {rest : List Oper} {a : Act} {w : World}, (∀ o ∈ rest, ∀ c, o.op ≠ .defer c) → wpList P ops Q rest a w → wpListIn (Fence.wide.inRound l) n P ops Q rest a w
  | [], a, w, _, h => h
  | o :: rest, a, w, hd, h => by
    unfold wpListIn
    unfold wpList at h
    split
    · rename_i hw
      rw [if_pos hw] at h
      rcases h with h | h
      · exact Oper.wpIn_mono (fun a w h => wpListIn_of hQ (fun o ho => hd o (List.mem_cons_of_mem _ ho)) h) (opIn_of (hd o (List.mem_cons_self ..)) h)
      · exact absurd h.2 hQ
    · rename_i hw
      rw [if_neg hw] at h
      exact ⟨fun _ _ => trivial, wpListIn_of hQ (fun o ho => hd o (List.mem_cons_of_mem _ ho)) h⟩
theorem wpAnyIn_of {ops : Array Oper} {md : Region.Mode} (hd : ∀ o ∈ ops.toList, ∀ c, o.op ≠ .defer c) (hQ : ¬ LetsOut Q) : ∀ {f : Nat} {listed : Array Bool} {a : Act} {w : World}, wpAny P md ops Q f listed a w → wpAnyIn (Fence.wide.inRound l) n P md ops Q f listed a w
  | 0, _, _, _, h => h
  | f + 1, listed, a, w, h => by
    refine ⟨h.1, fun i hi => ?_⟩
    have h2 := h.2 i hi
    unfold wpOp at h2
    unfold wpOpIn
    split
    · rename_i h0; rw [h0] at h2; exact wpAnyIn_of hd hQ h2
    · rename_i o ho
      rw [ho] at h2
      simp only at h2
      split
      · rename_i hw
        rw [if_pos hw] at h2
        have hm : o ∈ ops.toList := by
          have := Array.mem_of_getElem? ho
          simpa using this
        rcases h2 with h2 | h2
        · exact Oper.wpIn_mono (fun a w h => wpAnyIn_of hd hQ h) (opIn_of (hd o hm) h2)
        · exact absurd h2.2 hQ
      · rename_i hw
        rw [if_neg hw] at h2
        exact ⟨fun _ _ => trivial, wpAnyIn_of hd hQ h2⟩
end

section
variable {P : Program} {F : Fence} {m n : Nat} {w0 : World}
/-- the loop's record -/
abbrev recL (fn : FuncId) (tmps : Array Value) (ps : Array Tmp) (assign body : Code) (D : Nat) (st : LoopState) (pe : Option Code) : Loop := { state := st, pending := pe, fn, tmps, params := ps, assign, body, defers := D }
theorem St.putL {L : List HP} {b : Nat} {o : Obj} {w : World} (h : St w0 (HP.at b o :: L) w) (o' : Obj) : St w0 (HP.at b o' :: L) (w.putObj b o') := by
  refine h.become ⟨rfl, rfl, rfl, by simp [World.putObj], fun k hk => ?_⟩ ?_ (fun k hk _ => ?_)
  · have h1 := h.block.1
    exact World.putObj_heap_other (by omega)
  · exact World.putObj_heap_same (Array.getElem?_eq_some_iff.1 h.block.2).1
  · exact World.putObj_heap_other hk
/-- how a round's body may be left -/
def rndPost (w0 : World) (l : Nat) (rec : LoopState → Option Code → Loop) (N : List HP → Prop) (X : Code → List HP → Prop) : Exit → Act → World → Prop
  | .normal, _, W => ∃ R, St w0 (HP.at l (.loop (rec .busy none)) :: R) W ∧ N R
  | .ret, _, W => ∃ R, St w0 (HP.at l (.loop (rec .busy none)) :: R) W ∧ X .ret R
  | .exit id, _, W => ∃ R, St w0 (HP.at l (.loop (rec .busy none)) :: R) W ∧ X (.exit id) R
  | .goto t, _, W => ∃ R, St w0 (HP.at l (.loop (rec .busy none)) :: R) W ∧ X (.goto t) R
  | .panic _, _, _ => False
  | .outgrown, _, _ => False
/-- one round -/
theorem round_st {l : Nat} {fn : FuncId} {tmps : Array Value} {ps : Array Tmp} {assign body : Code} {D : Nat} {args : Array Value} {W : World} {R0 : List HP} {N : List HP → Prop} {X : Code → List HP → Prop} (a₁ : Act)
    (hfn : F.fn fn) (hs : St w0 (HP.at l (.loop (recL fn tmps ps assign body D .ready none)) :: R0) W) (hps : args.size = ps.size)
    (hassign : ∀ (K : Act → World → Prop), K a₁ W → assign.wpIn (F.inRound l) m P (Exit.then K (fun _ _ _ => False)) { tmps := (ps.zip args).foldl (fun t (p, v) => t.setIfInBounds p v) tmps, defers := [] } W)
    (hbody : ∀ W1, St w0 (HP.at l (.loop (recL fn tmps ps assign body D .busy none)) :: R0) W1 → body.wpIn (F.inRound l) m P (rndPost w0 l (recL fn tmps ps assign body D) N X) a₁ W1) :
    YieldAt F m P l args W fun e W' => (e = .returned (.bool true) ∧ ∃ R, St w0 (HP.at l (.loop (recL fn tmps ps assign body D .ready none)) :: R) W' ∧ N R) ∨
      (e = .returned (.bool false) ∧ ∃ c R, St w0 (HP.at l (.loop (recL fn tmps ps assign body D .done (some c))) :: R) W' ∧ X c R) := by
  have hl := hs.block.2
  have hy := run_yield (P := P) (args := args) hl hps
  refine ⟨fn, _, assign, body, hy, roundIn_of_wpIn hfn (hassign _ ⟨_, run_beginRound hl rfl, ?_⟩)⟩
  have h1 := hs.putL (.loop (recL fn tmps ps assign body D .busy none))
  refine wpIn_mono (hbody _ h1) ?_
  rintro e a3 W3 hp
  cases e with
  | normal =>
    obtain ⟨R, h2, h3⟩ := hp
    exact ⟨_, _, run_endRound none h2.block.2, .inl ⟨rfl, R, h2.putL _, h3⟩⟩
  | ret =>
    obtain ⟨R, h2, h3⟩ := hp
    exact ⟨_, _, run_endRound (some .ret) h2.block.2, .inr ⟨rfl, .ret, R, h2.putL _, h3⟩⟩
  | exit id =>
    obtain ⟨R, h2, h3⟩ := hp
    exact ⟨_, _, run_endRound (some (.exit id)) h2.block.2, .inr ⟨rfl, .exit id, R, h2.putL _, h3⟩⟩
  | goto t =>
    obtain ⟨R, h2, h3⟩ := hp
    exact ⟨_, _, run_endRound (some (.goto t)) h2.block.2, .inr ⟨rfl, .goto t, R, h2.putL _, h3⟩⟩
  | panic ch => exact hp.elim
  | outgrown => exact hp.elim

/-- the range: the iterator's call from the laid record on -/
theorem range_st {g : Operand} {ps : Array Tmp} {assign body : Code} {Q : Exit → Act → World → Prop} {a : Act} {w : World} {R0 : List HP} {N : List HP → Prop} {X : Code → List HP → Prop}
    (hro : F.round = none) (h1 : 1 ≤ n) {gf : Nat} {lb : Array Value} (hg : a.eval g = .func (.func gf) #[] lb) (hFg : F.fn gf) (eg : ∀ args w, (callFunc gf args).run P w = .ok (.enter gf args) w)
    (hs : St w0 R0 w)
    (hcall : ∀ (fn : FuncId) (l D : Nat) (W : World), F.fn fn → D = w.heap.size → St w0 (HP.at l (.loop (recL fn a.tmps ps assign body D .ready none)) :: HP.at D (.deferred (some [])) :: R0) W →
      CallsIn F (n - 1) P gf (#[.func (.yield l) #[] #[]] ++ lb) W fun e W' => (∃ v, e = .returned v) ∧
        ((∃ R, St w0 (HP.at l (.loop (recL fn a.tmps ps assign body D .ready none)) :: HP.at D (.deferred (some [])) :: R) W' ∧ N R) ∨
         (∃ c R, St w0 (HP.at l (.loop (recL fn a.tmps ps assign body D .done (some c))) :: HP.at D (.deferred (some [])) :: R) W' ∧ X c R)))
    (hdone : ∀ (D : Nat) (R : List HP) (W : World), N R → St w0 (HP.at D (.deferred (some [])) :: R) W → Q .normal { a with defers := { target := .collected D, args := #[] } :: a.defers } W)
    (hstop : ∀ (D : Nat) (c : Code) (R : List HP) (W : World), X c R → St w0 (HP.at D (.deferred (some [])) :: R) W → c.wpIn F n P Q { a with defers := { target := .collected D, args := #[] } :: a.defers } W) :
    (Code.rangeFunc g ps assign body).wpIn F n P Q a w := by
  refine wpIn_rangeFunc ?_
  intro fn hfn
  rw [hro]
  have h2 := (hs.alloc (.deferred (some [])))
  have h3 := h2.alloc (.loop (recL fn a.tmps ps assign body w.heap.size .ready none))
  rw [World.size_alloc] at h3
  have he := run_enterLoop_outer (P := P) (w := w) fn a.tmps ps assign body
  generalize hW1 : (w.alloc (.deferred (some []))).alloc (.loop { state := .ready, pending := none, fn, tmps := a.tmps, params := ps, assign, body, defers := w.heap.size }) = W1 at he h3
  refine ⟨w.heap.size + 1, [{ target := .collected w.heap.size, args := #[] }], W1, { target := .fn (.func gf) lb, args := #[.func (.yield (w.heap.size + 1)) #[] #[]] }, W1, gf,
    #[.func (.yield (w.heap.size + 1)) #[] #[]] ++ lb, W1, he, ?_, ?_, ?_, fun _ => h1, ?_⟩
  · simp only [resolve, hg]
    simp [go_sem]
  · intro f' hf'; simp [Target.leads] at hf'; subst hf'; exact hFg
  · simp [invoke, go_sem, eg]
  · refine (hcall fn _ _ _ hfn rfl h3).mono ?_
    rintro e W2 ⟨⟨v, rfl⟩, (⟨R, hR, hN⟩ | ⟨c, R, hR, hX⟩)⟩
    · exact ⟨none, _, run_endLoop hR.block.2 (by simp), hdone _ R _ hN (hR.putL (.loop { recL fn a.tmps ps assign body w.heap.size .ready none with state := .exhausted })).drop⟩
    · exact ⟨some c, _, run_endLoop hR.block.2 (by simp), hstop _ c R _ hX (hR.putL (.loop { recL fn a.tmps ps assign body w.heap.size .done (some c) with state := .exhausted })).drop⟩
end
end Go.Proofs.YtcodjodhacjfeaaGreatDoor
end

/-! strings.Lines: the iterator, round by round. -/
section
namespace Go.Proofs.YtcodjodhacjfeaaGreatDoor
open Go.RowKit

attribute [local go_sem] Oper.semAt_some

theorem indexByte_any (w : World) (s : ByteArray) (c : Int) :
    Calls Tryz.prog 83 #[.string s, .int .u8 c] w fun e w' => e = .returned (.int .i64 (Lib.indexByte s.data.toList c.toNat.toUInt8)) ∧ w' = w := Any.strings_IndexByte Tryz.lIndexByte s c w

/-- the first line, and what follows it -/
def cutL (r : ByteArray) : ByteArray × ByteArray :=
  let i := Lib.indexByte r.data.toList 10
  if 0 ≤ i then (r.extract 0 (i + 1).toNat, r.extract (i + 1).toNat r.size) else (r, ⟨#[]⟩)
def strSz : Option Value → Nat
  | some (.string s) => s.size
  | _ => 0

set_option maxRecDepth 100000 in
set_option maxHeartbeats 4000000 in
theorem lines_st {w0 : World} {n B l D : Nat} (hn : 1 ≤ n) (rec : LoopState → Option Code → Loop) (I : ByteArray → List HP → Prop) (X : Code → List HP → Prop)
    (hY : ∀ (r : ByteArray) (R : List HP) (W : World), 0 < r.size → I r R → St w0 (HP.at l (.loop (rec .ready none)) :: HP.at D (.deferred (some [])) :: HP.blk B #[.string (cutL r).2] 9 :: R) W →
      YieldAt Fence.wide (n - 1) Tryz.prog l #[.string (cutL r).1] W fun e W' =>
        (e = .returned (.bool true) ∧ ∃ R, St w0 (HP.at l (.loop (rec .ready none)) :: HP.at D (.deferred (some [])) :: HP.blk B #[.string (cutL r).2] 9 :: R) W' ∧ I (cutL r).2 R) ∨
        (e = .returned (.bool false) ∧ ∃ c R, St w0 (HP.at l (.loop (rec .done (some c))) :: HP.at D (.deferred (some [])) :: R) W' ∧ X c R))
    (s : ByteArray) (hs63 : s.size ≤ 9223372036854775807) (R0 : List HP) (W : World) (h0 : I s R0) (hs : St w0 (HP.at l (.loop (rec .ready none)) :: HP.at D (.deferred (some [])) :: HP.blk B #[.string s] 9 :: R0) W) :
    CallsIn Fence.wide n Tryz.prog 82 (#[.func (.yield l) #[] #[]] ++ #[.pointer (some ⟨B, 0, none⟩)]) W fun e W' => (∃ v, e = .returned v) ∧
      ((∃ R, St w0 (HP.at l (.loop (rec .ready none)) :: HP.at D (.deferred (some [])) :: R) W' ∧ ∃ R', R = HP.blk B #[.string ByteArray.empty] 9 :: R' ∧ I ByteArray.empty R') ∨
       (∃ c R, St w0 (HP.at l (.loop (rec .done (some c))) :: HP.at D (.deferred (some [])) :: R) W' ∧ X c R)) := by
  have HI := Lib.hid h0
  have HS := Lib.hid hs
  have HY := Lib.hid hY
  clear h0 hs hY
  refine callsIn_of_wp Tryz.func82 rfl trivial ?_ rfl
  simp only [Tryz.ntmps82, List.size_toArray, List.length_cons, List.length_nil, Nat.reduceAdd, Nat.reduceSub, Array.replicate_succ, Array.replicate_zero, List.push_toArray, List.append_toArray, List.nil_append, List.cons_append]
  gi_wp2
  gi_loopw [] (fun wr => ∃ r R, Hid (r.size ≤ s.size) ∧ Hid (I r R) ∧ Hid (St w0 (HP.at l (.loop (rec .ready none)) :: HP.at D (.deferred (some [])) :: HP.blk B #[.string r] 9 :: R) wr)) (fun wr => strSz (wr.cell? ⟨B, 0, none⟩))
  case atStart => exact ⟨s, R0, Lib.hid (Nat.le_refl _), HI, HS⟩
  case round =>
    obtain ⟨r, R, hle, hI, hS⟩ := hrel
    have c0 := St.cells1 (hS.out.front 2)
    have f0 := St.frozen (hS.out.front 2) 0
    have hsz : strSz (wr.cell? ⟨B, 0, none⟩) = r.size := by rw [c0]; rfl
    by_cases hr : 0 < r.size
    · have hr' : (0 : Int) < (r.size : Int) := by omega
      obtain ⟨i, hi⟩ : ∃ i, Lib.indexByte r.data.toList 10 = i := ⟨_, rfl⟩
      have hidx : Hid (∀ w1, Calls Tryz.prog 83 #[.string r, .int .u8 10] w1 fun e w' => e = .returned (.int .i64 i) ∧ w1 = w') := Lib.hid fun w1 => (indexByte_any w1 r 10).mono fun e w' ⟨h1, h2⟩ => ⟨hi ▸ h1, h2.symm⟩
      by_cases h0i : 0 ≤ i
      · have hlt : i < r.size := by
          obtain ⟨o, rfl⟩ : ∃ o : Nat, i = o := ⟨i.toNat, by omega⟩
          have h9 := (List.getElem?_eq_some_iff.1 (Lib.indexByte_some hi).1).1
          rw [← Lib.size_eq] at h9
          omega
        have hi0 : 0 ≤ i + 1 := by omega
        have hi1 : i + 1 ≤ (r.size : Int) := by omega
        have hsm : (r.size : Int) ≤ 9223372036854775807 := by have := hle.out; omega
        have qw : IntKind.i64.wrap (i + 1) = i + 1 := IntWalk.i64_in _ (by omega)
        have hcut : Hid (cutL r = (r.extract 0 (i + 1).toNat, r.extract (i + 1).toNat r.size)) := Lib.hid (by unfold cutL; rw [hi]; simp [h0i])
        have hlt2 : Hid ((r.extract (i + 1).toNat r.size).size < r.size) := Lib.hid (by rw [ByteArray.size_extract]; omega)
        clear hi
        gi_wp2_with (first
          | (refine ⟨trivial, ?_⟩; gi_at_call 83; refine (callsIn_wide.2 (hidx.out _)).mono ?_; rintro e w' ⟨rfl, rfl⟩)
          | (gi_at_call 83; refine (callsIn_wide.2 (hidx.out _)).mono ?_; rintro e w' ⟨rfl, rfl⟩))
        refine wpIn_wide.2 ?_
        refine wp_region_par (w0 := w0) 0 9 [] [] (HP.at l (.loop (rec .ready none)) :: HP.at D (.deferred (some [])) :: HP.blk B #[.string r] 9 :: R) []
          (fun i v => True) (fun i v => HP.emp) (by kernel_rfl) (by kernel_rfl) rfl (by kernel_rfl) hS.out ?_
        simp only [List.take_succ_cons, List.take_zero, List.drop_succ_cons, List.drop_zero]
        iterate 9 (
          with_reducible refine wpPar_pure (by kernel_rfl) (fun K hK => ?_)
          go_simp
          apply Exists.intro
          refine ⟨fun G w1 h1 => ?_, hK _ ?_⟩
          (first
            | (with_reducible rfl)
            | (have c1 := St.cells1 (h1.front 2); go_simp; done)
            | (have c1 := St.cells1 (h1.front 2); go_simp; with_reducible rfl))
          clear hK K)
        refine wpPar_nil ?_
        intro w5 h5
        simp only [List.map_nil, List.nil_append] at h5
        have c5 := St.cells1 (h5.front 2)
        have f5 := St.frozen (h5.front 2) 0
        have H5 := Lib.hid (St.set (h5.front 2) 0 (.string (r.extract (i + 1).toNat r.size)))
        clear h5 c0 f0
        go_wp2_with fail
        obtain ⟨w6, hw6⟩ : ∃ w6, w5.setCell ⟨B, 0, none⟩ (.string (r.extract (i + 1).toNat r.size)) = w6 := ⟨_, rfl⟩
        rw [hw6] at H5 ⊢
        have h6 : St w0 (HP.at l (.loop (rec .ready none)) :: HP.at D (.deferred (some [])) :: HP.blk B #[.string (r.extract (i + 1).toNat r.size)] 9 :: R) w6 := H5.out.perm (by simp [HP.big]; ac_rfl)
        obtain ⟨fn, tmps, assign, body, hy, hR⟩ := HY.out r R w6 hr hI.out (by rw [hcut.out]; exact h6)
        rw [hcut.out] at hy hR
        dsimp only at hy
        gi_wp2
        refine hR.mono ?_
        rintro e W' (⟨rfl, R2, h7, h8⟩ | ⟨rfl, c, R2, h7, h8⟩)
        · have c7 := St.cells1 (h7.front 2)
          gi_wp2
          go_roundw
          case rel => exact ⟨_, R2, Lib.hid (by have := hlt2.out; have := hle.out; omega), Lib.hid h8, Lib.hid h7⟩
          case measure => rw [c7, hsz]; exact hlt2.out
        · gi_wp2
          refine bodyPost_ret (results_none rfl _ _ _) rfl ?_
          exact ⟨⟨_, rfl⟩, .inr ⟨c, R2, h7, h8⟩⟩
      · have hi9 : ¬ i ≥ 0 := h0i
        have hcut : Hid (cutL r = (r, ⟨#[]⟩)) := Lib.hid (by unfold cutL; rw [hi]; simp [h0i])
        have H5 := Lib.hid (St.set (hS.out.front 2) 0 (.string ⟨#[]⟩))
        have h6 : St w0 (HP.at l (.loop (rec .ready none)) :: HP.at D (.deferred (some [])) :: HP.blk B #[.string ⟨#[]⟩] 9 :: R) (wr.setCell ⟨B, 0, none⟩ (.string ⟨#[]⟩)) := H5.out.perm (by simp [HP.big]; ac_rfl)
        obtain ⟨fn, tmps, assign, body, hy, hR⟩ := HY.out r R _ hr hI.out (by rw [hcut.out]; exact h6)
        rw [hcut.out] at hy hR
        dsimp only at hy
        clear hi H5 h6
        gi_wp2_with (first
          | (refine ⟨trivial, ?_⟩; gi_at_call 83; refine (callsIn_wide.2 (hidx.out _)).mono ?_; rintro e w' ⟨rfl, rfl⟩)
          | (gi_at_call 83; refine (callsIn_wide.2 (hidx.out _)).mono ?_; rintro e w' ⟨rfl, rfl⟩))
        refine hR.mono ?_
        rintro e W' (⟨rfl, R2, h7, h8⟩ | ⟨rfl, c, R2, h7, h8⟩)
        · have c7 := St.cells1 (h7.front 2)
          gi_wp2
          go_roundw
          case rel => exact ⟨_, R2, Lib.hid (Nat.zero_le _), Lib.hid h8, Lib.hid h7⟩
          case measure => rw [c7, hsz]; exact hr
        · gi_wp2
          refine bodyPost_ret (results_none rfl _ _ _) rfl ?_
          exact ⟨⟨_, rfl⟩, .inr ⟨c, R2, h7, h8⟩⟩
    · have hr0 : ¬ (0 : Int) < (r.size : Int) := by omega
      gi_wp2
      go_end0
      obtain rfl : r = ByteArray.empty := ByteArray.size_eq_zero_iff.1 (by omega)
      exact ⟨⟨_, rfl⟩, .inl ⟨_, hS.out, R, rfl, hI.out⟩⟩
end Go.Proofs.YtcodjodhacjfeaaGreatDoor
end

/-! TrimSuffix, Split at a space, Atoi; what Parse makes of a line, and of a text. -/
section
namespace Go.Proofs.YtcodjodhacjfeaaGreatDoor
open Go.RowKit Go.Shelf

def trimN (s : ByteArray) : ByteArray := ⟨(Lib.trimSuffix s.data.toList [10]).toArray⟩
theorem trim_any (w : World) (s : ByteArray) (hs : s.size ≤ 9223372036854775807) :
    Calls Tryz.prog 51 #[.string s, .string ⟨#[10]⟩] w fun e w' => e = .returned (.string (trimN s)) ∧ w = w' :=
  (Any.strings_TrimSuffix Tryz.lTrim s ⟨#[10]⟩ w hs).mono fun _ _ ⟨h1, h2⟩ => ⟨h1, h2.symm⟩
theorem trimN_size (s : ByteArray) : (trimN s).size ≤ s.size := by
  have h : (Lib.trimSuffix s.data.toList [10]).length ≤ s.data.toList.length := by
    unfold Lib.trimSuffix
    split
    · simp
    · exact Nat.le_refl _
  exact h

/-- the pieces between spaces -/
def pieces (s : ByteArray) : List ByteArray := Lib.splitB ⟨#[32]⟩ 0 (Lib.countB s ⟨#[32]⟩) s
set_option maxHeartbeats 1000000 in
theorem split_any (w : World) (s : ByteArray) (hs : s.size < 4294967281) :
    Calls Tryz.prog 50 #[.string s, .string ⟨#[32]⟩] w fun e w' =>
      e = .returned (.slice (some ⟨w.heap.size, 0, none⟩) (pieces s).length (pieces s).length) ∧ w' = w.alloc (.cells ((pieces s).map Value.string).toArray 9) := by
  have h1 : 1 ≤ (⟨#[32]⟩ : ByteArray).size := by decide
  have hle := Lib.countB_le ⟨#[32]⟩ h1 s.size s (Nat.le_refl _)
  have hlen := Lib.splitB_all ⟨#[32]⟩ h1 0 _ s rfl
  have c := Any.strings_genSplit_core (ρ := Tryz.lSplit_ren) { Tryz.lSplit with } (by kernel_rfl) s ⟨#[32]⟩ 0 (-1) (Lib.countB s ⟨#[32]⟩ + 1) w hs h1 (Nat.zero_le _)
    (fun x cs _ => (Any.strings_Index_one (ρ := Tryz.lSplit_ren) { Tryz.lSplit with } x 32 _).mono fun e w' ⟨h2, h3⟩ => ⟨by rw [h2]; show _ = Ending.returned (Value.int .i64 (Lib.index x.data.toList [32])); rw [Lib.index_one], h3⟩)
    ((Any.strings_Count_one (ρ := Tryz.lSplit_ren) { Tryz.lSplit with } s 32 w).mono fun e w' ⟨h2, h3⟩ => ⟨by rw [h2]; show _ = Ending.returned (Value.int .i64 ((Lib.count s.data.toList [32] : Nat) : Int)); rw [Lib.count_one]; rfl, h3⟩)
    (by decide) (by decide) (by rw [if_pos (by decide)]; omega)
  rw [Nat.add_sub_cancel, hlen] at c
  have e2 : Lib.cellsOf (Lib.splitB ⟨#[32]⟩ 0 (Lib.countB s ⟨#[32]⟩) s) (Lib.countB s ⟨#[32]⟩ + 1) = ((Lib.splitB ⟨#[32]⟩ 0 (Lib.countB s ⟨#[32]⟩) s).map Value.string).toArray := by rw [← hlen]; exact Lib.cellsOf_full _
  rw [e2, ← hlen] at c
  go_enter Tryz.func50, Tryz.ntmps50
  go_wp2_with (go_at_call 84; refine c.mono ?_; rintro e w' ⟨rfl, hw⟩; rw [hw])
  go_ret
  refine ⟨?_, rfl⟩
  rw [show (pieces s).length = Lib.countB s ⟨#[32]⟩ + 1 from hlen]
  rfl

/-- strconv's two errors are there -/
structure Errs (w : World) : Prop where
  syn : ∃ ev, w.cell? ⟨Tryz.lAtoi_ren.g 15, 0, none⟩ = some ev ∧ (ev = .nilIface ∨ ∃ te pe, ev = .iface te pe)
  rng : ∃ ev, w.cell? ⟨Tryz.lAtoi_ren.g 16, 0, none⟩ = some ev ∧ (ev = .nilIface ∨ ∃ te pe, ev = .iface te pe)
theorem Errs.grow {w w' : World} (h : Errs w) (hb : Below w.heap.size w w') : Errs w' := by
  obtain ⟨⟨e1, h1, h2⟩, ⟨e2, h3, h4⟩⟩ := h
  exact ⟨⟨e1, by rw [hb.cell (World.block_lt_of_cell? _ _ h1)]; exact h1, h2⟩, ⟨e2, by rw [hb.cell (World.block_lt_of_cell? _ _ h3)]; exact h3, h4⟩⟩
/-- a number, if it is one -/
def atoiO (s : ByteArray) : Option Int := match Lib.atoiAll s.data.toList with
  | .ok v => some v
  | _ => none
theorem below_bytesWorld (w : World) (t : TypeId) (s : ByteArray) : Below w.heap.size w (Lib.bytesWorld w t s) :=
  Lib.below_freeze (((Below.refl _ w).drew).alloc (Nat.le_refl _) _) (p := ⟨w.heap.size, _, none⟩) (Nat.le_refl _) 1
theorem atoi_any (w : World) (s : ByteArray) (hs : s.size ≤ 281474976710656) (he : Errs w) :
    Calls Tryz.prog 52 #[.string s] w fun e w' => ∃ v x, e = .returned (.tuple #[.int .i64 v, x]) ∧ Below w.heap.size w w' ∧ ((atoiO s = some v ∧ i64r v ∧ x = .nilIface) ∨ (atoiO s = none ∧ ∃ t p, x = .iface t p)) := by
  rcases h : Lib.atoiAll s.data.toList with v | _ | _
  · refine (Any.strconv_Atoi_ok Tryz.lAtoi s (by omega) v h w).mono ?_
    rintro e w' ⟨rfl, h2⟩
    refine ⟨v, .nilIface, rfl, ?_, .inl ⟨by unfold atoiO; rw [h], ?_, rfl⟩⟩
    · rcases h2 with rfl | ⟨t, rfl⟩
      · exact Below.refl _ _
      · exact below_bytesWorld _ _ _
    · have := Lib.atoiAll_bounds h
      unfold i64r
      omega
  · obtain ⟨ev, h1, h2⟩ := he.syn
    refine (Any.strconv_Atoi_syntax Tryz.lAtoi s hs h ev w h1 h2).mono ?_
    rintro e w' ⟨N, rfl, _, _, hb⟩
    exact ⟨_, _, rfl, hb, .inr ⟨by unfold atoiO; rw [h], _, _, rfl⟩⟩
  · obtain ⟨ev, h1, h2⟩ := he.rng
    refine (Any.strconv_Atoi_range Tryz.lAtoi s hs h ev w h1 h2).mono ?_
    rintro e w' ⟨N, rfl, _, _, hb⟩
    exact ⟨_, _, rfl, hb, .inr ⟨by unfold atoiO; rw [h], _, _, rfl⟩⟩

/-- a row out of a line -/
def rowOf : List ByteArray → Option Rw
  | [s, p, q, t, u] => match atoiO p, atoiO q, atoiO t, atoiO u with
    | some a, some b, some c, some d => some ⟨s, a, b, c, d⟩
    | _, _, _, _ => none
  | _ => none
def lineRow (x : ByteArray) : Option Rw := rowOf (pieces (trimN x))
/-- the rows out of what is left of a text -/
def parseF : Nat → ByteArray → List Rw → Option (List Rw)
  | 0, _, acc => some acc
  | f + 1, r, acc => if r.size = 0 then some acc else match lineRow (cutL r).1 with
    | none => none
    | some x => if acc.length < 200 then parseF f (cutL r).2 (acc ++ [x]) else none
theorem cutL_size (r : ByteArray) (h : 0 < r.size) : (cutL r).2.size < r.size ∧ (cutL r).1.size ≤ r.size := by
  unfold cutL
  simp only
  split
  · simp only [ByteArray.size_extract]; omega
  · exact ⟨h, Nat.le_refl _⟩
theorem parseF_fuel : ∀ (f g : Nat) (r : ByteArray) (acc : List Rw), r.size ≤ f → r.size ≤ g → parseF f r acc = parseF g r acc
  | 0, 0, _, _, _, _ => rfl
  | 0, g + 1, r, acc, h, _ => by simp [parseF, show r.size = 0 by omega]
  | f + 1, 0, r, acc, _, h => by simp [parseF, show r.size = 0 by omega]
  | f + 1, g + 1, r, acc, h1, h2 => by
    unfold parseF
    by_cases hr : r.size = 0
    · simp [hr]
    · have h3 := (cutL_size r (by omega)).1
      simp only [hr, if_false]
      rw [show (fun x => if acc.length < 200 then parseF f (cutL r).2 (acc ++ [x]) else none) = (fun x => if acc.length < 200 then parseF g (cutL r).2 (acc ++ [x]) else none) from funext fun x => by rw [parseF_fuel f g _ _ (by omega) (by omega)]]
def parseL (s : ByteArray) : Option (List Rw) := parseF s.size s []
theorem parseF_step {r : ByteArray} {acc : List Rw} (hr : 0 < r.size) : parseF r.size r acc = match lineRow (cutL r).1 with
    | none => none
    | some x => if acc.length < 200 then parseF (cutL r).2.size (cutL r).2 (acc ++ [x]) else none := by
  obtain ⟨f, hf⟩ : ∃ f, r.size = f + 1 := ⟨r.size - 1, by omega⟩
  have h3 := (cutL_size r hr).1
  rw [hf]
  conv => lhs; unfold parseF
  simp only [show ¬ r.size = 0 by omega, if_false]
  cases lineRow (cutL r).1 with
  | none => rfl
  | some x => simp only; rw [parseF_fuel f (cutL r).2.size _ _ (by omega) (Nat.le_refl _)]
/-- what Parse makes of a text -/
def parseP (s : ByteArray) : Option (List Rw) := match parseL s with
  | some l => if isProfB l = true ∧ textL l = s.data.toList then some l else none
  | none => none
end Go.Proofs.YtcodjodhacjfeaaGreatDoor
end

/-! sample.Parse. -/
section
namespace Go.Proofs.YtcodjodhacjfeaaGreatDoor
open Go.RowKit
attribute [local go_sem] Oper.semAt_some

theorem lines_call (w : World) (s : ByteArray) :
    Calls Tryz.prog 49 #[.string s] w fun e w' => e = .returned (.func (.func 82) #[] #[.pointer (some ⟨w.heap.size, 0, none⟩)]) ∧ w' = w.alloc (.cells #[.string s] 9) := by
  go_enter Tryz.func49, Tryz.ntmps49
  go_wp2
  go_ret
  exact ⟨rfl, rfl⟩
/-- between two rounds -/
def parseI (s : ByteArray) (b2 b3 b4 : Nat) (r : ByteArray) (R : List HP) : Prop :=
  ∃ (acc : List Rw) (v : Value), R = [HP.blk b4 #[v] 32, HP.arr 63 5 v acc.length (rowsC acc), HP.blk b2 #[.slice none 0 0] 32, HP.blk b3 #[.int .i64 0] 25] ∧
    (∀ x ∈ acc, x.wf) ∧ acc.length ≤ 200 ∧ parseL s = parseF r.size r acc ∧ r.size ≤ s.size
/-- a round has refused -/
def parseX (s : ByteArray) (b2 b3 : Nat) (c : Code) (R : List HP) : Prop :=
  c = .ret ∧ parseL s = none ∧ ∃ R', R = HP.blk b2 #[.slice none 0 0] 32 :: HP.blk b3 #[.int .i64 2] 25 :: R'

theorem splitB_sizes (sep : ByteArray) : ∀ (k : Nat) (s : ByteArray), ∀ p ∈ Lib.splitB sep 0 k s, p.size ≤ s.size
  | 0, s, p, hp => by rw [Lib.splitB_zero, List.mem_singleton] at hp; rw [hp]; exact Nat.le_refl _
  | k + 1, s, p, hp => by
    by_cases h : Lib.indexB s sep = -1
    · rw [Lib.splitB_miss _ _ _ _ h, List.mem_singleton] at hp; rw [hp]; exact Nat.le_refl _
    · have hge := Lib.index_ge s.data.toList sep.data.toList
      obtain ⟨i, hi⟩ : ∃ i : Nat, Lib.indexB s sep = i := ⟨(Lib.indexB s sep).toNat, by have : -1 ≤ Lib.indexB s sep := hge; omega⟩
      rw [Lib.splitB_hit _ _ _ _ _ hi] at hp
      rcases List.mem_cons.1 hp with rfl | hp
      · rw [ByteArray.size_extract]; omega
      · have := splitB_sizes sep k _ p hp
        rw [ByteArray.size_extract] at this
        omega
theorem pieces_size (s : ByteArray) : ∀ p ∈ pieces s, p.size ≤ s.size := splitB_sizes _ _ s
/-- what Parse gives -/
def parsePost (w : World) (s : ByteArray) (e : Ending) (w' : World) : Prop := match parseP s with
  | some l => ∃ v, e = .returned (.tuple #[v, .int .i64 0]) ∧ (∀ r ∈ l, r.wf) ∧ l.length ≤ 200 ∧ St w [HP.arr 63 5 v l.length (rowsC l)] w'
  | none => e = .returned (.tuple #[.slice none 0 0, .int .i64 2]) ∧ Below w.heap.size w w'
theorem isProfB_len {l : List Rw} (h : isProfB l = true) : l.length ≤ 200 ∧ ∀ r ∈ l, r.site.size ≤ 16 := by
  unfold isProfB at h
  rw [Bool.and_eq_true, List.all_eq_true] at h
  refine ⟨of_decide_eq_true h.1, fun r hr => ?_⟩
  obtain ⟨k, hk, hkr⟩ := List.getElem_of_mem hr
  have h2 := h.2 k (List.mem_range.2 hk)
  rw [List.getElem?_eq_getElem hk, hkr] at h2
  simp only [rowOk, isSiteB, Bool.and_eq_true, decide_eq_true_eq] at h2
  exact h2.1.1.1.1.1.2
theorem ba_eq_of_beq {a b : ByteArray} (h : (a == b) = true) : a = b := by
  have h2 : (a.data == b.data) = true := h
  have h3 := eq_of_beq h2
  cases a; cases b; simp at h3; rw [h3]
theorem results_cells2 {P : Program} {w : World} {fn : Func} {p q : Tmp} {ty ty2 : TypeId} {tmps : Array Value} {a b : Addr} {v v2 : Value} (h : fn.results = #[.cell p ty, .cell q ty2]) (hp : tmps.getD p undef = .pointer (some a)) (hq : tmps.getD q undef = .pointer (some b))
    (h1 : (loadVar ty a).run P w = .ok v w) (h2 : (loadVar ty2 b).run P w = .ok v2 w) : (results fn tmps).run P w = .ok (.tuple #[v, v2]) w := by
  have hp' : tmps[p]?.getD undef = .pointer (some a) := by simpa using hp
  have hq' : tmps[q]?.getD undef = .pointer (some b) := by simpa using hq
  simp [results, h, hp', hq', asAddr, h1, h2]
theorem run_loadVar_slice (w : World) {b : Nat} {v : Value} (h : w.cell? ⟨b, 0, none⟩ = some v) : (loadVar 32 ⟨b, 0, none⟩).run Tryz.prog w = .ok v w := by
  go_simp
theorem run_loadVar_errno (w : World) {b : Nat} {v : Value} (h : w.cell? ⟨b, 0, none⟩ = some v) : (loadVar 25 ⟨b, 0, none⟩).run Tryz.prog w = .ok v w := by
  go_simp
def noDef (l : List Oper) : Bool := l.all fun o => match o.op with
  | .defer _ => false
  | _ => true
theorem noDef_spec {l : List Oper} (h : noDef l = true) : ∀ o ∈ l, ∀ c, o.op ≠ .defer c := by
  intro o ho c hc
  have := List.all_eq_true.1 h o ho
  rw [hc] at this
  cases this
theorem info_row : ∃ i : TypeInfo, Tryz.prog.info? 63 = some i ∧ i.zero = some (.agg #[.string ⟨#[]⟩, .int .i64 0, .int .i64 0, .int .i64 0, .int .i64 0]) ∧ i.size = 5 ∧ i.bytes = 48 := info_parts (show (Tryz.prog.info? 63).map (fun i => (i.zero, i.size, i.bytes)) = some (some (.agg #[.string ⟨#[]⟩, .int .i64 0, .int .i64 0, .int .i64 0, .int .i64 0]), 5, 48) by kernel_rfl)
theorem YieldAt.mono {F : Fence} {m : Nat} {P : Program} {l : Nat} {args : Array Value} {W : World} {R R' : Ending → World → Prop} (h : YieldAt F m P l args W R) (hr : ∀ e w', R e w' → R' e w') : YieldAt F m P l args W R' := by
  obtain ⟨fn, tmps, assign, body, hy, hR⟩ := h
  exact ⟨fn, tmps, assign, body, hy, hR.mono hr⟩
theorem rowOf_not {P : List ByteArray} (h : P.length ≠ 5) : rowOf P = none := by
  match P, h with
  | [], _ => rfl
  | [_], _ => rfl
  | [_, _], _ => rfl
  | [_, _, _], _ => rfl
  | [_, _, _, _], _ => rfl
  | [_, _, _, _, _], h => exact absurd rfl h
  | _ :: _ :: _ :: _ :: _ :: _ :: _, _ => rfl
theorem five {P : List ByteArray} (h : P.length = 5) : ∃ p0 p1 p2 p3 p4, P = [p0, p1, p2, p3, p4] := by
  match P, h with
  | [p0, p1, p2, p3, p4], _ => exact ⟨p0, p1, p2, p3, p4, rfl⟩

set_option maxRecDepth 100000 in
set_option maxHeartbeats 8000000 in
theorem parse_any (w : World) (s : ByteArray) (hs : s.size ≤ 4294967280) (he : Errs w) (ht : Pow10 w) :
    Calls Tryz.prog 31 #[.string s] w (parsePost w s) := by
  have HE := Lib.hid he
  have HT := Lib.hid ht
  clear he ht
  refine (callsIn_wide (n := 6)).1 ?_
  refine callsIn_of_wp_marks Tryz.func31 rfl trivial ?_ rfl
  simp only [Tryz.ntmps31, List.size_toArray, List.length_cons, List.length_nil, Nat.reduceAdd, Nat.reduceSub, Array.replicate_succ, Array.replicate_zero, List.push_toArray, List.append_toArray, List.nil_append, List.cons_append]
  gi_wp2_with (first
    | (refine ⟨trivial, ?_⟩; gi_at_call 49; refine (callsIn_wide.2 (lines_call _ _)).mono ?_; rintro e w' ⟨rfl, hw'⟩)
    | (gi_at_call 49; refine (callsIn_wide.2 (lines_call _ _)).mono ?_; rintro e w' ⟨rfl, hw'⟩))
  have hS : St w [HP.blk (w.heap.size + 1 + 1 + 1) #[.string s] 9, HP.blk (w.heap.size + 1 + 1) #[.slice none 0 0] 32, HP.blk (w.heap.size + 1) #[.int .i64 0] 25, HP.blk w.heap.size #[.slice none 0 0] 32] w' := by
    have h1 := (((St.start w).allocRow #[.slice none 0 0] 32).allocRow #[.int .i64 0] 25).allocRow #[.slice none 0 0] 32
    have h2 := h1.allocRow #[.string s] 9
    simp only [World.size_alloc] at h2
    rw [hw']
    exact h2
  have hS0 : St w (HP.blk (w.heap.size + 1 + 1 + 1) #[.string s] 9 :: [HP.blk (w.heap.size + 1 + 1) #[.slice none 0 0] 32, HP.arr 63 5 (.slice none 0 0) ([] : List Rw).length (rowsC []), HP.blk w.heap.size #[.slice none 0 0] 32, HP.blk (w.heap.size + 1) #[.int .i64 0] 25]) w' := by
    refine (hS.arr_nil 63 5).perm ?_
    simp only [HP.big, List.length_nil, rowsC, List.flatMap_nil]
    ac_rfl
  rw [← hw']
  clear hS hw'
  refine range_st (w0 := w) (R0 := _) (N := fun R => ∃ R', R = HP.blk (w.heap.size + 1 + 1 + 1) #[.string ByteArray.empty] 9 :: R' ∧ parseI s w.heap.size (w.heap.size + 1) (w.heap.size + 1 + 1) ByteArray.empty R') (X := parseX s w.heap.size (w.heap.size + 1)) rfl (by decide) rfl trivial (enters_of Tryz.func82 (by kernel_rfl) rfl) hS0 ?call ?done ?stop
  case call =>
    intro fn l D W hfn hD hW
    clear hD hfn
    refine lines_st (n := 5) (by decide) (recL fn _ _ _ _ D) (parseI s w.heap.size (w.heap.size + 1) (w.heap.size + 1 + 1)) (parseX s w.heap.size (w.heap.size + 1)) ?_ s (by omega) _ W ⟨[], _, rfl, by simp, by simp, rfl, Nat.le_refl _⟩ hW
    intro r R W1 hr hI hW1
    obtain ⟨acc, v, rfl, hwf, h200, hp, hrs⟩ := hI
    have hcs := cutL_size r hr
    have hstep := parseF_step (acc := acc) hr
    rw [← hp] at hstep
    generalize (cutL r).1 = x at *
    generalize (cutL r).2 = r' at *
    have HSTEP := Lib.hid hstep
    have HWF := Lib.hid hwf
    have htr := trimN_size x
    have cT := fun w1 => trim_any w1 x (by omega)
    have cS := fun w1 => split_any w1 (trimN x) (by omega)
    obtain ⟨P, hP⟩ : ∃ P, pieces (trimN x) = P := ⟨_, rfl⟩
    simp only [hP] at cS
    have HPS : Hid (∀ p ∈ P, p.size ≤ 4294967280) := Lib.hid (fun p hp' => by have := pieces_size (trimN x) p (hP ▸ hp'); omega)
    have HT1 := Lib.hid cT
    have HS1 := Lib.hid cS
    have HROW : Hid (lineRow x = rowOf P) := Lib.hid (by unfold lineRow; rw [hP])
    clear hstep hwf htr cT cS hP hp
    refine YieldAt.mono (round_st (w0 := w) (N := fun R => ∃ R', R = HP.at D (.deferred (some [])) :: HP.blk (w.heap.size + 1 + 1 + 1) #[.string r'] 9 :: R' ∧ parseI s w.heap.size (w.heap.size + 1) (w.heap.size + 1 + 1) r' R') (X := fun c R => ∃ R', R = HP.at D (.deferred (some [])) :: R' ∧ parseX s w.heap.size (w.heap.size + 1) c R') ?a1 trivial hW1 rfl ?assign ?body) ?post
    case post =>
      rintro e W' (⟨rfl, _, h1, R', rfl, h2⟩ | ⟨rfl, c, _, h1, R', rfl, h2⟩)
      · exact .inl ⟨rfl, R', h1, h2⟩
      · exact .inr ⟨rfl, c, R', h1, h2⟩
    case assign =>
      intro K hK
      gi_wp2
      exact hK
    case body =>
      intro W2 hW2
      generalize hLB : HP.at l _ = LB at hW2
      have HLB := Lib.hid hLB
      have HW2 := Lib.hid hW2
      clear hLB
      clear hW2 hW1 hW
      by_cases h5 : P.length = 5
      · obtain ⟨i0, hi0, hz0, hz1, hz2⟩ := info_row
        have HI := Lib.hid hi0; have Z0 := Lib.hid hz0; have Z1 := Lib.hid hz1; have Z2 := Lib.hid hz2
        clear hi0 hz0 hz1 hz2
        obtain ⟨va, vc, rfl⟩ := (HP.arr_reads (HW2.out.front 4)).form
        have h5' : ((P.length : Int) != 5) = false := by simp; omega
        have H3 := HW2.out.allocRow (P.map Value.string).toArray 9
        have c4 := St.cells1 (H3.front 4)
        by_cases hacc : acc.length < 200
        · have ha2 : ¬ (200 : Int) ≤ (acc.length : Int) := by omega
          obtain ⟨p0, p1, p2, p3, p4, hP5⟩ := five h5
          have HP5 := Lib.hid hP5
          have H4 := Lib.hid (H3.allocRow #[.int .i64 0, .int .i64 0, .int .i64 0, .int .i64 0] 108)
          clear H3 hP5
          gi_wp2_with (first
          | (refine ⟨trivial, ?_⟩; gi_at_call 51; refine (CallsIn.inRound l (callsIn_wide.2 (HT1.out _))).mono ?_; rintro e w' ⟨rfl, rfl⟩)
          | (gi_at_call 51; refine (CallsIn.inRound l (callsIn_wide.2 (HT1.out _))).mono ?_; rintro e w' ⟨rfl, rfl⟩)
          | (refine ⟨trivial, ?_⟩; gi_at_call 50; refine (CallsIn.inRound l (callsIn_wide.2 (HS1.out _))).mono ?_; rintro e w' ⟨rfl, hw3⟩)
          | (gi_at_call 50; refine (CallsIn.inRound l (callsIn_wide.2 (HS1.out _))).mono ?_; rintro e w' ⟨rfl, hw3⟩))
          simp only [World.size_alloc] at H4
          gi_loopw [25] (fun i wr => ∃ (m : Nat) (c : Nat → Int), m ≤ 4 ∧ i = .int .i64 m ∧ Hid (∀ j, j < m → ∃ p, [p1, p2, p3, p4][j]? = some p ∧ atoiO p = some (c j) ∧ i64r (c j)) ∧
            Hid (St w (HP.blk (W2.heap.size + 1) #[.int .i64 (c 0), .int .i64 (c 1), .int .i64 (c 2), .int .i64 (c 3)] 108 :: HP.blk W2.heap.size (P.map Value.string).toArray 9 :: LB :: HP.at D (.deferred (some [])) :: HP.blk (w.heap.size + 1 + 1 + 1) #[.string r'] 9 :: HP.blk (w.heap.size + 1 + 1) #[.slice va acc.length vc] 32 :: HP.arr 63 5 (.slice va acc.length vc) acc.length (rowsC acc) :: HP.blk w.heap.size #[.slice none 0 0] 32 :: HP.blk (w.heap.size + 1) #[.int .i64 0] 25 :: []) wr)) (fun i _ => 4 - (intOf i).toNat)
          case atStart => exact ⟨0, fun _ => 0, Nat.zero_le _, rfl, Lib.hid (fun j hj => by omega), H4⟩
          case round =>
            clear H4
            obtain ⟨m, c, hm, rfl, HC, HS⟩ := hrel
            by_cases hm4 : m = 4
            · subst hm4
              have hrow : Hid (rowOf P = some ⟨p0, c 0, c 1, c 2, c 3⟩ ∧ i64r (c 0) ∧ i64r (c 1) ∧ i64r (c 2) ∧ i64r (c 3)) := Lib.hid (by
                obtain ⟨q1, e1, a1, b1⟩ := HC.out 0 (by omega)
                obtain ⟨q2, e2, a2, b2⟩ := HC.out 1 (by omega)
                obtain ⟨q3, e3, a3, b3⟩ := HC.out 2 (by omega)
                obtain ⟨q4, e4, a4, b4⟩ := HC.out 3 (by omega)
                cases e1; cases e2; cases e3; cases e4
                rw [HP5.out]
                exact ⟨by simp [rowOf, a1, a2, a3, a4], b1, b2, b3, b4⟩)
              have d0 : ((P.map Value.string).toArray)[0]? = some (.string p0) := by rw [HP5.out]; rfl
              have FACTS : Hid (∀ G wx, St w (HP.blk (W2.heap.size + 1) #[.int .i64 (c 0), .int .i64 (c 1), .int .i64 (c 2), .int .i64 (c 3)] 108 :: HP.blk W2.heap.size (P.map Value.string).toArray 9 :: HP.blk (w.heap.size + 1 + 1) #[.slice va acc.length vc] 32 :: G) wx →
                  wx.cell? ⟨W2.heap.size + 1, 0, none⟩ = some (.int .i64 (c 0)) ∧ wx.cell? ⟨W2.heap.size + 1, 1, none⟩ = some (.int .i64 (c 1)) ∧ wx.cell? ⟨W2.heap.size + 1, 2, none⟩ = some (.int .i64 (c 2)) ∧ wx.cell? ⟨W2.heap.size + 1, 3, none⟩ = some (.int .i64 (c 3)) ∧
                  wx.cell? ⟨W2.heap.size, 0, none⟩ = some (.string p0) ∧ wx.cell? ⟨w.heap.size + 1 + 1, 0, none⟩ = some (.slice va acc.length vc)) := Lib.hid (fun G wx hx => by
                obtain ⟨x0, x1, x2, x3⟩ := St.cells4 hx
                exact ⟨x0, x1, x2, x3, St.cell (hx.front 1) d0, St.cells1 (hx.front 2)⟩)
              gi_wp2
              have HST : Hid (St w ([HP.arr 63 5 (.slice va acc.length vc) acc.length (rowsC acc)] ++ (HP.blk (W2.heap.size + 1) #[.int .i64 (c 0), .int .i64 (c 1), .int .i64 (c 2), .int .i64 (c 3)] 108 :: HP.blk W2.heap.size (P.map Value.string).toArray 9 :: HP.blk (w.heap.size + 1 + 1) #[.slice va acc.length vc] 32 :: LB :: HP.at D (.deferred (some [])) :: HP.blk (w.heap.size + 1 + 1 + 1) #[.string r'] 9 :: HP.blk w.heap.size #[.slice none 0 0] 32 :: HP.blk (w.heap.size + 1) #[.int .i64 0] 25 :: [])) wr) := Lib.hid (HS.out.perm (by simp only [HP.big, HP.big_append]; ac_rfl))
              obtain ⟨row, hrw⟩ : ∃ row : Rw, row = ⟨p0, c 0, c 1, c 2, c 3⟩ := ⟨_, rfl⟩
              have HRW := Lib.hid hrw
              clear hrw
              refine wpIn_region_any (by kernel_rfl) (wpAnyIn_of (noDef_spec (by kernel_rfl)) (fun ⟨_, _, h⟩ => h) ?_)
              refine wpAny_par (w0 := w) 1 15 [15] [HP.arr 63 5 (.slice va acc.length vc) acc.length (rowsC acc)] (HP.blk (W2.heap.size + 1) #[.int .i64 (c 0), .int .i64 (c 1), .int .i64 (c 2), .int .i64 (c 3)] 108 :: HP.blk W2.heap.size (P.map Value.string).toArray 9 :: HP.blk (w.heap.size + 1 + 1) #[.slice va acc.length vc] 32 :: LB :: HP.at D (.deferred (some [])) :: HP.blk (w.heap.size + 1 + 1 + 1) #[.string r'] 9 :: HP.blk w.heap.size #[.slice none 0 0] 32 :: HP.blk (w.heap.size + 1) #[.int .i64 0] 25 :: []) [(13, []), (14, [0, 14])]
                (fun i v => if i = 13 then ∃ a, v = .slice (some a) 1 1 else ∃ a' c', v = .slice a' (acc.length + 1) c')
                (fun i v => if i = 13 then HP.arr 63 5 v 1 row.cells else HP.arr 63 5 v (acc.length + 1) (rowsC acc ++ row.cells)) (by kernel_rfl) rfl (by kernel_rfl) HST.out ?_
              simp only [List.take_succ_cons, List.take_zero, List.drop_succ_cons, List.drop_zero]
              iterate 13 (
                with_reducible refine wpPar_pure (by kernel_rfl) (fun K hK => ?_)
                go_simp
                apply Exists.intro
                refine ⟨fun G w1 h1 => ?_, hK _ ?_⟩
                (first
                  | (with_reducible rfl)
                  | (obtain ⟨q0, q1, q2, q3, q4, q5⟩ := FACTS.out _ w1 h1; go_simp; done)
                  | (obtain ⟨q0, q1, q2, q3, q4, q5⟩ := FACTS.out _ w1 h1; go_simp; with_reducible rfl))
                clear hK K)
              refine wpPar_eff (c := []) (by kernel_rfl) ⟨.slice (some ⟨0, 0, none⟩) 1 1, ⟨_, rfl⟩⟩ (fun G w1 h1 => ?_) (fun v hv K hK => ?_)
              · simp only [List.map_nil, List.nil_append] at h1
                go_simp
                have h2 := h1.newArr 63 5 1 row.cells rfl (by decide)
                rw [HRW.out] at h2 ⊢
                simpa [Rw.cells] using h2
              simp only [if_true] at hv
              obtain ⟨a8, rfl⟩ := hv
              refine hK _ ?_; clear hK K
              refine wpPar_eff (c := [0, 14]) (by kernel_rfl) ⟨.slice none (acc.length + 1) 0, (show ∃ a' c', (Value.slice none (acc.length + 1) 0) = .slice a' (acc.length + 1) c' from ⟨_, _, rfl⟩)⟩ (fun G w1 h1 => ?_) (fun v hv K hK => ?_)
              · simp [tokA, upd] at h1
                have R1 := HP.arr_reads (h1.drop)
                refine eff_append_st _ _ 32 rfl 63 i0 _ 5 48 Tryz.underlying32 HI.out Z0.out Z1.out Z2.out rfl _ _ rfl rfl acc.length (rowsC acc) h1 1 row.cells R1 (by rw [HRW.out]; intro u hu; simp [Rw.cells] at hu; rcases hu with rfl | rfl | rfl | rfl | rfl <;> rfl) (by simp only [maxLen]; omega) (by omega) ?_
                intro v' w' hs' _
                obtain ⟨a7, p7, rfl⟩ := (HP.arr_reads hs').form
                refine ⟨⟨a7, p7, rfl⟩, ?_⟩
                have hs2 := hs'.swap.drop
                simpa using hs2
              simp only [show ¬ ((14 : Nat) = 13) by decide, if_false] at hv
              obtain ⟨a9, p9, rfl⟩ := hv
              refine hK _ ?_; clear hK K
              refine wpPar_nil ?_
              intro w5 h5
              simp [tokA, upd] at h5
              have c5 := St.cells1 (h5.front 3)
              have f5 := St.frozen (h5.front 3) 0
              have H5 := Lib.hid (St.set (h5.front 3) 0 (.slice a9 (acc.length + 1) p9))
              clear h5
              go_wp2_with fail
              have hlen : (acc ++ [row]).length = acc.length + 1 := by simp
              have hrc : rowsC (acc ++ [row]) = rowsC acc ++ row.cells := by simp [rowsC]
              refine ⟨HP.at D (.deferred (some [])) :: HP.blk (w.heap.size + 1 + 1 + 1) #[.string r'] 9 :: [HP.blk (w.heap.size + 1 + 1) #[.slice a9 (acc.length + 1) p9] 32, HP.arr 63 5 (.slice a9 (acc.length + 1) p9) (acc ++ [row]).length (rowsC (acc ++ [row])), HP.blk w.heap.size #[.slice none 0 0] 32, HP.blk (w.heap.size + 1) #[.int .i64 0] 25], ?_, _, rfl, acc ++ [row], _, rfl, ?_, ?_, ?_, ?_⟩
              · rw [hlen, hrc]
                refine St.eq (A := LB) ?_ HLB.out.symm
                have h6 : St w (HP.blk (W2.heap.size + 1) #[.int .i64 (c 0), .int .i64 (c 1), .int .i64 (c 2), .int .i64 (c 3)] 108 :: HP.blk W2.heap.size (P.map Value.string).toArray 9 :: LB :: HP.at D (.deferred (some [])) :: HP.blk (w.heap.size + 1 + 1 + 1) #[.string r'] 9 :: [HP.blk (w.heap.size + 1 + 1) #[.slice a9 (acc.length + 1) p9] 32, HP.arr 63 5 (.slice a9 (acc.length + 1) p9) (acc.length + 1) (rowsC acc ++ row.cells), HP.blk w.heap.size #[.slice none 0 0] 32, HP.blk (w.heap.size + 1) #[.int .i64 0] 25]) (w5.setCell { block := w.heap.size + 1 + 1, off := 0 } (Value.slice a9 (acc.length + 1) p9)) := H5.out.perm (by simp [HP.big]; ac_rfl)
                exact h6.drop.drop
              · intro y hy
                rcases List.mem_append.1 hy with hy | hy
                · exact HWF.out y hy
                · rw [List.mem_singleton] at hy
                  subst hy
                  rw [HRW.out]
                  exact ⟨Nat.le_trans (HPS.out p0 (by rw [HP5.out]; simp)) (by simp only [maxLen]; omega), hrow.out.2.1, hrow.out.2.2.1, hrow.out.2.2.2.1, hrow.out.2.2.2.2⟩
              · rw [hlen]; omega
              · rw [HSTEP.out, HROW.out, hrow.out.1, ← HRW.out]
                simp [hacc]
              · omega
            · rcases (by omega : m = 0 ∨ m = 1 ∨ m = 2 ∨ m = 3) with h | h | h | h <;> subst h
              · have dm : ((P.map Value.string).toArray)[1]? = some (.string p1) := by rw [HP5.out]; rfl
                have y0 := St.cell (HS.out.front 1) dm
                have HEW := Lib.hid (HE.out.grow HS.out.below)
                have hsp := HPS.out p1 (by rw [HP5.out]; simp)
                rcases hA : atoiO p1 with _ | av
                · have cA : Hid (∀ w1, Errs w1 → Calls Tryz.prog 52 #[.string p1] w1 fun e w' => ∃ v t q, e = .returned (.tuple #[.int .i64 v, .iface t q]) ∧ Below w1.heap.size w1 w') := Lib.hid fun w1 h1 => (atoi_any w1 p1 (by omega) h1).mono fun e w' ⟨v, x, h2, h3, h4⟩ => by
                    rcases h4 with ⟨h5, _, _⟩ | ⟨_, t, q, h5⟩
                    · rw [hA] at h5; cases h5
                    · subst h5; exact ⟨v, t, q, h2, h3⟩
                  have HA := Lib.hid hA
                  clear hA hsp
                  gi_wp2_with (first
                    | (refine ⟨trivial, ?_⟩; gi_at_call 52; refine (CallsIn.inRound l (callsIn_wide.2 (cA.out _ HEW.out))).mono ?_; rintro e w4 ⟨v4, t4, q4, rfl, hb4⟩; have HG := Lib.hid (HS.out.grow hb4); have c2 := St.cells1 (HG.out.front 7); have f2 := St.frozen (HG.out.front 7) 0; have c3 := St.cells1 (HG.out.front 8); have f3 := St.frozen (HG.out.front 8) 0)
                    | (gi_at_call 52; refine (CallsIn.inRound l (callsIn_wide.2 (cA.out _ HEW.out))).mono ?_; rintro e w4 ⟨v4, t4, q4, rfl, hb4⟩; have HG := Lib.hid (HS.out.grow hb4); have c2 := St.cells1 (HG.out.front 7); have f2 := St.frozen (HG.out.front 7) 0; have c3 := St.cells1 (HG.out.front 8); have f3 := St.frozen (HG.out.front 8) 0))
                  have HX := Lib.hid (St.set ((St.set (HG.out.front 7) 0 (.slice none 0 0)).front 8) 0 (.int .i64 2))
                  refine ⟨HP.at D (.deferred (some [])) :: HP.blk w.heap.size #[.slice none 0 0] 32 :: HP.blk (w.heap.size + 1) #[.int .i64 2] 25 :: [HP.blk (W2.heap.size + 1) #[.int .i64 (c 0), .int .i64 (c 1), .int .i64 (c 2), .int .i64 (c 3)] 108, HP.blk W2.heap.size (P.map Value.string).toArray 9, HP.blk (w.heap.size + 1 + 1 + 1) #[.string r'] 9, HP.blk (w.heap.size + 1 + 1) #[.slice va acc.length vc] 32, HP.arr 63 5 (.slice va acc.length vc) acc.length (rowsC acc)], ?_, _, rfl, rfl, ?_, _, rfl⟩
                  · exact St.eq (A := LB) (HX.out.perm (by simp [HP.big]; ac_rfl)) HLB.out.symm
                  · rw [HSTEP.out, HROW.out, HP5.out]
                    have : rowOf [p0, p1, p2, p3, p4] = none := by
                      simp only [rowOf]
                      rw [HA.out]
                    rw [this]
                · have cA : Hid (∀ w1, Errs w1 → Calls Tryz.prog 52 #[.string p1] w1 fun e w' => e = .returned (.tuple #[.int .i64 av, .nilIface]) ∧ Below w1.heap.size w1 w' ∧ i64r av) := Lib.hid fun w1 h1 => (atoi_any w1 p1 (by omega) h1).mono fun e w' ⟨v, x, h2, h3, h4⟩ => by
                    rcases h4 with ⟨h5, h6, h7⟩ | ⟨h5, _⟩
                    · rw [hA] at h5; cases h5; subst h7; exact ⟨h2, h3, h6⟩
                    · rw [hA] at h5; cases h5
                  have HA := Lib.hid hA
                  clear hA hsp
                  gi_wp2_with (first
                    | (refine ⟨trivial, ?_⟩; gi_at_call 52; refine (CallsIn.inRound l (callsIn_wide.2 (cA.out _ HEW.out))).mono ?_; rintro e w4 ⟨rfl, hb4, hav⟩; have HAV := Lib.hid hav; have HG := Lib.hid (HS.out.grow hb4); have cm := St.cell (HG.out.front 0) (i := 0) rfl; have fm := St.frozen (HG.out.front 0) 0; clear hav)
                    | (gi_at_call 52; refine (CallsIn.inRound l (callsIn_wide.2 (cA.out _ HEW.out))).mono ?_; rintro e w4 ⟨rfl, hb4, hav⟩; have HAV := Lib.hid hav; have HG := Lib.hid (HS.out.grow hb4); have cm := St.cell (HG.out.front 0) (i := 0) rfl; have fm := St.frozen (HG.out.front 0) 0; clear hav))
                  have HX := Lib.hid (St.set (HG.out.front 0) 0 (.int .i64 av))
                  go_roundw
                  case rel =>
                    refine ⟨1, upd c 0 av, by omega, by go_num, Lib.hid fun j hj => ?_, Lib.hid ?_⟩
                    · by_cases hjm : j = 0
                      · subst hjm
                        exact ⟨p1, rfl, by rw [upd_at]; exact HA.out, by rw [upd_at]; exact HAV.out⟩
                      · obtain ⟨q, e1, e2, e3⟩ := HC.out j (by omega)
                        exact ⟨q, e1, by rw [upd_ne hjm]; exact e2, by rw [upd_ne hjm]; exact e3⟩
                    · have h9 := HX.out
                      simpa [upd] using h9
                  case measure => simp [intOf]
              · have dm : ((P.map Value.string).toArray)[2]? = some (.string p2) := by rw [HP5.out]; rfl
                have y0 := St.cell (HS.out.front 1) dm
                have HEW := Lib.hid (HE.out.grow HS.out.below)
                have hsp := HPS.out p2 (by rw [HP5.out]; simp)
                rcases hA : atoiO p2 with _ | av
                · have cA : Hid (∀ w1, Errs w1 → Calls Tryz.prog 52 #[.string p2] w1 fun e w' => ∃ v t q, e = .returned (.tuple #[.int .i64 v, .iface t q]) ∧ Below w1.heap.size w1 w') := Lib.hid fun w1 h1 => (atoi_any w1 p2 (by omega) h1).mono fun e w' ⟨v, x, h2, h3, h4⟩ => by
                    rcases h4 with ⟨h5, _, _⟩ | ⟨_, t, q, h5⟩
                    · rw [hA] at h5; cases h5
                    · subst h5; exact ⟨v, t, q, h2, h3⟩
                  have HA := Lib.hid hA
                  clear hA hsp
                  gi_wp2_with (first
                    | (refine ⟨trivial, ?_⟩; gi_at_call 52; refine (CallsIn.inRound l (callsIn_wide.2 (cA.out _ HEW.out))).mono ?_; rintro e w4 ⟨v4, t4, q4, rfl, hb4⟩; have HG := Lib.hid (HS.out.grow hb4); have c2 := St.cells1 (HG.out.front 7); have f2 := St.frozen (HG.out.front 7) 0; have c3 := St.cells1 (HG.out.front 8); have f3 := St.frozen (HG.out.front 8) 0)
                    | (gi_at_call 52; refine (CallsIn.inRound l (callsIn_wide.2 (cA.out _ HEW.out))).mono ?_; rintro e w4 ⟨v4, t4, q4, rfl, hb4⟩; have HG := Lib.hid (HS.out.grow hb4); have c2 := St.cells1 (HG.out.front 7); have f2 := St.frozen (HG.out.front 7) 0; have c3 := St.cells1 (HG.out.front 8); have f3 := St.frozen (HG.out.front 8) 0))
                  have HX := Lib.hid (St.set ((St.set (HG.out.front 7) 0 (.slice none 0 0)).front 8) 0 (.int .i64 2))
                  refine ⟨HP.at D (.deferred (some [])) :: HP.blk w.heap.size #[.slice none 0 0] 32 :: HP.blk (w.heap.size + 1) #[.int .i64 2] 25 :: [HP.blk (W2.heap.size + 1) #[.int .i64 (c 0), .int .i64 (c 1), .int .i64 (c 2), .int .i64 (c 3)] 108, HP.blk W2.heap.size (P.map Value.string).toArray 9, HP.blk (w.heap.size + 1 + 1 + 1) #[.string r'] 9, HP.blk (w.heap.size + 1 + 1) #[.slice va acc.length vc] 32, HP.arr 63 5 (.slice va acc.length vc) acc.length (rowsC acc)], ?_, _, rfl, rfl, ?_, _, rfl⟩
                  · exact St.eq (A := LB) (HX.out.perm (by simp [HP.big]; ac_rfl)) HLB.out.symm
                  · rw [HSTEP.out, HROW.out, HP5.out]
                    have : rowOf [p0, p1, p2, p3, p4] = none := by
                      simp only [rowOf]
                      rw [HA.out]
                      cases atoiO p1 <;> rfl
                    rw [this]
                · have cA : Hid (∀ w1, Errs w1 → Calls Tryz.prog 52 #[.string p2] w1 fun e w' => e = .returned (.tuple #[.int .i64 av, .nilIface]) ∧ Below w1.heap.size w1 w' ∧ i64r av) := Lib.hid fun w1 h1 => (atoi_any w1 p2 (by omega) h1).mono fun e w' ⟨v, x, h2, h3, h4⟩ => by
                    rcases h4 with ⟨h5, h6, h7⟩ | ⟨h5, _⟩
                    · rw [hA] at h5; cases h5; subst h7; exact ⟨h2, h3, h6⟩
                    · rw [hA] at h5; cases h5
                  have HA := Lib.hid hA
                  clear hA hsp
                  gi_wp2_with (first
                    | (refine ⟨trivial, ?_⟩; gi_at_call 52; refine (CallsIn.inRound l (callsIn_wide.2 (cA.out _ HEW.out))).mono ?_; rintro e w4 ⟨rfl, hb4, hav⟩; have HAV := Lib.hid hav; have HG := Lib.hid (HS.out.grow hb4); have cm := St.cell (HG.out.front 0) (i := 1) rfl; have fm := St.frozen (HG.out.front 0) 1; clear hav)
                    | (gi_at_call 52; refine (CallsIn.inRound l (callsIn_wide.2 (cA.out _ HEW.out))).mono ?_; rintro e w4 ⟨rfl, hb4, hav⟩; have HAV := Lib.hid hav; have HG := Lib.hid (HS.out.grow hb4); have cm := St.cell (HG.out.front 0) (i := 1) rfl; have fm := St.frozen (HG.out.front 0) 1; clear hav))
                  have HX := Lib.hid (St.set (HG.out.front 0) 1 (.int .i64 av))
                  go_roundw
                  case rel =>
                    refine ⟨2, upd c 1 av, by omega, by go_num, Lib.hid fun j hj => ?_, Lib.hid ?_⟩
                    · by_cases hjm : j = 1
                      · subst hjm
                        exact ⟨p2, rfl, by rw [upd_at]; exact HA.out, by rw [upd_at]; exact HAV.out⟩
                      · obtain ⟨q, e1, e2, e3⟩ := HC.out j (by omega)
                        exact ⟨q, e1, by rw [upd_ne hjm]; exact e2, by rw [upd_ne hjm]; exact e3⟩
                    · have h9 := HX.out
                      simpa [upd] using h9
                  case measure => simp [intOf]
              · have dm : ((P.map Value.string).toArray)[3]? = some (.string p3) := by rw [HP5.out]; rfl
                have y0 := St.cell (HS.out.front 1) dm
                have HEW := Lib.hid (HE.out.grow HS.out.below)
                have hsp := HPS.out p3 (by rw [HP5.out]; simp)
                rcases hA : atoiO p3 with _ | av
                · have cA : Hid (∀ w1, Errs w1 → Calls Tryz.prog 52 #[.string p3] w1 fun e w' => ∃ v t q, e = .returned (.tuple #[.int .i64 v, .iface t q]) ∧ Below w1.heap.size w1 w') := Lib.hid fun w1 h1 => (atoi_any w1 p3 (by omega) h1).mono fun e w' ⟨v, x, h2, h3, h4⟩ => by
                    rcases h4 with ⟨h5, _, _⟩ | ⟨_, t, q, h5⟩
                    · rw [hA] at h5; cases h5
                    · subst h5; exact ⟨v, t, q, h2, h3⟩
                  have HA := Lib.hid hA
                  clear hA hsp
                  gi_wp2_with (first
                    | (refine ⟨trivial, ?_⟩; gi_at_call 52; refine (CallsIn.inRound l (callsIn_wide.2 (cA.out _ HEW.out))).mono ?_; rintro e w4 ⟨v4, t4, q4, rfl, hb4⟩; have HG := Lib.hid (HS.out.grow hb4); have c2 := St.cells1 (HG.out.front 7); have f2 := St.frozen (HG.out.front 7) 0; have c3 := St.cells1 (HG.out.front 8); have f3 := St.frozen (HG.out.front 8) 0)
                    | (gi_at_call 52; refine (CallsIn.inRound l (callsIn_wide.2 (cA.out _ HEW.out))).mono ?_; rintro e w4 ⟨v4, t4, q4, rfl, hb4⟩; have HG := Lib.hid (HS.out.grow hb4); have c2 := St.cells1 (HG.out.front 7); have f2 := St.frozen (HG.out.front 7) 0; have c3 := St.cells1 (HG.out.front 8); have f3 := St.frozen (HG.out.front 8) 0))
                  have HX := Lib.hid (St.set ((St.set (HG.out.front 7) 0 (.slice none 0 0)).front 8) 0 (.int .i64 2))
                  refine ⟨HP.at D (.deferred (some [])) :: HP.blk w.heap.size #[.slice none 0 0] 32 :: HP.blk (w.heap.size + 1) #[.int .i64 2] 25 :: [HP.blk (W2.heap.size + 1) #[.int .i64 (c 0), .int .i64 (c 1), .int .i64 (c 2), .int .i64 (c 3)] 108, HP.blk W2.heap.size (P.map Value.string).toArray 9, HP.blk (w.heap.size + 1 + 1 + 1) #[.string r'] 9, HP.blk (w.heap.size + 1 + 1) #[.slice va acc.length vc] 32, HP.arr 63 5 (.slice va acc.length vc) acc.length (rowsC acc)], ?_, _, rfl, rfl, ?_, _, rfl⟩
                  · exact St.eq (A := LB) (HX.out.perm (by simp [HP.big]; ac_rfl)) HLB.out.symm
                  · rw [HSTEP.out, HROW.out, HP5.out]
                    have : rowOf [p0, p1, p2, p3, p4] = none := by
                      simp only [rowOf]
                      rw [HA.out]
                      cases atoiO p1 <;> cases atoiO p2 <;> rfl
                    rw [this]
                · have cA : Hid (∀ w1, Errs w1 → Calls Tryz.prog 52 #[.string p3] w1 fun e w' => e = .returned (.tuple #[.int .i64 av, .nilIface]) ∧ Below w1.heap.size w1 w' ∧ i64r av) := Lib.hid fun w1 h1 => (atoi_any w1 p3 (by omega) h1).mono fun e w' ⟨v, x, h2, h3, h4⟩ => by
                    rcases h4 with ⟨h5, h6, h7⟩ | ⟨h5, _⟩
                    · rw [hA] at h5; cases h5; subst h7; exact ⟨h2, h3, h6⟩
                    · rw [hA] at h5; cases h5
                  have HA := Lib.hid hA
                  clear hA hsp
                  gi_wp2_with (first
                    | (refine ⟨trivial, ?_⟩; gi_at_call 52; refine (CallsIn.inRound l (callsIn_wide.2 (cA.out _ HEW.out))).mono ?_; rintro e w4 ⟨rfl, hb4, hav⟩; have HAV := Lib.hid hav; have HG := Lib.hid (HS.out.grow hb4); have cm := St.cell (HG.out.front 0) (i := 2) rfl; have fm := St.frozen (HG.out.front 0) 2; clear hav)
                    | (gi_at_call 52; refine (CallsIn.inRound l (callsIn_wide.2 (cA.out _ HEW.out))).mono ?_; rintro e w4 ⟨rfl, hb4, hav⟩; have HAV := Lib.hid hav; have HG := Lib.hid (HS.out.grow hb4); have cm := St.cell (HG.out.front 0) (i := 2) rfl; have fm := St.frozen (HG.out.front 0) 2; clear hav))
                  have HX := Lib.hid (St.set (HG.out.front 0) 2 (.int .i64 av))
                  go_roundw
                  case rel =>
                    refine ⟨3, upd c 2 av, by omega, by go_num, Lib.hid fun j hj => ?_, Lib.hid ?_⟩
                    · by_cases hjm : j = 2
                      · subst hjm
                        exact ⟨p3, rfl, by rw [upd_at]; exact HA.out, by rw [upd_at]; exact HAV.out⟩
                      · obtain ⟨q, e1, e2, e3⟩ := HC.out j (by omega)
                        exact ⟨q, e1, by rw [upd_ne hjm]; exact e2, by rw [upd_ne hjm]; exact e3⟩
                    · have h9 := HX.out
                      simpa [upd] using h9
                  case measure => simp [intOf]
              · have dm : ((P.map Value.string).toArray)[4]? = some (.string p4) := by rw [HP5.out]; rfl
                have y0 := St.cell (HS.out.front 1) dm
                have HEW := Lib.hid (HE.out.grow HS.out.below)
                have hsp := HPS.out p4 (by rw [HP5.out]; simp)
                rcases hA : atoiO p4 with _ | av
                · have cA : Hid (∀ w1, Errs w1 → Calls Tryz.prog 52 #[.string p4] w1 fun e w' => ∃ v t q, e = .returned (.tuple #[.int .i64 v, .iface t q]) ∧ Below w1.heap.size w1 w') := Lib.hid fun w1 h1 => (atoi_any w1 p4 (by omega) h1).mono fun e w' ⟨v, x, h2, h3, h4⟩ => by
                    rcases h4 with ⟨h5, _, _⟩ | ⟨_, t, q, h5⟩
                    · rw [hA] at h5; cases h5
                    · subst h5; exact ⟨v, t, q, h2, h3⟩
                  have HA := Lib.hid hA
                  clear hA hsp
                  gi_wp2_with (first
                    | (refine ⟨trivial, ?_⟩; gi_at_call 52; refine (CallsIn.inRound l (callsIn_wide.2 (cA.out _ HEW.out))).mono ?_; rintro e w4 ⟨v4, t4, q4, rfl, hb4⟩; have HG := Lib.hid (HS.out.grow hb4); have c2 := St.cells1 (HG.out.front 7); have f2 := St.frozen (HG.out.front 7) 0; have c3 := St.cells1 (HG.out.front 8); have f3 := St.frozen (HG.out.front 8) 0)
                    | (gi_at_call 52; refine (CallsIn.inRound l (callsIn_wide.2 (cA.out _ HEW.out))).mono ?_; rintro e w4 ⟨v4, t4, q4, rfl, hb4⟩; have HG := Lib.hid (HS.out.grow hb4); have c2 := St.cells1 (HG.out.front 7); have f2 := St.frozen (HG.out.front 7) 0; have c3 := St.cells1 (HG.out.front 8); have f3 := St.frozen (HG.out.front 8) 0))
                  have HX := Lib.hid (St.set ((St.set (HG.out.front 7) 0 (.slice none 0 0)).front 8) 0 (.int .i64 2))
                  refine ⟨HP.at D (.deferred (some [])) :: HP.blk w.heap.size #[.slice none 0 0] 32 :: HP.blk (w.heap.size + 1) #[.int .i64 2] 25 :: [HP.blk (W2.heap.size + 1) #[.int .i64 (c 0), .int .i64 (c 1), .int .i64 (c 2), .int .i64 (c 3)] 108, HP.blk W2.heap.size (P.map Value.string).toArray 9, HP.blk (w.heap.size + 1 + 1 + 1) #[.string r'] 9, HP.blk (w.heap.size + 1 + 1) #[.slice va acc.length vc] 32, HP.arr 63 5 (.slice va acc.length vc) acc.length (rowsC acc)], ?_, _, rfl, rfl, ?_, _, rfl⟩
                  · exact St.eq (A := LB) (HX.out.perm (by simp [HP.big]; ac_rfl)) HLB.out.symm
                  · rw [HSTEP.out, HROW.out, HP5.out]
                    have : rowOf [p0, p1, p2, p3, p4] = none := by
                      simp only [rowOf]
                      rw [HA.out]
                      cases atoiO p1 <;> cases atoiO p2 <;> cases atoiO p3 <;> rfl
                    rw [this]
                · have cA : Hid (∀ w1, Errs w1 → Calls Tryz.prog 52 #[.string p4] w1 fun e w' => e = .returned (.tuple #[.int .i64 av, .nilIface]) ∧ Below w1.heap.size w1 w' ∧ i64r av) := Lib.hid fun w1 h1 => (atoi_any w1 p4 (by omega) h1).mono fun e w' ⟨v, x, h2, h3, h4⟩ => by
                    rcases h4 with ⟨h5, h6, h7⟩ | ⟨h5, _⟩
                    · rw [hA] at h5; cases h5; subst h7; exact ⟨h2, h3, h6⟩
                    · rw [hA] at h5; cases h5
                  have HA := Lib.hid hA
                  clear hA hsp
                  gi_wp2_with (first
                    | (refine ⟨trivial, ?_⟩; gi_at_call 52; refine (CallsIn.inRound l (callsIn_wide.2 (cA.out _ HEW.out))).mono ?_; rintro e w4 ⟨rfl, hb4, hav⟩; have HAV := Lib.hid hav; have HG := Lib.hid (HS.out.grow hb4); have cm := St.cell (HG.out.front 0) (i := 3) rfl; have fm := St.frozen (HG.out.front 0) 3; clear hav)
                    | (gi_at_call 52; refine (CallsIn.inRound l (callsIn_wide.2 (cA.out _ HEW.out))).mono ?_; rintro e w4 ⟨rfl, hb4, hav⟩; have HAV := Lib.hid hav; have HG := Lib.hid (HS.out.grow hb4); have cm := St.cell (HG.out.front 0) (i := 3) rfl; have fm := St.frozen (HG.out.front 0) 3; clear hav))
                  have HX := Lib.hid (St.set (HG.out.front 0) 3 (.int .i64 av))
                  go_roundw
                  case rel =>
                    refine ⟨4, upd c 3 av, by omega, by go_num, Lib.hid fun j hj => ?_, Lib.hid ?_⟩
                    · by_cases hjm : j = 3
                      · subst hjm
                        exact ⟨p4, rfl, by rw [upd_at]; exact HA.out, by rw [upd_at]; exact HAV.out⟩
                      · obtain ⟨q, e1, e2, e3⟩ := HC.out j (by omega)
                        exact ⟨q, e1, by rw [upd_ne hjm]; exact e2, by rw [upd_ne hjm]; exact e3⟩
                    · have h9 := HX.out
                      simpa [upd] using h9
                  case measure => simp [intOf]
        · have ha2 : (200 : Int) ≤ (acc.length : Int) := by omega
          have c2 := St.cells1 (H3.front 6)
          have f2 := St.frozen (H3.front 6) 0
          have c3 := St.cells1 (H3.front 7)
          have f3 := St.frozen (H3.front 7) 0
          have HX := Lib.hid (St.set ((St.set (H3.front 6) 0 (.slice none 0 0)).front 7) 0 (.int .i64 2))
          clear H3
          gi_wp2_with (first
          | (refine ⟨trivial, ?_⟩; gi_at_call 51; refine (CallsIn.inRound l (callsIn_wide.2 (HT1.out _))).mono ?_; rintro e w' ⟨rfl, rfl⟩)
          | (gi_at_call 51; refine (CallsIn.inRound l (callsIn_wide.2 (HT1.out _))).mono ?_; rintro e w' ⟨rfl, rfl⟩)
          | (refine ⟨trivial, ?_⟩; gi_at_call 50; refine (CallsIn.inRound l (callsIn_wide.2 (HS1.out _))).mono ?_; rintro e w' ⟨rfl, hw3⟩)
          | (gi_at_call 50; refine (CallsIn.inRound l (callsIn_wide.2 (HS1.out _))).mono ?_; rintro e w' ⟨rfl, hw3⟩))
          refine ⟨HP.at _ (.deferred (some [])) :: HP.blk w.heap.size #[.slice none 0 0] 32 :: HP.blk (w.heap.size + 1) #[.int .i64 2] 25 :: [HP.blk W2.heap.size (P.map Value.string).toArray 9, HP.blk (w.heap.size + 1 + 1 + 1) #[.string r'] 9, HP.blk (w.heap.size + 1 + 1) #[.slice va acc.length vc] 32, HP.arr 63 5 (.slice va acc.length vc) acc.length (rowsC acc)], ?_, _, rfl, rfl, ?_, _, rfl⟩
          · exact St.eq (A := LB) (HX.out.perm (by simp [HP.big]; ac_rfl)) HLB.out.symm
          · rw [HSTEP.out, HROW.out]
            cases rowOf P <;> simp [hacc]
      · have H3 := HW2.out.allocRow (P.map Value.string).toArray 9
        have c2 := St.cells1 (H3.front 6)
        have f2 := St.frozen (H3.front 6) 0
        have c3 := St.cells1 (H3.front 7)
        have f3 := St.frozen (H3.front 7) 0
        have h5' : ((P.length : Int) != 5) = true := by simp; omega
        have HX := Lib.hid (St.set ((St.set (H3.front 6) 0 (.slice none 0 0)).front 7) 0 (.int .i64 2))
        clear H3
        gi_wp2_with (first
          | (refine ⟨trivial, ?_⟩; gi_at_call 51; refine (CallsIn.inRound l (callsIn_wide.2 (HT1.out _))).mono ?_; rintro e w' ⟨rfl, rfl⟩)
          | (gi_at_call 51; refine (CallsIn.inRound l (callsIn_wide.2 (HT1.out _))).mono ?_; rintro e w' ⟨rfl, rfl⟩)
          | (refine ⟨trivial, ?_⟩; gi_at_call 50; refine (CallsIn.inRound l (callsIn_wide.2 (HS1.out _))).mono ?_; rintro e w' ⟨rfl, hw3⟩)
          | (gi_at_call 50; refine (CallsIn.inRound l (callsIn_wide.2 (HS1.out _))).mono ?_; rintro e w' ⟨rfl, hw3⟩))
        refine ⟨HP.at _ (.deferred (some [])) :: HP.blk w.heap.size #[.slice none 0 0] 32 :: HP.blk (w.heap.size + 1) #[.int .i64 2] 25 :: [HP.blk W2.heap.size (P.map Value.string).toArray 9, HP.blk (w.heap.size + 1 + 1 + 1) #[.string r'] 9, HP.blk (w.heap.size + 1 + 1) #[v] 32, HP.arr 63 5 v acc.length (rowsC acc)], ?_, _, rfl, rfl, ?_, _, rfl⟩
        · exact St.eq (A := LB) (HX.out.perm (by simp [HP.big]; ac_rfl)) HLB.out.symm
        · rw [HSTEP.out, HROW.out, rowOf_not h5]
  case stop =>
    rintro D c R W ⟨rfl, hnone, R', rfl⟩ hW
    have hW2 := hW.putL (.deferred none)
    have hp : parseP s = none := by unfold parseP; rw [hnone]
    have HK := Lib.hid hW
    have HW2 := Lib.hid hW2
    have HP' := Lib.hid hp
    clear hW hW2 hp hnone
    gi_wp2
    refine ⟨by simp, .inl ⟨_, _, rfl, run_takeDeferred HK.out.block.2, ?_⟩⟩
    refine ⟨_, results_cells2 rfl rfl rfl (run_loadVar_slice _ (St.cells1 (HW2.out.front 1))) (run_loadVar_errno _ (St.cells1 (HW2.out.front 2))), ?_⟩
    unfold parsePost
    rw [HP'.out]
    exact ⟨rfl, HW2.out.below⟩
  case done =>
    rintro D R W ⟨R', rfl, acc, v, rfl, hwf, h200, hp, _⟩ hW
    have hpl : parseL s = some acc := hp
    obtain ⟨va, vc, rfl⟩ := (HP.arr_reads (hW.front 3)).form
    have hRA : Hid (RowsAt W (.slice va acc.length vc) acc) := Lib.hid (HP.arr_reads (hW.front 3))
    have c4 := St.cells1 (hW.front 2)
    have HW := Lib.hid hW
    have HWF := Lib.hid hwf
    have HPL := Lib.hid hpl
    have cP : Hid (∀ w1, RowsAt w1 (.slice va acc.length vc) acc → Calls Tryz.prog 47 #[.slice va acc.length vc] w1 fun e w' => e = .returned (.bool (isProfB acc)) ∧ Below w1.heap.size w1 w') := Lib.hid fun w1 h1 => isProfile_any w1 va vc acc hwf (by omega) h1
    clear hW hp hpl hwf
    by_cases hpr : isProfB acc = true
    · have hshort : Short acc := ⟨by omega, fun r hr => Nat.le_trans ((isProfB_len hpr).2 r hr) (by decide)⟩
      have cX : Hid (∀ w1, Pow10 w1 → RowsAt w1 (.slice va acc.length vc) acc → Calls Tryz.prog 48 #[.slice va acc.length vc] w1 fun e w' => e = .returned (.string ⟨(textL acc).toArray⟩) ∧ Below w1.heap.size w1 w') := Lib.hid fun w1 h1 h2 => text_any w1 va vc acc HWF.out hshort h1 h2
      rw [hpr] at cP
      have HPR := Lib.hid hpr
      clear hpr hshort
      by_cases hts : (⟨(textL acc).toArray⟩ : ByteArray) = s
      · have HTS : Hid (textL acc = s.data.toList) := Lib.hid (by rw [← hts])
        rw [hts] at cX
        clear hts
        gi_wp2_with (first
          | (refine ⟨trivial, ?_⟩; gi_at_call 47; refine (callsIn_wide.2 (cP.out _ hRA.out)).mono ?_; rintro e w4 ⟨rfl, hb4⟩; have HG := Lib.hid (HW.out.grow hb4); have d4 := St.cells1 (HG.out.front 2))
          | (refine ⟨trivial, ?_⟩; gi_at_call 48; refine (callsIn_wide.2 (cX.out _ (HT.out.grow HG.out.below) (HP.arr_reads (HG.out.front 3)))).mono ?_; rintro e w5 ⟨rfl, hb5⟩; have HG5 := Lib.hid (HG.out.grow hb5); have e4 := St.cells1 (HG5.out.front 2); have c2 := St.cells1 (HG5.out.front 4); have f2 := St.frozen (HG5.out.front 4) 0; have c3 := St.cells1 (HG5.out.front 5); have f3 := St.frozen (HG5.out.front 5) 0))
        have HX := Lib.hid (((St.set ((St.set (HG5.out.front 4) 0 (.slice va acc.length vc)).front 5) 0 (.int .i64 0)).perm (L' := HP.at D (.deferred (some [])) :: HP.blk w.heap.size #[.slice va acc.length vc] 32 :: HP.blk (w.heap.size + 1) #[.int .i64 0] 25 :: HP.blk (w.heap.size + 1 + 1 + 1) #[.string ByteArray.empty] 9 :: HP.blk (w.heap.size + 1 + 1) #[.slice va acc.length vc] 32 :: HP.arr 63 5 (.slice va acc.length vc) acc.length (rowsC acc) :: []) (by simp [HP.big]; ac_rfl)))
        have HY := Lib.hid (HX.out.putL (.deferred none))
        refine ⟨by simp, .inl ⟨_, _, rfl, run_takeDeferred HX.out.block.2, ?_⟩⟩
        refine ⟨_, results_cells2 rfl rfl rfl (run_loadVar_slice _ (St.cells1 (HY.out.front 1))) (run_loadVar_errno _ (St.cells1 (HY.out.front 2))), ?_⟩
        unfold parsePost parseP
        rw [HPL.out]
        simp only [HPR.out, HTS.out, and_self, if_true]
        exact ⟨_, rfl, HWF.out, h200, HY.out.drop.drop.drop.drop.drop⟩
      · have HTS : Hid (¬ (isProfB acc = true ∧ textL acc = s.data.toList)) := Lib.hid (fun h => hts (by rw [h.2]))
        have hbl : (textL acc == s.toList) = false := beq_eq_false_iff_ne.2 fun h => hts (by rw [h, Lib.toList_data])
        clear hts
        gi_wp2_with (first
          | (refine ⟨trivial, ?_⟩; gi_at_call 47; refine (callsIn_wide.2 (cP.out _ hRA.out)).mono ?_; rintro e w4 ⟨rfl, hb4⟩; have HG := Lib.hid (HW.out.grow hb4); have d4 := St.cells1 (HG.out.front 2))
          | (refine ⟨trivial, ?_⟩; gi_at_call 48; refine (callsIn_wide.2 (cX.out _ (HT.out.grow HG.out.below) (HP.arr_reads (HG.out.front 3)))).mono ?_; rintro e w5 ⟨rfl, hb5⟩; have HG5 := Lib.hid (HG.out.grow hb5); have e4 := St.cells1 (HG5.out.front 2); have c2 := St.cells1 (HG5.out.front 4); have f2 := St.frozen (HG5.out.front 4) 0; have c3 := St.cells1 (HG5.out.front 5); have f3 := St.frozen (HG5.out.front 5) 0))
        have HX := Lib.hid (((St.set ((St.set (HG5.out.front 4) 0 (.slice none 0 0)).front 5) 0 (.int .i64 2)).perm (L' := HP.at D (.deferred (some [])) :: HP.blk w.heap.size #[.slice none 0 0] 32 :: HP.blk (w.heap.size + 1) #[.int .i64 2] 25 :: HP.blk (w.heap.size + 1 + 1 + 1) #[.string ByteArray.empty] 9 :: HP.blk (w.heap.size + 1 + 1) #[.slice va acc.length vc] 32 :: HP.arr 63 5 (.slice va acc.length vc) acc.length (rowsC acc) :: []) (by simp [HP.big]; ac_rfl)))
        have HY := Lib.hid (HX.out.putL (.deferred none))
        refine ⟨by simp, .inl ⟨_, _, rfl, run_takeDeferred HX.out.block.2, ?_⟩⟩
        refine ⟨_, results_cells2 rfl rfl rfl (run_loadVar_slice _ (St.cells1 (HY.out.front 1))) (run_loadVar_errno _ (St.cells1 (HY.out.front 2))), ?_⟩
        unfold parsePost parseP
        rw [HPL.out]
        simp only [if_neg HTS.out]
        exact ⟨trivial, HY.out.below⟩
    · have HTS : Hid (¬ (isProfB acc = true ∧ textL acc = s.data.toList)) := Lib.hid (fun h => hpr h.1)
      rw [Bool.not_eq_true] at hpr
      rw [hpr] at cP
      clear hpr
      gi_wp2_with (refine ⟨trivial, ?_⟩; gi_at_call 47; refine (callsIn_wide.2 (cP.out _ hRA.out)).mono ?_; rintro e w4 ⟨rfl, hb4⟩; have HG := Lib.hid (HW.out.grow hb4); have d4 := St.cells1 (HG.out.front 2); have c2 := St.cells1 (HG.out.front 4); have f2 := St.frozen (HG.out.front 4) 0; have c3 := St.cells1 (HG.out.front 5); have f3 := St.frozen (HG.out.front 5) 0)
      refine ⟨trivial, ?_⟩
      gi_wp2
      have HX := Lib.hid (((St.set ((St.set (HG.out.front 4) 0 (.slice none 0 0)).front 5) 0 (.int .i64 2)).perm (L' := HP.at D (.deferred (some [])) :: HP.blk w.heap.size #[.slice none 0 0] 32 :: HP.blk (w.heap.size + 1) #[.int .i64 2] 25 :: HP.blk (w.heap.size + 1 + 1 + 1) #[.string ByteArray.empty] 9 :: HP.blk (w.heap.size + 1 + 1) #[.slice va acc.length vc] 32 :: HP.arr 63 5 (.slice va acc.length vc) acc.length (rowsC acc) :: []) (by simp [HP.big]; ac_rfl)))
      have HY := Lib.hid (HX.out.putL (.deferred none))
      refine ⟨by simp, .inl ⟨_, _, rfl, run_takeDeferred HX.out.block.2, ?_⟩⟩
      refine ⟨_, results_cells2 rfl rfl rfl (run_loadVar_slice _ (St.cells1 (HY.out.front 1))) (run_loadVar_errno _ (St.cells1 (HY.out.front 2))), ?_⟩
      unfold parsePost parseP
      rw [HPL.out]
      simp only [if_neg HTS.out]
      exact ⟨trivial, HY.out.below⟩
end Go.Proofs.YtcodjodhacjfeaaGreatDoor
end

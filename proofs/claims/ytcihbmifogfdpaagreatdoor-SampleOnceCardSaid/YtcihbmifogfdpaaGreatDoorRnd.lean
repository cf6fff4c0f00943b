/-
  Walks in a round of a range over a function, out of walks outside of one; the range itself, over memory told by assertions.
-/
import Derived.Test.YtcihbmifogfdpaaGreatDoorParA
import Derived.RangeFuncKeeps
import Derived.RangeFuncCalls
import Derived.RangeFuncLeaves
import Derived.OrdersIn
namespace Go.Proofs.YtcihbmifogfdpaaGreatDoor
open Go.RowKit

section
variable {P : Program} {l n : Nat} {Q : Exit → Act → World → Prop}
theorem opIn_of {o : Oper} {a : Act} {w : World} {K : Act → World → Prop} (hd : ∀ c, o.op ≠ .defer c) (h : o.wp P a w K Q) : o.wpIn (Fence.wide.inRound l) n P a w K Q := by
  refine ⟨fun _ _ => trivial, ?_⟩
  rw [Oper.semAt_eq _ _ _ hd]
  unfold Oper.wp at h
  generalize (execOp a.eval o).run P w = r at h
  cases r with
  | ok x w' =>
    cases x with
    | value v => exact h
    | skip => exact h
    | defer d => exact h
    | enter f args =>
      refine ⟨fun h => (by cases h), ?_⟩
      refine CallsIn.mono (CallsIn.inRound l (callsIn_wide.2 h)) ?_
      intro e w'' h2
      cases e <;> exact h2
    | row r args =>
      refine ⟨fun h => (by cases h), fun c cs _ => ?_⟩
      obtain ⟨v, w2, h1, h2⟩ := h c cs
      exact ⟨v, w2, h1, stepsIn_wide.2 h2⟩
    | _ => exact h.elim
  | halt x w' =>
    cases x <;> exact h
theorem wpListIn_of {ops : Array Oper} (hQ : ¬ LetsOut Q) : ∀ {rest : List Oper} {a : Act} {w : World}, (∀ o ∈ rest, ∀ c, o.op ≠ .defer c) → wpList P ops Q rest a w → wpListIn (Fence.wide.inRound l) n P ops Q rest a w
  | [], a, w, _, h => h
  | o :: rest, a, w, hd, h => by
    unfold wpListIn
    unfold wpList at h
    split
    · rename_i hw
      rw [if_pos hw] at h
      rcases h with h | h
      · exact Oper.wpIn_mono (fun a w h => wpListIn_of hQ (fun o ho => hd o (List.mem_cons_of_mem _ ho)) h) (opIn_of (hd o (List.mem_cons_self ..)) h)
      · exact absurd h.2 hQ
    · rename_i hw
      rw [if_neg hw] at h
      exact ⟨fun _ _ => trivial, wpListIn_of hQ (fun o ho => hd o (List.mem_cons_of_mem _ ho)) h⟩
theorem wpAnyIn_of {ops : Array Oper} {md : Region.Mode} (hd : ∀ o ∈ ops.toList, ∀ c, o.op ≠ .defer c) (hQ : ¬ LetsOut Q) : ∀ {f : Nat} {listed : Array Bool} {a : Act} {w : World}, wpAny P md ops Q f listed a w → wpAnyIn (Fence.wide.inRound l) n P md ops Q f listed a w
  | 0, _, _, _, h => h
  | f + 1, listed, a, w, h => by
    refine ⟨h.1, fun i hi => ?_⟩
    have h2 := h.2 i hi
    unfold wpOp at h2
    unfold wpOpIn
    split
    · rename_i h0; rw [h0] at h2; exact wpAnyIn_of hd hQ h2
    · rename_i o ho
      rw [ho] at h2
      simp only at h2
      split
      · rename_i hw
        rw [if_pos hw] at h2
        have hm : o ∈ ops.toList := by
          have := Array.mem_of_getElem? ho
          simpa using this
        rcases h2 with h2 | h2
        · exact Oper.wpIn_mono (fun a w h => wpAnyIn_of hd hQ h) (opIn_of (hd o hm) h2)
        · exact absurd h2.2 hQ
      · rename_i hw
        rw [if_neg hw] at h2
        exact ⟨fun _ _ => trivial, wpAnyIn_of hd hQ h2⟩
end

section
variable {P : Program} {F : Fence} {m n : Nat} {w0 : World}
/-- the loop's record -/
abbrev recL (fn : FuncId) (tmps : Array Value) (ps : Array Tmp) (assign body : Code) (D : Nat) (st : LoopState) (pe : Option Code) : Loop := { state := st, pending := pe, fn, tmps, params := ps, assign, body, defers := D }
theorem St.putL {L : List HP} {b : Nat} {o : Obj} {w : World} (h : St w0 (HP.at b o :: L) w) (o' : Obj) : St w0 (HP.at b o' :: L) (w.putObj b o') := by
  refine h.become ⟨rfl, rfl, rfl, by simp [World.putObj], fun k hk => ?_⟩ ?_ (fun k hk _ => ?_)
  · have h1 := h.block.1
    exact World.putObj_heap_other (by omega)
  · exact World.putObj_heap_same (Array.getElem?_eq_some_iff.1 h.block.2).1
  · exact World.putObj_heap_other hk
/-- how a round's body may be left -/
def rndPost (w0 : World) (l : Nat) (rec : LoopState → Option Code → Loop) (N : List HP → Prop) (X : Code → List HP → Prop) : Exit → Act → World → Prop
  | .normal, _, W => ∃ R, St w0 (HP.at l (.loop (rec .busy none)) :: R) W ∧ N R
  | .ret, _, W => ∃ R, St w0 (HP.at l (.loop (rec .busy none)) :: R) W ∧ X .ret R
  | .exit id, _, W => ∃ R, St w0 (HP.at l (.loop (rec .busy none)) :: R) W ∧ X (.exit id) R
  | .goto t, _, W => ∃ R, St w0 (HP.at l (.loop (rec .busy none)) :: R) W ∧ X (.goto t) R
  | .panic _, _, _ => False
  | .outgrown, _, _ => False
/-- one round -/
theorem round_st {l : Nat} {fn : FuncId} {tmps : Array Value} {ps : Array Tmp} {assign body : Code} {D : Nat} {args : Array Value} {W : World} {R0 : List HP} {N : List HP → Prop} {X : Code → List HP → Prop} (a₁ : Act)
    (hfn : F.fn fn) (hs : St w0 (HP.at l (.loop (recL fn tmps ps assign body D .ready none)) :: R0) W) (hps : args.size = ps.size)
    (hassign : ∀ (K : Act → World → Prop), K a₁ W → assign.wpIn (F.inRound l) m P (Exit.then K (fun _ _ _ => False)) { tmps := (ps.zip args).foldl (fun t (p, v) => t.setIfInBounds p v) tmps, defers := [] } W)
    (hbody : ∀ W1, St w0 (HP.at l (.loop (recL fn tmps ps assign body D .busy none)) :: R0) W1 → body.wpIn (F.inRound l) m P (rndPost w0 l (recL fn tmps ps assign body D) N X) a₁ W1) :
    YieldAt F m P l args W fun e W' => (e = .returned (.bool true) ∧ ∃ R, St w0 (HP.at l (.loop (recL fn tmps ps assign body D .ready none)) :: R) W' ∧ N R) ∨
      (e = .returned (.bool false) ∧ ∃ c R, St w0 (HP.at l (.loop (recL fn tmps ps assign body D .done (some c))) :: R) W' ∧ X c R) := by
  have hl := hs.block.2
  have hy := run_yield (P := P) (args := args) hl hps
  refine ⟨fn, _, assign, body, hy, roundIn_of_wpIn hfn (hassign _ ⟨_, run_beginRound hl rfl, ?_⟩)⟩
  have h1 := hs.putL (.loop (recL fn tmps ps assign body D .busy none))
  refine wpIn_mono (hbody _ h1) ?_
  rintro e a3 W3 hp
  cases e with
  | normal =>
    obtain ⟨R, h2, h3⟩ := hp
    exact ⟨_, _, run_endRound none h2.block.2, .inl ⟨rfl, R, h2.putL _, h3⟩⟩
  | ret =>
    obtain ⟨R, h2, h3⟩ := hp
    exact ⟨_, _, run_endRound (some .ret) h2.block.2, .inr ⟨rfl, .ret, R, h2.putL _, h3⟩⟩
  | exit id =>
    obtain ⟨R, h2, h3⟩ := hp
    exact ⟨_, _, run_endRound (some (.exit id)) h2.block.2, .inr ⟨rfl, .exit id, R, h2.putL _, h3⟩⟩
  | goto t =>
    obtain ⟨R, h2, h3⟩ := hp
    exact ⟨_, _, run_endRound (some (.goto t)) h2.block.2, .inr ⟨rfl, .goto t, R, h2.putL _, h3⟩⟩
  | panic ch => exact hp.elim
  | outgrown => exact hp.elim

/-- the range: the iterator's call from the laid record on -/
theorem range_st {g : Operand} {ps : Array Tmp} {assign body : Code} {Q : Exit → Act → World → Prop} {a : Act} {w : World} {R0 : List HP} {N : List HP → Prop} {X : Code → List HP → Prop}
    (hro : F.round = none) (h1 : 1 ≤ n) {gf : Nat} {lb : Array Value} (hg : a.eval g = .func (.func gf) #[] lb) (hFg : F.fn gf) (eg : ∀ args w, (callFunc gf args).run P w = .ok (.enter gf args) w)
    (hs : St w0 R0 w)
    (hcall : ∀ (fn : FuncId) (l D : Nat) (W : World), F.fn fn → D = w.heap.size → St w0 (HP.at l (.loop (recL fn a.tmps ps assign body D .ready none)) :: HP.at D (.deferred (some [])) :: R0) W →
      CallsIn F (n - 1) P gf (#[.func (.yield l) #[] #[]] ++ lb) W fun e W' => (∃ v, e = .returned v) ∧
        ((∃ R, St w0 (HP.at l (.loop (recL fn a.tmps ps assign body D .ready none)) :: HP.at D (.deferred (some [])) :: R) W' ∧ N R) ∨
         (∃ c R, St w0 (HP.at l (.loop (recL fn a.tmps ps assign body D .done (some c))) :: HP.at D (.deferred (some [])) :: R) W' ∧ X c R)))
    (hdone : ∀ (D : Nat) (R : List HP) (W : World), N R → St w0 (HP.at D (.deferred (some [])) :: R) W → Q .normal { a with defers := { target := .collected D, args := #[] } :: a.defers } W)
    (hstop : ∀ (D : Nat) (c : Code) (R : List HP) (W : World), X c R → St w0 (HP.at D (.deferred (some [])) :: R) W → c.wpIn F n P Q { a with defers := { target := .collected D, args := #[] } :: a.defers } W) :
    (Code.rangeFunc g ps assign body).wpIn F n P Q a w := by
  refine wpIn_rangeFunc ?_
  intro fn hfn
  rw [hro]
  have h2 := (hs.alloc (.deferred (some [])))
  have h3 := h2.alloc (.loop (recL fn a.tmps ps assign body w.heap.size .ready none))
  rw [World.size_alloc] at h3
  have he := run_enterLoop_outer (P := P) (w := w) fn a.tmps ps assign body
  generalize hW1 : (w.alloc (.deferred (some []))).alloc (.loop { state := .ready, pending := none, fn, tmps := a.tmps, params := ps, assign, body, defers := w.heap.size }) = W1 at he h3
  refine ⟨w.heap.size + 1, [{ target := .collected w.heap.size, args := #[] }], W1, { target := .fn (.func gf) lb, args := #[.func (.yield (w.heap.size + 1)) #[] #[]] }, W1, gf,
    #[.func (.yield (w.heap.size + 1)) #[] #[]] ++ lb, W1, he, ?_, ?_, ?_, fun _ => h1, ?_⟩
  · simp only [resolve, hg]
    simp [go_sem]
  · intro f' hf'; simp [Target.leads] at hf'; subst hf'; exact hFg
  · simp [invoke, go_sem, eg]
  · refine (hcall fn _ _ _ hfn rfl h3).mono ?_
    rintro e W2 ⟨⟨v, rfl⟩, (⟨R, hR, hN⟩ | ⟨c, R, hR, hX⟩)⟩
    · exact ⟨none, _, run_endLoop hR.block.2 (by simp), hdone _ R _ hN (hR.putL (.loop { recL fn a.tmps ps assign body w.heap.size .ready none with state := .exhausted })).drop⟩
    · exact ⟨some c, _, run_endLoop hR.block.2 (by simp), hstop _ c R _ hX (hR.putL (.loop { recL fn a.tmps ps assign body w.heap.size .done (some c) with state := .exhausted })).drop⟩
end
end Go.Proofs.YtcihbmifogfdpaaGreatDoor

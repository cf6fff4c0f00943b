/-
  Code and calls: what the machine finds, the program does, on whatever tape.
-/
import Derived.Test.YtcihbmifogfdpaaGreatDoorK11
import Derived.LoopN
namespace Go.Proofs.YtcihbmifogfdpaaGreatDoor
open Go.RowKit
namespace Cl

def Ex.to : Ex → Exit
  | .normal => .normal
  | .exit id => .exit id
  | .ret => .ret

section
variable {P : Program} {w0 : World} {nt : Nat} {call : FuncId → List Value → HM Value}

/-- what is said of code -/
def CodeOk (P : Program) (w0 : World) (nt : Nat) (f : Regs → HM (Ex × Regs)) (c : Code) : Prop := ∀ (g : Regs) (n : Nat) (h : H) (y : Res (Ex × Regs)) (ρ : Pm) (a : Act) (w : World) (Q : Exit → Act → World → Prop), Reg ρ nt g a → W P w0 ρ h w → (f g).run n h = some y →
  (∀ ρ' a' w', ρ.le ρ' → Reg ρ' nt y.a.2 a' → W P w0 ρ' y.h w' → Q y.a.1.to a' w') → c.wp P Q a w

theorem iter_ok {body : Regs → HM (Ex × Regs)} {c : Code} (hb : CodeOk P w0 nt body c) : ∀ (m : Nat) (g : Regs) (n : Nat) (h : H) (y : Res (Ex × Regs)) (ρ : Pm) (a : Act) (w : World) (Q : Exit → Act → World → Prop), Reg ρ nt g a → W P w0 ρ h w → (iterA body m g).run n h = some y →
    (∀ ρ' a' w', ρ.le ρ' → Reg ρ' nt y.a.2 a' → W P w0 ρ' y.h w' → Q y.a.1.to a' w') → Code.rounds P c Q m a w
  | 0, g, n, h, y, ρ, a, w, Q, hr, hw, e, hQ => by unfold iterA at e; rw [HM.fail_iff] at e; cases e
  | m + 1, g, n, h, y, ρ, a, w, Q, hr, hw, e, hQ => by
    unfold iterA at e
    rw [HM.bind_iff] at e
    obtain ⟨⟨⟨ex, g1⟩, n1, h1, r1, q1⟩, e1, y2, e2, rfl⟩ := e
    rw [rounds_succ]
    refine hb g n h _ ρ a w _ hr hw e1 fun ρ' a' w' l1 l2 l3 => ?_
    simp only at e2 l2 l3 ⊢
    cases ex with
    | normal =>
      simp only at e2
      obtain ⟨r, c1, c2⟩ := compK_spec g1 0 (fun g1 => iterA body m g1)
      rw [c1] at e2
      have l2' : Reg ρ' nt r a' := ⟨l2.size, l2.defers, fun t v ht => l2.tmp t v (by have := c2 t; rw [Nat.zero_testBit, if_neg (by simp)] at this; exact this.symm.trans ht)⟩
      exact iter_ok hb m r _ _ y2 ρ' a' w' Q l2' l3 e2 fun ρ'' a'' w'' k1 => hQ ρ'' a'' w'' (Pm.le_trans l1 k1)
    | exit id => have := HM.pure_iff.1 e2; subst this; exact hQ ρ' a' w' l1 l2 l3
    | ret => have := HM.pure_iff.1 e2; subst this; exact hQ ρ' a' w' l1 l2 l3

theorem exec_ok (hm : P.follows .mixedOrders = true) (hC : CallOk P w0 call) (L : Nat) : ∀ c, CodeOk P w0 nt (exec P call nt L c) c := by
  intro c
  induction c with
  | skip =>
    intro g n h y ρ a w Q hr hw e hQ
    have := HM.pure_iff.1 e
    subst this
    exact wp_skip (hQ ρ a w (Pm.le_refl _) hr hw)
  | region id ops draw =>
    intro g n h y ρ a w Q hr hw e hQ
    unfold exec at e
    cases draw with
    | true =>
      simp only at e
      rw [HM.bind_iff] at e
      obtain ⟨y1, e1, y2, e2, rfl⟩ := e
      have := HM.pure_iff.1 e2
      subst this
      exact goD_ok hC hm hr hw e1 fun ρ' a' w' l1 l2 l3 => hQ ρ' a' w' l1 l2 l3
    | false =>
      simp only at e
      rw [HM.bind_iff] at e
      obtain ⟨y1, e1, y2, e2, rfl⟩ := e
      have := HM.pure_iff.1 e2
      subst this
      exact wp_region_list (goT_ok hC _ g n h y1 ρ a w hr hw e1 fun ρ' a' w' l1 l2 l3 => hQ ρ' a' w' l1 l2 l3)
  | seq c d ihc ihd =>
    intro g n h y ρ a w Q hr hw e hQ
    unfold exec at e
    rw [HM.bind_iff] at e
    obtain ⟨⟨⟨ex, g1⟩, n1, h1, r1, q1⟩, e1, y2, e2, rfl⟩ := e
    refine wp_seq (ihc g n h _ ρ a w _ hr hw e1 fun ρ' a' w' l1 l2 l3 => ?_)
    simp only at e2 l2 l3 ⊢
    cases ex with
    | normal => exact ihd g1 _ _ y2 ρ' a' w' Q l2 l3 e2 fun ρ'' a'' w'' k1 => hQ ρ'' a'' w'' (Pm.le_trans l1 k1)
    | exit id => have := HM.pure_iff.1 e2; subst this; exact hQ ρ' a' w' l1 l2 l3
    | ret => have := HM.pure_iff.1 e2; subst this; exact hQ ρ' a' w' l1 l2 l3
  | cond x c d ihc ihd =>
    intro g n h y ρ a w Q hr hw e hQ
    unfold exec at e
    split at e
    · rename_i hx
      exact wp_cond_true (hr.ev hx).bool_eq (ihc g n h y ρ a w Q hr hw e hQ)
    · rename_i hx
      exact wp_cond_false (hr.ev hx).bool_eq (ihd g n h y ρ a w Q hr hw e hQ)
    · rw [HM.fail_iff] at e; cases e
  | block id c ih =>
    intro g n h y ρ a w Q hr hw e hQ
    unfold exec at e
    rw [HM.bind_iff] at e
    obtain ⟨⟨⟨ex, g1⟩, n1, h1, r1, q1⟩, e1, y2, e2, rfl⟩ := e
    refine wp_block (ih g n h _ ρ a w _ hr hw e1 fun ρ' a' w' l1 l2 l3 => ?_)
    simp only at e2 l2 l3 ⊢
    cases ex with
    | normal => have := HM.pure_iff.1 e2; subst this; exact hQ ρ' a' w' l1 l2 l3
    | ret => have := HM.pure_iff.1 e2; subst this; exact hQ ρ' a' w' l1 l2 l3
    | exit i =>
      simp only at e2
      show (if i = id then Q .normal a' w' else Q (.exit i) a' w')
      split at e2
      · rename_i hi
        have := HM.pure_iff.1 e2
        subst this
        rw [if_pos (Nat.eq_of_beq_eq_true hi)]
        exact hQ ρ' a' w' l1 l2 l3
      · rename_i hi
        have := HM.pure_iff.1 e2
        subst this
        rw [if_neg (Nat.ne_of_beq_eq_false hi)]
        exact hQ ρ' a' w' l1 l2 l3
  | loop c ih =>
    intro g n h y ρ a w Q hr hw e hQ
    unfold exec at e
    exact wp_loop_rounds L (iter_ok ih L g n h y ρ a w Q hr hw e hQ)
  | exit id =>
    intro g n h y ρ a w Q hr hw e hQ
    have := HM.pure_iff.1 e
    subst this
    exact wp_exit (hQ ρ a w (Pm.le_refl _) hr hw)
  | ret =>
    intro g n h y ρ a w Q hr hw e hQ
    have := HM.pure_iff.1 e
    subst this
    exact wp_ret (hQ ρ a w (Pm.le_refl _) hr hw)
  | _ =>
    intro g n h y ρ a w Q hr hw e hQ
    unfold exec at e
    rw [HM.fail_iff] at e
    cases e

/-! calls -/
theorem rget_nil (s : Nat) : rget [] s = none := rfl
theorem initA_spec : ∀ (vs : List Value) (t : Nat) (g g' : Regs), initA nt t vs g = some g' → ∀ s, rget g' s = if t ≤ s ∧ s < t + vs.length then vs[s - t]? else rget g s
  | [], t, g, g', e, s => by
    simp only [initA, Option.some.injEq] at e
    subst e
    rw [if_neg (by simp)]
  | v :: vs, t, g, g', e, s => by
    unfold initA at e
    split at e
    · rename_i g1 h1
      rw [initA_spec vs (t + 1) g1 g' e s]
      rcases rput_iff h1 with ⟨h, _⟩ | ⟨s', h, _, h2⟩
      · cases h
      · cases h
        rw [h2]
        by_cases hs : s = t
        · subst hs
          rw [if_neg (by omega), if_pos rfl, if_pos ⟨Nat.le_refl _, by simp⟩]
          simp
        · rw [if_neg hs]
          by_cases h3 : t + 1 ≤ s ∧ s < t + 1 + vs.length
          · rw [if_pos h3, if_pos ⟨by omega, by simp; omega⟩]
            obtain ⟨m, rfl⟩ : ∃ m, s = t + 1 + m := ⟨s - (t + 1), by omega⟩
            rw [show t + 1 + m - (t + 1) = m by omega, show t + 1 + m - t = m + 1 by omega]
            simp
          · rw [if_neg h3, if_neg (by simp; omega)]
    · cases e
theorem init_reg {ρ : Pm} {vs vs' : List Value} {g : Regs} (hv : GL ρ vs vs') (hl : vs.length ≤ nt) (e : initA nt 0 vs [] = some g) : Reg ρ nt g { tmps := vs'.toArray ++ Array.replicate (nt - vs'.toArray.size) undef, defers := [] } := by
  refine ⟨by have := hv.1; simp; omega, rfl, fun t v ht => ?_⟩
  rw [initA_spec _ _ _ _ e, rget_nil] at ht
  split at ht
  · rename_i hlt
    obtain ⟨u', e1, e2⟩ := hv.get ht
    simp only [Nat.sub_zero] at e1
    have : t < vs'.length := (List.getElem?_eq_some_iff.1 e1).1
    exact ⟨u', by simp [Array.getElem?_append, this]; simpa [this] using e1, e2⟩
  · cases ht

def resF (tmps : Array Value) : ResultVar → Sem Value
  | .tmp t => pure (tmps.getD t undef)
  | .cell a t => do loadVar t (← asAddr (tmps.getD a undef))
theorem resA_run {ρ : Pm} {g : Regs} {a : Act} {h : H} {w : World} (hr : Reg ρ nt g a) (hw : W P w0 ρ h w) : ∀ (rs : List ResultVar) (n : Nat) (y : Res (List Value)), (resA P g rs).run n h = some y → ∃ vs', (rs.mapM (resF a.tmps)).run P w = .ok vs' w ∧ GL ρ y.a vs' ∧ y.h = h
  | [], n, y, e => by
    have := HM.pure_iff.1 e
    subst this
    exact ⟨[], rfl, .nil, rfl⟩
  | .tmp t :: rs, n, y, e => by
    unfold resA at e
    rw [HM.bind_iff] at e
    obtain ⟨_, e1, y1, e2, rfl⟩ := e
    obtain ⟨v, e3, rfl⟩ := HM.opt_iff.1 e1
    rw [HM.bind_iff] at e2
    obtain ⟨y2, e4, y3, e5, rfl⟩ := e2
    have := HM.pure_iff.1 e5
    subst this
    obtain ⟨v', f1, f2⟩ := hr.tmp t v e3
    obtain ⟨vs', k1, k2, k3⟩ := resA_run hr hw rs _ _ e4
    refine ⟨v' :: vs', ?_, .cons f2 k2, k3⟩
    rw [List.mapM_cons, Sem.run_bind]
    simp [resF, f1, k1]
  | .cell c t :: rs, n, y, e => by
    unfold resA at e
    split at e
    · rename_i b off hb
      rw [HM.bind_iff] at e
      obtain ⟨⟨⟨cc, et, vec⟩, n1, h1, r1, q1⟩, e1, y1, e2, rfl⟩ := e
      obtain ⟨e6, e7⟩ := getC_inv e1
      simp only at e2 e6 e7
      subst e6
      rw [HM.bind_iff] at e2
      obtain ⟨_, e3, y2, e4, rfl⟩ := e2
      obtain ⟨v, e8, rfl⟩ := HM.opt_iff.1 e3
      rw [HM.bind_iff] at e4
      obtain ⟨y3, e9, y4, e10, rfl⟩ := e4
      have := HM.pure_iff.1 e10
      subst this
      obtain ⟨u', f1, f2⟩ := hr.tmp c _ (adr_eq hb)
      obtain ⟨p, p1, rfl⟩ := f2.ptr_inv
      obtain ⟨v', r1, r2⟩ := read_run hw e7 p1 e8
      obtain ⟨vs', k1, k2, k3⟩ := resA_run hr hw rs _ _ e9
      refine ⟨v' :: vs', ?_, .cons r2 k2, k3⟩
      rw [List.mapM_cons, Sem.run_bind]
      simp [resF, f1, asAddr, r1, k1]
    · rw [HM.fail_iff] at e; cases e
theorem results_run {ρ : Pm} {g : Regs} {a : Act} {h : H} {w : World} (hr : Reg ρ nt g a) (hw : W P w0 ρ h w) {fn : Func} {n : Nat} {y : Res (List Value)} (e : (resA P g fn.results.toList).run n h = some y) : ∃ v', (results fn a.tmps).run P w = .ok v' w ∧ G ρ (oneRes y.a) v' ∧ y.h = h := by
  obtain ⟨vs', k1, k2, k3⟩ := resA_run hr hw _ _ _ e
  have hmap : (fn.results.mapM (resF a.tmps)).run P w = .ok vs'.toArray w := by
    cases hres : fn.results with
    | mk rs =>
      rw [hres] at k1
      rw [List.mapM_toArray, Sem.run_map, k1]
      rfl
  have hrun : (results fn a.tmps).run P w = .ok (if h : vs'.toArray.size = 1 then vs'.toArray[0] else .tuple vs'.toArray) w := by
    have : results fn a.tmps = (do let vs ← fn.results.mapM (resF a.tmps); pure (if h : vs.size = 1 then vs[0] else .tuple vs)) := rfl
    rw [this, Sem.run_bind, hmap]
    rfl
  refine ⟨_, hrun, ?_, k3⟩
  generalize y.a = vs at k2
  match vs, k2 with
  | [], k2 =>
    obtain rfl := k2.nil_eq
    exact GL.nil.tuple
  | [v], k2 =>
    obtain ⟨u', l', rfl, g1, g2⟩ := k2.uncons
    obtain rfl := g2.nil_eq
    exact g1
  | v :: u :: vs, k2 =>
    have hne : ¬ vs'.toArray.size = 1 := by have := k2.1; simp at this ⊢; omega
    rw [dif_neg hne]
    exact k2.tuple

/-- what is asked of the functions that are not carried out but given -/
def OvOk (P : Program) (w0 : World) (ov : FuncId → Option (List Value → HM Value)) : Prop := ∀ f m, ov f = some m → CallOk P w0 (fun f' args => if f' = f then m args else HM.fail)
theorem callA_ok {ov : FuncId → Option (List Value → HM Value)} {L : Nat} (hm : P.follows .mixedOrders = true) (hov : OvOk P w0 ov) (hN : ∀ (f : FuncId) (fn : Func), P.funcs[f]? = some fn → fn.body.isSome = true → (fn.name == "runtime.NumGoroutine") = false) : ∀ d, CallOk P w0 (callA P ov L d)
  | 0 => fun f args n h x e => by unfold callA at e; rw [HM.fail_iff] at e; cases e
  | d + 1 => fun f args n h x e ρ w args' hw hg => by
    have ih := callA_ok (L := L) hm hov hN d
    unfold callA at e
    split at e
    · rename_i m hmv
      exact hov f m hmv f args n h x (by simpa using e) ρ w args' hw hg
    · split at e
      · rename_i fn hfn
        split at e
        · rename_i c hc
          split at e
          · rename_i hle
            rw [Nat.ble_eq] at hle
            rw [HM.bind_iff] at e
            obtain ⟨_, e1, y1, e2, rfl⟩ := e
            obtain ⟨g, e3, rfl⟩ := HM.opt_iff.1 e1
            rw [HM.bind_iff] at e2
            obtain ⟨⟨⟨ex, g1⟩, n1, h1, r1, q1⟩, e4, y2, e5, rfl⟩ := e2
            have hname := hN f fn hfn (by rw [hc]; rfl)
            have hne : ¬ fn.name = "runtime.NumGoroutine" := by simpa using hname
            have hcall : (callFunc f args'.toArray).run P w = .ok (.enter f args'.toArray) w := by
              unfold callFunc
              simp [hfn, hne, hc]
            rw [hcall]
            show Calls P f args'.toArray w _
            · refine calls_of_wp hfn hc ?_
              have hreg := init_reg hg hle e3
              refine exec_ok hm ih L c g _ _ _ ρ _ w _ hreg hw e4 fun ρ' a' w' l1 l2 l3 => ?_
              simp only at e5 l2 l3 ⊢
              have fin : (do let vs ← resA P g1 fn.results.toList; pure (oneRes vs) : HM Value).run n1 h1 = some y2 → a'.defers = [] ∧ ∃ v, (results fn a'.tmps).run P w' = .ok v w' ∧ ∃ v', Ending.returned v = .returned v' ∧ Post P w0 ρ ⟨y2.a, y2.n, y2.h, 0 ||| (r1 ||| y2.r), 0 ||| (q1 ||| y2.w)⟩ v' w' := fun e6 => by
                rw [HM.bind_iff] at e6
                obtain ⟨y3, e7, y4, e8, rfl⟩ := e6
                have := HM.pure_iff.1 e8
                subst this
                obtain ⟨v', k1, k2, k3⟩ := results_run l2 l3 e7
                exact ⟨l2.defers, v', k1, v', rfl, ρ', l1, by simp only [k3]; exact l3, k2⟩
              cases ex with
              | normal => exact fin e5
              | ret => exact fin e5
              | exit id => rw [HM.fail_iff] at e5; cases e5
          · rw [HM.fail_iff] at e; cases e
        · rw [HM.fail_iff] at e; cases e
      · rw [HM.fail_iff] at e; cases e

/-- A CLOSED CALL: what the machine finds, from a memory that holds package's variables alone on, is what the call returns, on whatever tape. -/
theorem closed_call {ov : FuncId → Option (List Value → HM Value)} {L d n0 : Nat} {h0 : H} {f : FuncId} {args : List Value} {p : Value → Bool} (hm : P.follows .mixedOrders = true) (hN : ∀ (f : FuncId) (fn : Func), P.funcs[f]? = some fn → fn.body.isSome = true → (fn.name == "runtime.NumGoroutine") = false) (w : World) (hov : OvOk P w ov)
    (hh : ∀ i o, hget h0 i = some o → ∃ k c, o = .glob k c ∧ k < w.heap.size ∧ ∀ (j : Nat) (u : Value), c[j]? = some u → closedB CD u = true ∧ w.cell? ⟨k, j, none⟩ = some u)
    (ha : ∀ v ∈ args, closedB CD v = true) (he : (callFunc f args.toArray).run P w = .ok (.enter f args.toArray) w) (e : (callA P ov L d f args).kont Bool n0 h0 0 0 (fun a _ _ _ _ => some (p a)) = some true) :
    Calls P f args.toArray w fun e w' => ∃ v v', p v = true ∧ e = .returned v' ∧ Below w.heap.size w w' ∧ (closedB CD v = true → v' = v) := by
  rw [HM.kok] at e
  cases hrun : (callA P ov L d f args).run n0 h0 with
  | none => rw [hrun] at e; cases e
  | some x =>
    rw [hrun] at e
    have hp : p x.a = true := by simpa [thenK] using e
    have := callA_ok hm hov hN d f args n0 h0 x hrun _ w args (W.start w hh) (GL.same fun u hu => G.of_closed _ _ (ha u hu))
    rw [he] at this
    exact Calls.mono this fun e w' ⟨v', h1, ρ', _, h3, h4⟩ => ⟨x.a, v', hp, h1, h3.below, fun hc => G.closed_eq _ _ _ hc h4⟩
end
end Cl
end Go.Proofs.YtcihbmifogfdpaaGreatDoor

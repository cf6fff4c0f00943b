/-
  The machine's memory as an assertion: it begins, and goes on by a call, one block of it known to others.
-/
import Derived.Test.YtcodjodhacjfeaaGreatDoorK14
namespace Go.Proofs.YtcodjodhacjfeaaGreatDoor
open Go.RowKit
namespace Cl
/-- block number 16 lies there -/
def R16 (p : Pl) : Pm := fun i => if i = 16 then some p else none
theorem R16_le {p : Pl} {ρ : Pm} : (R16 p).le ρ ↔ ρ 16 = some p := by
  constructor
  · intro h; exact h 16 p (by simp [R16])
  · intro h i q e
    unfold R16 at e
    split at e
    · rename_i hi; cases e; rw [hi]; exact h
    · cases e
section
variable {P : Program} {wr w : World} {A : List HP}
theorem rep_start {h : H} (hs : St wr A w) (hh : ∀ i o, hget h i = some o → ∃ k c, o = .glob k c ∧ k < wr.heap.size ∧ ∀ (j : Nat) (u : Value), c[j]? = some u → closedB CD u = true ∧ wr.cell? ⟨k, j, none⟩ = some u) : St wr (repP P wr h (fun _ => none) :: A) w := by
  obtain ⟨hb, m, hm, hc⟩ := hs
  have hw : W P ⟨wr, m⟩ (rho0 h) h w := by
    refine ⟨⟨hb, fun b o e => (hc b o e).2⟩, fun i e => by simp [rho0, e], fun i o e => ?_, fun i j oi oj p q _ e _ _ _ hl _ => ?_⟩
    · obtain ⟨k, c, rfl, h1, h2⟩ := hh i o e
      exact ⟨⟨k, 0, 0⟩, by simp [rho0, e], rfl, h1, fun j u hu => ⟨u, (h2 j u hu).2, G.of_closed _ _ (h2 j u hu).1⟩⟩
    · obtain ⟨k, c, rfl, _⟩ := hh i oi e
      cases hl
  exact (repP.of hw hm fun b o e => (hc b o e).1).mono fun m hm => repP_le (fun i q e => by cases e) m hm
/-- block number 16 is a row of known end: it lies at its block's begin -/
theorem rep_base {h : H} {p : Pl} {c : List Value} {e : TypeId} (hs : St wr (repP P wr h (R16 p) :: A) w) (h16 : hget h 16 = some (.cells c e false)) : p.base = 0 ∧ p.slack = 0 := by
  obtain ⟨ρ, fr, h1, h2, _⟩ := repP.run hs
  have := (h2.row h16 (R16_le.1 h1)).2.1 rfl
  exact ⟨this.2, this.1⟩
variable {ov : FuncId → Option (List Value → HM Value)} {L d n0 : Nat} {f : FuncId}
/-- a call, by the machine: what it gives, and the memory it leaves -/
theorem rep_run {args args' : List Value} {x : Res Value} {h : H} {p : Pl} (hm : P.follows .mixedOrders = true) (hN : ∀ (f : FuncId) (fn : Func), P.funcs[f]? = some fn → fn.body.isSome = true → (fn.name == "runtime.NumGoroutine") = false)
    (hov : ∀ fr, OvOk P ⟨wr, fr⟩ ov) (hs : St wr (repP P wr h (R16 p) :: A) w) (ha : ∀ ρ : Pm, ρ 16 = some p → GL ρ args args') (he : (callFunc f args'.toArray).run P w = .ok (.enter f args'.toArray) w) (e : (callA P ov L d f args).run n0 h = some x) :
    Calls P f args'.toArray w fun e w' => ∃ v', e = .returned v' ∧ (closedB CD x.a = true → v' = x.a) ∧ St wr (repP P wr x.h (R16 p) :: A) w' :=
  (rep_call hm hN hov hs (fun ρ hl => ha ρ (R16_le.1 hl)) he e).mono fun _ _ ⟨v', _, h1, h2, h3, h4⟩ => ⟨v', h1, fun hc => G.closed_eq _ _ _ hc h3, h4.mono fun m hm => repP_le h2 m hm⟩
theorem run_of_kont {args : List Value} {h : H} {β : Type} {c : Value → Nat → H → Nat → Nat → Option β} {b : β} (e : (callA P ov L d f args).kont β n0 h 0 0 c = some b) : ∃ x, (callA P ov L d f args).run n0 h = some x ∧ c x.a x.n x.h (0 ||| x.r) (0 ||| x.w) = some b := by
  rw [HM.kok] at e
  cases hr : (callA P ov L d f args).run n0 h with
  | none => rw [hr] at e; cases e
  | some x => rw [hr] at e; exact ⟨x, rfl, e⟩
/-- a call that leaves a memory by other numbers -/
theorem rep_step {args args' : List Value} {σ : List (Nat × Nat)} {l2 : List (Nat × AO)} {h : H} {p : Pl} {v : Value} {K : List (Nat × Nat)} (hm : P.follows .mixedOrders = true) (hN : ∀ (f : FuncId) (fn : Func), P.funcs[f]? = some fn → fn.body.isSome = true → (fn.name == "runtime.NumGoroutine") = false)
    (hov : ∀ fr, OvOk P ⟨wr, fr⟩ ov) (hs : St wr (repP P wr h (R16 p) :: A) w) (ha : ∀ ρ : Pm, ρ 16 = some p → GL ρ args args') (he : (callFunc f args'.toArray).run P w = .ok (.enter f args'.toArray) w)
    (e : (callA P ov L d f args).kont (Bool × List (Nat × Nat)) n0 h 0 0 (fun a _ h _ _ => some (match sameV (turnM σ) CD v a, turnB σ l2 h with
      | true, true => true
      | _, _ => false, clks σ l2 h)) = some (true, K)) (hK : ∀ x ∈ K, x.1 = x.2) (hv : closedB CD v = true) (h16 : look σ 16 = some 16) :
    Calls P f args'.toArray w fun e w' => e = .returned v ∧ St wr (repP P wr (ofL l2) (R16 p) :: A) w' := by
  obtain ⟨x, hx, e2⟩ := run_of_kont e
  simp only [Option.some.injEq, Prod.mk.injEq] at e2
  obtain ⟨e3, e4⟩ := e2
  split at e3
  · rename_i s1 s2
    refine (rep_call hm hN hov hs (fun ρ hl => ha ρ (R16_le.1 hl)) he hx).mono fun e' w' ⟨v', R', h1, h2, h3, h4⟩ => ⟨?_, ?_⟩
    · rw [h1]
      congr 1
      exact sameV_eq (ρ := R') hv s1 (turnP σ R') (fun i j hij => by
        unfold turnM at hij
        unfold turnP
        split at hij
        · rw [Nat.eq_of_beq_eq_true hij]
        · cases hij) h3
    · refine rep_turn h4 s2 (by rw [e4]; exact hK) fun ρ hl => R16_le.2 ?_
      unfold turnP
      simp only [h16]
      exact hl 16 p (h2 16 p (by simp [R16]))
  · cases e3
end
end Cl
end Go.Proofs.YtcodjodhacjfeaaGreatDoor

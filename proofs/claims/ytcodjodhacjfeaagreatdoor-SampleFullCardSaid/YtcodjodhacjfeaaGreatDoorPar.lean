/-
  A region that draws its order, walked once in the order of the text: each operation either yields one value in every world in which the shared assertions hold, or takes some assertions of its own and gives another one.
-/
import Derived.Test.YtcodjodhacjfeaaGreatDoorStar
import Derived.Deep.QuietTactic
import Derived.StillTail
import Derived.Laws.MakeOwn
namespace Go.Proofs.YtcodjodhacjfeaaGreatDoor
open Go.RowKit

/-- what an operation may do: it yields, or its callee returns -/
def effUpon (P : Program) (post : Value → World → Prop) : Result Next → Prop
  | .ok (.value u) w' => post u w'
  | .ok .skip w' => post undef w'
  | .ok (.enter f args) w' => Calls P f args w' fun e w'' => ∃ u, e = .returned u ∧ post u w''
  | _ => False
def effAt (P : Program) (o : Oper) (a : Act) (w : World) (post : Value → World → Prop) : Prop := effUpon P post ((execOp a.eval o).run P w)
def pureUpon (w : World) (v : Value) : Result Next → Prop
  | .ok (.value u) w' => w' = w ∧ u = v
  | .ok .skip w' => w' = w ∧ v = undef
  | _ => False
def pureAt (P : Program) (o : Oper) (a : Act) (w : World) (v : Value) : Prop := pureUpon w v ((execOp a.eval o).run P w)

attribute [go_sem] pureAt pureUpon effAt effUpon

theorem pureUpon_fun {w : World} {u v : Value} {r : Result Next} (h1 : pureUpon w u r) (h2 : pureUpon w v r) : u = v := by
  cases r with
  | ok n w' =>
    cases n <;> simp only [pureUpon] at h1 h2
    · exact h1.2.symm.trans h2.2
    · exact h1.2.trans h2.2.symm
  | halt x w' => simp only [pureUpon] at h1

/-- an index's token list, and the operations that take tokens -/
def eatsOf (es : List (Nat × List Nat)) (i : Nat) : Option (List Nat) := es.lookup i

section
variable (P : Program) (ops : Array Oper) (w0 : World) (R T0 : List HP) (es : List (Nat × List Nat)) (ph : Nat → Value → Prop) (gv : Nat → Value → HP)

def tokA (vs : Nat → Value) (t : Nat) : HP := if t < T0.length then T0.getD t HP.emp else gv (t - T0.length) (vs (t - T0.length))

def parOp (i : Nat) (K : Act → (Nat → Value) → Prop) (a : Act) (vs : Nat → Value) : Prop :=
  match ops[i]? with
  | none => K a vs
  | some o =>
    match eatsOf es i with
    | some c => (∃ v, ph i v) ∧ (∀ G w, St w0 (c.map (tokA T0 gv vs) ++ (R ++ G)) w → effAt P o a w (fun v w' => ph i v ∧ St w0 (gv i v :: (R ++ G)) w')) ∧ ∀ v, ph i v → K (a.put o.dst v) (upd vs i v)
    | none => if Region.wanted o (yielded ops a.tmps) then ∃ v, (∀ G w, St w0 (R ++ G) w → pureAt P o a w v) ∧ K (a.put o.dst v) vs else K (a.put o.dst undef) vs

/-- the walk in the order of the text, from operation k on -/
def wpPar (Q : Act → (Nat → Value) → Prop) : Nat → Nat → Act → (Nat → Value) → Prop
  | 0, _, a, vs => Q a vs
  | n + 1, k, a, vs => parOp P ops w0 R T0 es ph gv k (wpPar Q n (k + 1)) a vs

def wpAnyP (md : Region.Mode) (stop : Nat) (Q : Act → (Nat → Value) → Prop) : Nat → Array Bool → Act → (Nat → Value) → Prop
  | 0, listed, a, vs => (∀ j ∈ Region.ready md ops listed, stop ≤ j) ∧ Q a vs
  | fuel + 1, listed, a, vs =>
    Region.ready md ops listed ≠ [] ∧
    ∀ i ∈ Region.ready md ops listed, i < stop ∧ parOp P ops w0 R T0 es ph gv i (wpAnyP md stop Q fuel (listed.setIfInBounds i true)) a vs
/-- each operation from 'stop' on waits for all before it -/
def tailB (md : Region.Mode) (stop : Nat) : Bool := (List.range ops.size).all fun j => decide (j < stop) || (List.range stop).all fun i => Region.waitsFor md ops j i

/-- is a token there, when these operations have been carried out -/
def liveB (n0 : Nat) (listed : Array Bool) (t : Nat) : Bool :=
  (decide (t < n0) || ((eatsOf es (t - n0)).isSome && listed.getD (t - n0) false)) && es.all fun p => !(listed.getD p.1 false && p.2.contains t)

/-- the check of the lists of tokens -/
def parB (md : Region.Mode) (n0 : Nat) : Bool :=
  selOk ops.size (es.map (·.1)) &&
  es.all fun p => (match ops[p.1]? with
    | some o => o.guard.isNone && selOk (n0 + ops.size) p.2 &&
      p.2.all fun t => decide (t < n0) || ((eatsOf es (t - n0)).isSome && o.after.any fun e => Region.binds md e && (decide (e.on = t - n0) || Region.waitsFor md ops e.on (t - n0)))
    | none => false) && es.all fun q => decide (q.1 = p.1) || p.2.all fun t => !q.2.contains t
end

section
variable {P : Program} {ops : Array Oper} {w0 : World} {R T0 : List HP} {es : List (Nat × List Nat)} {ph : Nat → Value → Prop} {gv : Nat → Value → HP} {md : Region.Mode}

theorem parOp_mono {i : Nat} {K K' : Act → (Nat → Value) → Prop} {a : Act} {vs : Nat → Value} (h : ∀ a vs, K a vs → K' a vs) (hh : parOp P ops w0 R T0 es ph gv i K a vs) : parOp P ops w0 R T0 es ph gv i K' a vs := by
  unfold parOp at *
  split
  · rename_i e; simp only [e] at hh; exact h _ _ hh
  · rename_i o e
    simp only [e] at hh
    split
    · rename_i c ec
      simp only [ec] at hh
      exact ⟨hh.1, hh.2.1, fun v hv => h _ _ (hh.2.2 v hv)⟩
    · rename_i ec
      simp only [ec] at hh
      split
      · rename_i hw
        simp only [hw, if_true] at hh
        obtain ⟨v, h1, h2⟩ := hh
        exact ⟨v, h1, h _ _ h2⟩
      · rename_i hw
        simp only [hw] at hh
        exact h _ _ hh

theorem tokA_upd {vs : Nat → Value} {i t : Nat} {v : Value} (h : t ≠ T0.length + i) : tokA T0 gv (upd vs i v) t = tokA T0 gv vs t := by
  unfold tokA
  split
  · rfl
  · rename_i h1
    rw [upd_ne (by omega)]

/-- what an operation is and does in a state, without what follows -/
def SpecOf (P : Program) (w0 : World) (R T0 : List HP) (gv : Nat → Value → HP) (ph : Nat → Value → Prop) (i : Nat) (o : Oper) (c : List Nat) (a : Act) (vs : Nat → Value) : Prop :=
  ∀ G w, St w0 (c.map (tokA T0 gv vs) ++ (R ++ G)) w → effAt P o a w (fun v w' => ph i v ∧ St w0 (gv i v :: (R ++ G)) w')

theorem effAt_same {o : Oper} {a a' : Act} {w : World} {post : Value → World → Prop} (he : execOp a'.eval o = execOp a.eval o) : effAt P o a' w post = effAt P o a w post := by
  unfold effAt; rw [he]
theorem pureAt_same {o : Oper} {a a' : Act} {w : World} {v : Value} (he : execOp a'.eval o = execOp a.eval o) : pureAt P o a' w v = pureAt P o a w v := by
  unfold pureAt; rw [he]

theorem SpecOf.put {i j : Nat} {oj : Oper} {c : List Nat} {a : Act} {vs : Nat → Value} {dst : Option Tmp} {v : Value} (hc : ∀ t ∈ c, t ≠ T0.length + i) (he : execOp (a.put dst v).eval oj = execOp a.eval oj) :
    SpecOf P w0 R T0 gv ph j oj c (a.put dst v) (upd vs i v) ↔ SpecOf P w0 R T0 gv ph j oj c a vs := by
  unfold SpecOf
  have : c.map (tokA T0 gv (upd vs i v)) = c.map (tokA T0 gv vs) := List.map_congr_left fun t ht => tokA_upd (hc t ht)
  simp only [this, effAt_same he]
theorem SpecOf.put' {j : Nat} {oj : Oper} {c : List Nat} {a : Act} {vs : Nat → Value} {dst : Option Tmp} {v : Value} (he : execOp (a.put dst v).eval oj = execOp a.eval oj) :
    SpecOf P w0 R T0 gv ph j oj c (a.put dst v) vs ↔ SpecOf P w0 R T0 gv ph j oj c a vs := by
  unfold SpecOf
  simp only [effAt_same he]

theorem upd_comm {α : Type} {vs : Nat → α} {i j : Nat} {u v : α} (h : i ≠ j) : upd (upd vs i u) j v = upd (upd vs j v) i u := by
  funext k
  unfold upd
  split
  · rename_i e; subst e; rw [if_neg (Ne.symm h)]
  · rfl

theorem getD_true_false {listed : Array Bool} {i : Nat} (h : listed.getD i true = false) : listed.getD i false = false ∧ i < listed.size := by
  rcases Nat.lt_or_ge i listed.size with h' | h'
  · simp [h'] at h ⊢; exact h
  · simp [Array.getElem?_eq_none h'] at h
theorem tail_below {stop i j : Nat} {listed : Array Bool} (hT : tailB ops md stop = true) (his : i < stop) (hi : listed.getD i true = false) (hj : j ∈ Region.ready md ops listed) : j < stop := by
  rcases Nat.lt_or_ge j stop with h | h
  · exact h
  · exfalso
    obtain ⟨_, oj, hoj, hall⟩ := mem_ready.1 hj
    have hjs : j < ops.size := (Array.getElem?_eq_some_iff.1 hoj).1
    have h1 := List.all_eq_true.1 hT j (List.mem_range.2 hjs)
    simp only [Bool.or_eq_true, decide_eq_true_eq] at h1
    have h2 := List.all_eq_true.1 (h1.resolve_left (by omega)) i (List.mem_range.2 his)
    obtain ⟨o', ho', e, he, hb, hon⟩ := Region.waitsFor_spec h2
    rw [hoj] at ho'
    cases ho'
    have h3 := hall e he hb
    rw [hon, (getD_true_false hi).1] at h3
    cases h3
/-- what is carried out has what it waits for behind it -/
def Closed (md : Region.Mode) (ops : Array Oper) (listed : Array Bool) : Prop := ∀ q o, listed.getD q false = true → ops[q]? = some o → ∀ e ∈ o.after, Region.binds md e = true → listed.getD e.on false = true
theorem Closed.start {ops : Array Oper} {n : Nat} : Closed md ops (Array.replicate n false) := fun q o h => by
  exfalso
  by_cases hq : q < n
  · simp [hq] at h
  · simp [hq] at h
theorem Closed.set {ops : Array Oper} {listed : Array Bool} {i : Nat} (h : Closed md ops listed) (hr : i ∈ Region.ready md ops listed) : Closed md ops (listed.setIfInBounds i true) := by
  intro q o hq ho e he hb
  by_cases hqi : q = i
  · subst hqi
    obtain ⟨_, o', ho', hall⟩ := mem_ready.1 hr
    rw [ho'] at ho
    cases ho
    exact getD_set_true (hall e he hb)
  · rw [getD_set_ne false (Ne.symm hqi)] at hq
    exact getD_set_true (h q o hq ho e he hb)

/-- what it waits for, or what that waits for -/
theorem Closed.two {ops : Array Oper} {listed : Array Bool} (h : Closed md ops listed) {q t : Nat} {o : Oper} (ho : ops[q]? = some o) (hq : listed.getD q false = true ∨ q ∈ Region.ready md ops listed) (hw : ∃ e ∈ o.after, Region.binds md e = true ∧ (e.on = t ∨ Region.waitsFor md ops e.on t = true)) : listed.getD t false = true := by
  obtain ⟨e, he, hb, hon⟩ := hw
  have h1 : listed.getD e.on false = true := by
    rcases hq with hq | hq
    · exact h q o hq ho e he hb
    · obtain ⟨_, o', ho', hall⟩ := mem_ready.1 hq
      rw [ho] at ho'
      cases ho'
      exact hall e he hb
  rcases hon with rfl | hon
  · exact h1
  · obtain ⟨o2, ho2, e2, he2, hb2, hon2⟩ := Region.waitsFor_spec hon
    have := h e.on o2 h1 ho2 e2 he2 hb2
    rwa [hon2] at this
/-- what an operation of the one kind or the other does, when it comes up ahead of another one that is apart from it -/
theorem wpAnyP_first {Q : Act → (Nat → Value) → Prop} {stop i : Nat} {oi : Oper} (hT : tailB ops md stop = true) (his : i < stop) (hw0 : ∃ G w, St w0 (R ++ G) w) (hi : ops[i]? = some oi) (hsel : ∀ (j : Nat) (o : Oper) cs b, ops[j]? = some o → o.op ≠ .select cs b)
    (hclear : ∀ (listed : Array Bool) j c, Closed md ops listed → eatsOf es j = some c → j ∈ Region.ready md ops listed → ∀ i, listed.getD i true = false → ∀ t ∈ c, t ≠ T0.length + i) :
    ∀ (fuel : Nat) (listed : Array Bool) (a : Act) (vs : Nat → Value), Closed md ops listed →
      (∀ j oj, ops[j]? = some oj → j ≠ i → listed.getD j true = false → (∀ e ∈ oj.after, Region.binds md e = true → e.on ≠ i) → oi.apart ops oj = true) →
      i ∈ Region.ready md ops listed →
      parOp P ops w0 R T0 es ph gv i (wpAnyP P ops w0 R T0 es ph gv md stop Q fuel (listed.setIfInBounds i true)) a vs → wpAnyP P ops w0 R T0 es ph gv md stop Q (fuel + 1) listed a vs := by
  intro fuel
  induction fuel with
  | zero =>
    intro listed a vs _ _ hr H
    refine ⟨fun h => (by rw [h] at hr; cases hr), fun j hj => ?_⟩
    have hjs := tail_below hT his (mem_ready.1 hr).1 hj
    refine ⟨hjs, ?_⟩
    by_cases hji : j = i
    · subst hji; exact H
    · exfalso
      have hrm := ready_mono hj hji
      unfold parOp at H
      simp only [hi] at H
      split at H
      · obtain ⟨⟨v, hv⟩, _, h3⟩ := H
        have := (h3 v hv).1 j hrm
        omega
      · split at H
        · obtain ⟨v, _, h3⟩ := H
          have := h3.1 j hrm
          omega
        · have := H.1 j hrm
          omega
  | succ fuel ih =>
    intro listed a vs hcl hfree hr H
    refine ⟨fun h => (by rw [h] at hr; cases hr), fun j hj => ?_⟩
    refine ⟨tail_below hT his (mem_ready.1 hr).1 hj, ?_⟩
    by_cases hji : j = i
    · subst hji; exact H
    · obtain ⟨hjun, oj, hoj, hall⟩ := mem_ready.1 hj
      have hnot : ∀ e ∈ oj.after, Region.binds md e = true → e.on ≠ i := fun e he hb heq => by
        have h1 := hall e he hb
        have h0 := (mem_ready.1 hr).1
        rw [heq] at h1
        rcases Nat.lt_or_ge i listed.size with h' | h'
        · simp [h'] at h0 h1; rw [h0] at h1; cases h1
        · simp [Array.getElem?_eq_none h'] at h1
      have hap := hfree j oj hoj hji hjun hnot
      obtain ⟨p1, p2, p3⟩ := Oper.apart_spec hap
      have ej : ∀ (b : Act) v, execOp (b.put oi.dst v).eval oj = execOp b.eval oj := fun b v => execOp_put oj (fun cs b => hsel j oj cs b hoj) b oi.dst v p1
      have ei : ∀ (b : Act) v, execOp (b.put oj.dst v).eval oi = execOp b.eval oi := fun b v => execOp_put oi (fun cs b => hsel i oi cs b hi) b oj.dst v p3
      have wj : ∀ (b : Act) v, Region.wanted oj (yielded ops (b.put oi.dst v).tmps) = Region.wanted oj (yielded ops b.tmps) := fun b v => wanted_put oj b oi.dst v p1
      have wi : ∀ (b : Act) v, Region.wanted oi (yielded ops (b.put oj.dst v).tmps) = Region.wanted oi (yielded ops b.tmps) := fun b v => wanted_put oi b oj.dst v p3
      have pc : ∀ (b : Act) (u v : Value), (b.put oi.dst v).put oj.dst u = (b.put oj.dst u).put oi.dst v := fun b u v => Act.put_comm b v u p2
      have hrj : j ∈ Region.ready md ops (listed.setIfInBounds i true) := ready_mono hj hji
      have hfree' : ∀ k ok, ops[k]? = some ok → k ≠ i → (listed.setIfInBounds j true).getD k true = false →
          (∀ e ∈ ok.after, Region.binds md e = true → e.on ≠ i) → oi.apart ops ok = true := fun k ok hk hki hun hno => by
        refine hfree k ok hk hki ?_ hno
        by_cases hjk : j = k
        · subst hjk; exact hjun
        · rw [getD_set_ne true hjk] at hun; exact hun
      have hr' : i ∈ Region.ready md ops (listed.setIfInBounds j true) := ready_mono hr (Ne.symm hji)
      have step := fun b us => ih (listed.setIfInBounds j true) b us (hcl.set hj) hfree' hr'
      have sc : (listed.setIfInBounds j true).setIfInBounds i true = (listed.setIfInBounds i true).setIfInBounds j true := Array.setIfInBounds_comm _ _ hji
      rw [sc] at step
      generalize hL2 : (listed.setIfInBounds i true).setIfInBounds j true = L2 at step
      have key : ∀ b us, wpAnyP P ops w0 R T0 es ph gv md stop Q (fuel + 1) (listed.setIfInBounds i true) b us → parOp P ops w0 R T0 es ph gv j (wpAnyP P ops w0 R T0 es ph gv md stop Q fuel L2) b us := fun b us h => by
        have := (h.2 j hrj).2
        rwa [hL2] at this
      clear ih
      unfold parOp at H
      simp only [hi] at H
      -- what j does, first
      cases hci : eatsOf es i with
      | some c =>
        simp only [hci] at H
        obtain ⟨⟨v0, hv0⟩, hsp, hK⟩ := H
        cases hcj : eatsOf es j with
        | some d =>
          have hcd := hclear listed j d hcl hcj hj i (mem_ready.1 hr).1
          have hcc := hclear listed i c hcl hci hr j hjun
          have kk : ∀ v, ph i v → _ := fun v hv => key _ _ (hK v hv)
          unfold parOp at kk ⊢
          simp only [hoj, hcj] at kk ⊢
          refine ⟨(kk v0 hv0).1, fun G w hs => ?_, fun u hu => ?_⟩
          · have := (SpecOf.put hcd (ej a v0)).1 (kk v0 hv0).2.1
            exact this G w hs
          · refine step _ _ ?_
            unfold parOp
            simp only [hi, hci]
            refine ⟨⟨v0, hv0⟩, ?_, fun v hv => ?_⟩
            · exact (SpecOf.put hcc (ei a u)).2 hsp
            · have := (kk v hv).2.2 u hu
              rw [pc, upd_comm (Ne.symm hji)] at this
              exact this
        | none =>
          have kk : ∀ v, ph i v → _ := fun v hv => key _ _ (hK v hv)
          unfold parOp at kk ⊢
          simp only [hoj, hcj, wj] at kk ⊢
          by_cases hwj : Region.wanted oj (yielded ops a.tmps) = true
          · simp only [hwj, if_true] at kk ⊢
            obtain ⟨u, hu, _⟩ := kk v0 hv0
            refine ⟨u, fun G w hs => by have := hu G w hs; rwa [pureAt_same (ej a v0)] at this, ?_⟩
            refine step _ _ ?_
            unfold parOp
            simp only [hi, hci]
            refine ⟨⟨v0, hv0⟩, ?_, fun v hv => ?_⟩
            · exact (SpecOf.put' (ei a u)).2 hsp
            · obtain ⟨u', hu', h2⟩ := kk v hv
              obtain ⟨G, w, hs⟩ := hw0
              have e : u' = u := by
                have q1 := hu G w hs
                have q2 := hu' G w hs
                rw [pureAt_same (ej a v0)] at q1
                rw [pureAt_same (ej a v)] at q2
                exact pureUpon_fun q2 q1
              subst e
              rw [pc] at h2
              exact h2
          · simp only [hwj, Bool.false_eq_true, if_false] at kk ⊢
            refine step _ _ ?_
            unfold parOp
            simp only [hi, hci]
            refine ⟨⟨v0, hv0⟩, ?_, fun v hv => ?_⟩
            · exact (SpecOf.put' (ei a undef)).2 hsp
            · have h2 := kk v hv
              rw [pc] at h2
              exact h2
      | none =>
        simp only [hci] at H
        -- one value for i, whatever
        obtain ⟨v, hspec, hK⟩ : ∃ v, ((Region.wanted oi (yielded ops a.tmps) = true ∧ ∀ G w, St w0 (R ++ G) w → pureAt P oi a w v) ∨ (Region.wanted oi (yielded ops a.tmps) = false ∧ v = undef)) ∧ wpAnyP P ops w0 R T0 es ph gv md stop Q (fuel + 1) (listed.setIfInBounds i true) (a.put oi.dst v) vs := by
          by_cases hwi : Region.wanted oi (yielded ops a.tmps) = true
          · simp only [hwi, if_true] at H
            obtain ⟨v, h1, h2⟩ := H
            exact ⟨v, .inl ⟨hwi, h1⟩, h2⟩
          · simp only [hwi, Bool.false_eq_true, if_false] at H
            exact ⟨undef, .inr ⟨by simpa using hwi, rfl⟩, H⟩
        have again : ∀ (b : Act) (us : Nat → Value) u, b = a.put oj.dst u → wpAnyP P ops w0 R T0 es ph gv md stop Q fuel L2 ((a.put oi.dst v).put oj.dst u) us → parOp P ops w0 R T0 es ph gv i (wpAnyP P ops w0 R T0 es ph gv md stop Q fuel L2) b us := fun b us u hb h => by
          subst hb
          unfold parOp
          simp only [hi, hci, wi]
          rw [pc] at h
          rcases hspec with ⟨h1, h2⟩ | ⟨h1, h2⟩
          · simp only [h1, if_true]
            exact ⟨v, fun G w hs => by rw [pureAt_same (ei a u)]; exact h2 G w hs, h⟩
          · simp only [h1, Bool.false_eq_true, if_false]
            subst h2
            exact h
        have kk := key _ _ hK
        unfold parOp at kk ⊢
        simp only [hoj] at kk ⊢
        cases hcj : eatsOf es j with
        | some d =>
          simp only [hcj] at kk ⊢
          refine ⟨kk.1, ?_, fun u hu => step _ _ (again _ _ u rfl (kk.2.2 u hu))⟩
          exact (SpecOf.put' (ej a v)).1 kk.2.1
        | none =>
          simp only [hcj, wj] at kk ⊢
          by_cases hwj : Region.wanted oj (yielded ops a.tmps) = true
          · simp only [hwj, if_true] at kk ⊢
            obtain ⟨u, hu, h2⟩ := kk
            exact ⟨u, fun G w hs => by have := hu G w hs; rwa [pureAt_same (ej a v)] at this, step _ _ (again _ _ u rfl h2)⟩
          · simp only [hwj, Bool.false_eq_true, if_false] at kk ⊢
            exact step _ _ (again _ _ undef rfl kk)

theorem mem_of_eats {i : Nat} {c : List Nat} : ∀ {es : List (Nat × List Nat)}, eatsOf es i = some c → (i, c) ∈ es
  | [], h => by cases h
  | (k, d) :: es, h => by
    unfold eatsOf at h
    rw [List.lookup_cons] at h
    by_cases e : i = k
    · subst e
      simp at h
      subst h
      exact List.mem_cons_self ..
    · rw [beq_false_of_ne e] at h
      exact List.mem_cons_of_mem _ (mem_of_eats h)
theorem selOk_mem {n : Nat} : ∀ {l : List Nat}, selOk n l = true → ∀ i ∈ l, i < n
  | [], _, _, h => by cases h
  | j :: l, h, i, hi => by
    simp only [selOk, Bool.and_eq_true, decide_eq_true_eq] at h
    rcases List.mem_cons.1 hi with e | e
    · subst e; exact h.1.1
    · exact selOk_mem h.2 i e
theorem selOk_fst {n : Nat} {i : Nat} {c d : List Nat} : ∀ {es : List (Nat × List Nat)}, selOk n (es.map (·.1)) = true → (i, c) ∈ es → (i, d) ∈ es → c = d
  | [], _, h, _ => by cases h
  | (k, x) :: es, h, h1, h2 => by
    simp only [List.map_cons, selOk, Bool.and_eq_true, decide_eq_true_eq, Bool.not_eq_true', List.contains_eq_mem, decide_eq_false_iff_not] at h
    rcases List.mem_cons.1 h1 with e1 | e1 <;> rcases List.mem_cons.1 h2 with e2 | e2
    · injection e1 with _ a1; injection e2 with _ a2; exact a1.trans a2.symm
    · injection e1 with a1 _
      exact absurd (List.mem_map_of_mem (f := (·.1)) e2) (by rw [← a1] at h; exact h.1.2)
    · injection e2 with a1 _
      exact absurd (List.mem_map_of_mem (f := (·.1)) e1) (by rw [← a1] at h; exact h.1.2)
    · exact selOk_fst h.2 e1 e2
theorem eats_of_mem {n i : Nat} {c : List Nat} : ∀ {es : List (Nat × List Nat)}, selOk n (es.map (·.1)) = true → (i, c) ∈ es → eatsOf es i = some c := by
  intro es h hm
  cases he : eatsOf es i with
  | some d => rw [selOk_fst h hm (mem_of_eats he)]
  | none =>
    exfalso
    clear h
    induction es with
    | nil => cases hm
    | cons p es ih =>
      obtain ⟨k, d⟩ := p
      unfold eatsOf at he
      rw [List.lookup_cons] at he
      by_cases e : i = k
      · subst e; simp at he
      · rw [beq_false_of_ne e] at he
        rcases List.mem_cons.1 hm with e1 | e1
        · injection e1 with a1 _; exact e a1
        · exact ih e1 he

def butL (A : Nat → HP) (c : List Nat) (t : Nat) : HP := if c.contains t then HP.emp else A t
theorem stars_many {n : Nat} : ∀ {c : List Nat} {A : Nat → HP}, selOk n c = true → stars n A = HP.big (c.map A) * stars n (butL A c)
  | [], A, _ => by
    rw [show HP.big (([] : List Nat).map A) = HP.emp from rfl, HP.emp_sep]
    exact stars_ext fun j _ => by simp [butL]
  | i :: c, A, h => by
    simp only [selOk, Bool.and_eq_true, decide_eq_true_eq, Bool.not_eq_true', List.contains_eq_mem, decide_eq_false_iff_not] at h
    obtain ⟨⟨h1, h2⟩, h3⟩ := h
    rw [stars_focus i A h1, stars_many (A := but A i) h3]
    have e1 : c.map (but A i) = c.map A := List.map_congr_left fun t ht => by unfold but; rw [if_neg (fun (e : t = i) => h2 (e ▸ ht))]
    have e2 : stars n (butL (but A i) c) = stars n (butL A (i :: c)) := stars_ext fun j _ => by
      unfold butL but
      by_cases hj : j = i
      · subst hj; simp
      · simp [hj]
    rw [e1, e2, List.map_cons, HP.big, HP.sep_assoc]
theorem stars_filter (A : Nat → HP) (p : Nat → Bool) : ∀ n, stars n (fun t => if p t then A t else HP.emp) = HP.big (((List.range n).filter p).map A)
  | 0 => rfl
  | n + 1 => by
    show stars n _ * _ = _
    rw [stars_filter A p n, List.range_succ, List.filter_append, List.map_append, HP.big_append]
    congr 1
    by_cases h : p n = true
    · simp [h, HP.big, HP.sep_emp]
    · simp [h, HP.big]

/-- the tokens that are there -/
def tokS (ops : Array Oper) (T0 : List HP) (es : List (Nat × List Nat)) (gv : Nat → Value → HP) (listed : Array Bool) (vs : Nat → Value) : HP :=
  stars (T0.length + ops.size) fun t => if liveB es T0.length listed t then tokA T0 gv vs t else HP.emp
/-- what the check says -/
theorem parB_spec {n0 : Nat} (h : parB ops es md n0 = true) : selOk ops.size (es.map (·.1)) = true ∧ ∀ i c, (i, c) ∈ es → (∃ o, ops[i]? = some o ∧ o.guard = none ∧ selOk (n0 + ops.size) c = true ∧
    ∀ t ∈ c, t < n0 ∨ (n0 ≤ t ∧ (eatsOf es (t - n0)).isSome = true ∧ ∃ e ∈ o.after, Region.binds md e = true ∧ (e.on = t - n0 ∨ Region.waitsFor md ops e.on (t - n0) = true))) ∧ ∀ j d, (j, d) ∈ es → j ≠ i → ∀ t ∈ c, t ∉ d := by
  unfold parB at h
  rw [Bool.and_eq_true, List.all_eq_true] at h
  refine ⟨h.1, fun i c hc => ?_⟩
  have h2 := h.2 (i, c) hc
  rw [Bool.and_eq_true] at h2
  obtain ⟨h2, h3⟩ := h2
  constructor
  · split at h2
    · rename_i o ho
      simp only [Bool.and_eq_true, Option.isNone_iff_eq_none] at h2
      refine ⟨o, ho, h2.1.1, h2.1.2, fun t ht => ?_⟩
      have h4 := List.all_eq_true.1 h2.2 t ht
      rw [Bool.or_eq_true, Bool.and_eq_true, decide_eq_true_eq] at h4
      by_cases hn : t < n0
      · exact .inl hn
      · refine .inr ⟨by omega, ?_⟩
        obtain ⟨h5, h6⟩ := h4.resolve_left hn
        refine ⟨h5, ?_⟩
        rw [Array.any_eq_true'] at h6
        obtain ⟨e, he, h7⟩ := h6
        rw [Bool.and_eq_true, Bool.or_eq_true, decide_eq_true_eq] at h7
        exact ⟨e, he, h7⟩
    · cases h2
  · intro j d hd hji t ht htd
    have h4 := List.all_eq_true.1 h3 (j, d) hd
    simp only [Bool.or_eq_true, decide_eq_true_eq] at h4
    have h5 := List.all_eq_true.1 (h4.resolve_left hji) t ht
    simp [htd] at h5

/-- the tokens, when an operation that takes none has been carried out -/
theorem tokS_still {listed : Array Bool} {vs : Nat → Value} {i : Nat} (hn : eatsOf es i = none) (hs : selOk ops.size (es.map (·.1)) = true) : tokS ops T0 es gv (listed.setIfInBounds i true) vs = tokS ops T0 es gv listed vs := by
  have hne : ∀ p ∈ es, p.1 ≠ i := fun p hp e => by
    subst e
    rw [eats_of_mem (c := p.2) hs hp] at hn
    cases hn
  refine stars_ext fun t _ => ?_
  have : liveB es T0.length (listed.setIfInBounds i true) t = liveB es T0.length listed t := by
    unfold liveB
    congr 1
    · congr 1
      by_cases e : t - T0.length = i
      · rw [e, hn]; simp
      · rw [getD_set_ne false (Ne.symm e)]
    · rw [Bool.eq_iff_iff, List.all_eq_true, List.all_eq_true]
      constructor
      · intro h p hp
        have := h p hp
        rwa [getD_set_ne false (Ne.symm (hne p hp))] at this
      · intro h p hp
        rw [getD_set_ne false (Ne.symm (hne p hp))]
        exact h p hp
  rw [this]

/-- the tokens, when an operation that takes some is to be carried out, and behind it -/
theorem tokS_eat {listed : Array Bool} {vs : Nat → Value} {i : Nat} {c : List Nat} (hB : parB ops es md T0.length = true) (hc : eatsOf es i = some c) (hcl : Closed md ops listed) (hr : i ∈ Region.ready md ops listed) :
    ∃ r, tokS ops T0 es gv listed vs = HP.big (c.map (tokA T0 gv vs)) * r ∧ ∀ v, tokS ops T0 es gv (listed.setIfInBounds i true) (upd vs i v) = gv i v * r := by
  obtain ⟨hs, hall⟩ := parB_spec hB
  have hm := mem_of_eats hc
  obtain ⟨⟨o, ho, _, hsel, htok⟩, hdis⟩ := hall i c hm
  obtain ⟨hun, o', ho', hdep⟩ := mem_ready.1 hr
  rw [ho] at ho'
  cases ho'
  obtain ⟨hunf, hisz⟩ := getD_true_false hun
  have hio : i < ops.size := (Array.getElem?_eq_some_iff.1 ho).1
  have hlive : ∀ t ∈ c, liveB es T0.length listed t = true := fun t ht => by
    unfold liveB
    rw [Bool.and_eq_true]
    constructor
    · rcases htok t ht with h | ⟨_, h2, hw⟩
      · simp [h]
      · have := hcl.two ho (.inr hr) hw
        simp [h2, this]
    · rw [List.all_eq_true]
      intro p hp
      obtain ⟨j, d⟩ := p
      by_cases hji : j = i
      · subst hji; simp [hunf]
      · have := hdis j d hp hji t ht
        simp [this]
  let A : Nat → HP := fun t => if liveB es T0.length listed t then tokA T0 gv vs t else HP.emp
  refine ⟨stars (T0.length + ops.size) (butL A c), ?_, fun v => ?_⟩
  · show stars _ A = _
    rw [stars_many hsel]
    congr 2
    exact List.map_congr_left fun t ht => by show (if _ then _ else _) = _; rw [hlive t ht]; rfl
  · have hk : ∀ p ∈ es, (T0.length + i) ∈ p.2 → p.1 ≠ i ∧ listed.getD p.1 false = false := fun p hp hmem => by
      obtain ⟨j, d⟩ := p
      obtain ⟨⟨oj, hoj, _, _, htj⟩, _⟩ := hall j d hp
      rcases htj _ hmem with h | ⟨_, _, hw⟩
      · omega
      · rw [show T0.length + i - T0.length = i by omega] at hw
        have hji : j ≠ i := fun e2 => by
          subst e2
          have := hcl.two hoj (.inr hr) hw
          rw [hunf] at this
          cases this
        refine ⟨hji, ?_⟩
        cases hl : listed.getD j false with
        | false => rfl
        | true =>
          have := hcl.two hoj (.inl hl) hw
          rw [hunf] at this
          cases this
    have hnew : liveB es T0.length (listed.setIfInBounds i true) (T0.length + i) = true := by
      unfold liveB
      rw [Bool.and_eq_true]
      constructor
      · have e1 : T0.length + i - T0.length = i := by omega
        rw [e1, hc]
        simp [hisz]
      · rw [List.all_eq_true]
        intro p hp
        by_cases hmem : (T0.length + i) ∈ p.2
        · obtain ⟨h1, h2⟩ := hk p hp hmem
          rw [getD_set_ne false (Ne.symm h1), h2]
          rfl
        · simp [hmem]
    unfold tokS
    rw [stars_focus (T0.length + i) _ (by omega)]
    have e1 : (if liveB es T0.length (listed.setIfInBounds i true) (T0.length + i) then tokA T0 gv (upd vs i v) (T0.length + i) else HP.emp) = gv i v := by
      rw [hnew, if_pos rfl]
      unfold tokA
      rw [if_neg (by omega), show T0.length + i - T0.length = i by omega, upd_at]
    rw [e1]
    congr 1
    refine stars_ext fun t ht => ?_
    unfold but butL
    by_cases ht0 : t = T0.length + i
    · subst ht0
      rw [if_pos rfl]
      have : liveB es T0.length listed (T0.length + i) = false := by
        unfold liveB
        rw [show T0.length + i - T0.length = i by omega, hunf]
        have : ¬ (T0.length + i < T0.length) := by omega
        simp [this]
      show _ = if _ then _ else (if _ then _ else _)
      rw [this]
      simp
    · rw [if_neg ht0]
      show (if _ then _ else _) = _
      rw [tokA_upd ht0]
      have hl : liveB es T0.length (listed.setIfInBounds i true) t = (liveB es T0.length listed t && !c.contains t) := by
        unfold liveB
        rw [Bool.and_assoc]
        congr 1
        · by_cases h0 : t < T0.length
          · simp [h0]
          · rw [getD_set_ne false (show i ≠ t - T0.length by omega)]
        · rw [Bool.eq_iff_iff, Bool.and_eq_true, List.all_eq_true, List.all_eq_true]
          constructor
          · intro h
            refine ⟨fun p hp => ?_, ?_⟩
            · by_cases hpi : p.1 = i
              · rw [hpi, hunf]; rfl
              · have := h p hp
                rwa [getD_set_ne false (Ne.symm hpi)] at this
            · have := h (i, c) hm
              have hget : (listed.setIfInBounds i true).getD i false = true := by simp [hisz]
              simpa [hget] using this
          · rintro ⟨h1, h2⟩ p hp
            by_cases hpi : p.1 = i
            · obtain ⟨j, d⟩ := p
              have hpi : j = i := hpi
              subst hpi
              rw [selOk_fst hs hp hm]
              simp at h2
              simp [h2]
            · rw [getD_set_ne false (Ne.symm hpi)]
              exact h1 p hp
      show (if _ then _ else _) = if _ then _ else (if _ then _ else _)
      rw [hl]
      by_cases hcc : c.contains t = true
      · rw [hcc]
        simp
      · simp only [Bool.not_eq_true] at hcc
        rw [hcc]
        simp

theorem effUpon_wp {o : Oper} {a : Act} {K' : Act → World → Prop} {Q' : Exit → Act → World → Prop} {w : World} {post : Value → World → Prop} (h : ∀ v w', post v w' → K' (a.put o.dst v) w') (hh : effAt P o a w post) : o.wp P a w K' Q' := by
  unfold effAt at hh
  unfold Oper.wp
  generalize (execOp a.eval o).run P w = r at *
  cases r with
  | ok n w' =>
    cases n <;> simp only [effUpon] at hh <;> simp only [Oper.upon]
    case value u => exact h _ _ hh
    case skip => exact h _ _ hh
    case enter f args => exact hh.mono fun e w'' ⟨u, he, hp⟩ => by subst he; exact h _ _ hp
  | halt x w' => simp only [effUpon] at hh
theorem pureUpon_wp {o : Oper} {a : Act} {K' : Act → World → Prop} {Q' : Exit → Act → World → Prop} {w : World} {v : Value} (h : K' (a.put o.dst v) w) (hh : pureAt P o a w v) : o.wp P a w K' Q' := by
  unfold pureAt at hh
  unfold Oper.wp
  generalize (execOp a.eval o).run P w = r at *
  cases r with
  | ok n w' =>
    cases n <;> simp only [pureUpon] at hh <;> simp only [Oper.upon]
    case value u => obtain ⟨rfl, rfl⟩ := hh; exact h
    case skip => obtain ⟨rfl, rfl⟩ := hh; exact h
  | halt x w' => simp only [pureUpon] at hh

theorem wpAnyP_lex {Q : Act → (Nat → Value) → Prop} {stop g : Nat} {w : World} {G : List HP} (hT : tailB ops md stop = true) (hst : stop ≤ ops.size) (hw : St w0 (R ++ G) w) (hB : parB ops es md T0.length = true) (hs : Region.noSelect ops = true) : ∀ (n k : Nat) (listed : Array Bool) (a : Act) (vs : Nat → Value), k + n = stop → Closed md ops listed →
    Region.lexHead md ops g n k listed = true → wpPar P ops w0 R T0 es ph gv Q n k a vs → wpAnyP P ops w0 R T0 es ph gv md stop Q n listed a vs
  | 0, k, _, _, _, hk, _, hL, h => ⟨fun j hj => by have := seqB_ready (by simpa [Region.lexHead] using hL) j hj; omega, h⟩
  | n + 1, k, listed, a, vs, hk, hcl, hL, h => by
    simp only [Region.lexHead, Bool.and_eq_true] at hL
    obtain ⟨⟨hr, hf⟩, hL'⟩ := hL
    have h0 : ops[k]? = some ops[k] := Array.getElem?_eq_getElem (by omega)
    have hrm : k ∈ Region.ready md ops listed := by simpa using hr
    refine wpAnyP_first hT (by omega) ⟨G, w, hw⟩ h0 (Region.noSelect_spec hs) ?_ n listed a vs hcl (Region.free_spec h0 hf) hrm (parOp_mono (fun a vs h => wpAnyP_lex hT hst hw hB hs n (k + 1) _ a vs (by omega) (hcl.set hrm) hL' h) h)
    · intro L j c hL2 hc hj q hq t ht e
      obtain ⟨⟨o', ho', _, _, htok⟩, _⟩ := (parB_spec hB).2 j c (mem_of_eats hc)
      rcases htok t ht with h1 | ⟨_, _, hw⟩
      · omega
      · have := hL2.two ho' (.inr hj) hw
        rw [show t - T0.length = q by omega, (getD_true_false hq).1] at this
        cases this
/-- what is there at the end -/
def finL (es : List (Nat × List Nat)) (n0 m : Nat) : List Nat := (List.range (n0 + m)).filter fun t => (decide (t < n0) || (eatsOf es (t - n0)).isSome) && es.all fun p => !p.2.contains t
/-- each operation waits for earlier ones alone -/
def backB (md : Region.Mode) (ops : Array Oper) : Bool := (List.range ops.size).all fun i => match ops[i]? with
  | some o => o.after.all fun e => !Region.binds md e || decide (e.on < i)
  | none => true
theorem all_listed {stop : Nat} (hb : backB md ops = true) {listed : Array Bool} (hsz : listed.size = ops.size) (h : ∀ j ∈ Region.ready md ops listed, stop ≤ j) (hst : stop ≤ ops.size) : ∀ n i, i < n → i < stop → listed.getD i false = true
  | 0, _, h1, _ => by omega
  | n + 1, i, h1, h2 => by
    cases hl : listed.getD i false with
    | true => rfl
    | false =>
      exfalso
      have h0 : ops[i]? = some ops[i] := Array.getElem?_eq_getElem (by omega)
      have : i ∈ Region.ready md ops listed := mem_ready.2 ⟨by
        have : i < listed.size := by omega
        simp [this] at hl ⊢; exact hl, ops[i], h0, fun e he hbe => by
        have h3 := List.all_eq_true.1 hb i (List.mem_range.2 (by omega))
        simp only [h0] at h3
        have h4 := Array.all_eq_true_iff_forall_mem.1 h3 e he
        simp only [hbe, Bool.not_true, Bool.false_or, decide_eq_true_eq] at h4
        exact all_listed hb hsz h hst n e.on (by omega) (by omega)⟩
      have := h i this
      omega

/-- the whole check -/
def parC (l : List Oper) (es : List (Nat × List Nat)) (n0 stop : Nat) : Bool :=
  Region.noSelect l.toArray && Region.lexHead .any l.toArray (l.length - stop) stop 0 (Array.replicate l.length false) && parB l.toArray es .any n0 && backB .any l.toArray && tailB l.toArray .any stop && decide (stop ≤ l.length) && (es.all fun p => decide (p.1 < stop)) &&
    Region.seqB .any l.toArray (l.length - stop) stop ((List.replicate stop true ++ List.replicate (l.length - stop) false).toArray)

/-- ONE WALK IN THE ORDER OF THE TEXT SERVES EVERY ORDER, where operations take and give assertions; from 'stop' on each operation waits for all others. -/
theorem wp_region_par0 {id : Nat} {Q : Exit → Act → World → Prop} {a : Act} {w : World} {l : List Oper} (n0 stop : Nat) (fin : List Nat) (T0 R : List HP) (es : List (Nat × List Nat)) (ph : Nat → Value → Prop) (gv : Nat → Value → HP)
    (hm : P.follows .mixedOrders = true) (hC : parC l es n0 stop = true) (hn : T0.length = n0) (hf : finL es n0 stop = fin)
    (hs : St w0 (T0 ++ R) w)
    (h : wpPar P l.toArray w0 R T0 es ph gv (fun a' vs => ∀ w', St w0 (fin.map (tokA T0 gv vs) ++ R) w' → wpList P l.toArray Q (l.drop stop) a' w') stop 0 a (fun _ => undef)) : (Code.region id l.toArray true).wp P Q a w := by
  subst hn
  subst hf
  simp only [parC, Bool.and_eq_true, decide_eq_true_eq] at hC
  obtain ⟨⟨⟨⟨⟨⟨⟨hsel, hlex⟩, hB⟩, hb⟩, hT⟩, hst⟩, hkey⟩, hseq⟩ := hC
  have hst' : stop ≤ l.toArray.size := by simpa using hst
  have hs' : St w0 (T0 ++ R) { w with drawn := w.drawn + 1 } := hs.drew
  refine wp_region_any hm ?_
  have main := wpAnyP_lex (md := .any) (G := T0) hT hst' (hs'.perm (L' := R ++ T0) (by simp only [HP.big_append]; ac_rfl)) hB hsel stop 0 (Array.replicate l.length false) a (fun _ => undef) (by omega) Closed.start hlex h
  have start : St w0 (tokS l.toArray T0 es gv (Array.replicate l.length false) (fun _ => undef) :: R) { w with drawn := w.drawn + 1 } := by
    have e : tokS l.toArray T0 es gv (Array.replicate l.length false) (fun _ => undef) = HP.big T0 := by
      have hl : ∀ t, liveB es T0.length (Array.replicate l.length false) t = decide (t < T0.length) := fun t => by
        unfold liveB
        have hr : ∀ q, (Array.replicate l.length false).getD q false = false := fun q => by
          by_cases hq : q < l.length
          · simp [hq]
          · simp [hq]
        simp [hr]
      unfold tokS
      rw [stars_ext (B := fun t => if decide (t < T0.length) then tokA T0 gv (fun _ => undef) t else HP.emp) (fun t _ => by rw [hl t]), stars_filter]
      have e2 : (List.range (T0.length + l.toArray.size)).filter (fun t => decide (t < T0.length)) = List.range T0.length := by
        rw [List.range_add, List.filter_append]
        rw [List.filter_eq_self.2 (fun t ht => by simpa using ht), List.filter_eq_nil_iff.2 (fun t ht => by
          obtain ⟨x, _, rfl⟩ := List.mem_map.1 ht
          simp), List.append_nil]
      rw [e2]
      congr 1
      refine List.ext_getElem? fun i => ?_
      rw [List.getElem?_map]
      by_cases hi : i < T0.length
      · rw [List.getElem?_range hi, Option.map_some]
        unfold tokA
        rw [if_pos hi, List.getElem?_eq_getElem hi, List.getD_eq_getElem?_getD, List.getElem?_eq_getElem hi]
        rfl
      · rw [List.getElem?_eq_none (by simpa using hi), List.getElem?_eq_none (by simpa using hi)]
        rfl
    rw [e]
    exact hs'.perm (by simp only [HP.big, HP.big_append])
  suffices ∀ (fuel : Nat) (listed : Array Bool) (a : Act) (vs : Nat → Value) (w : World), listed.size = l.length → (∀ j, stop ≤ j → listed.getD j false = false) → Closed .any l.toArray listed → St w0 (tokS l.toArray T0 es gv listed vs :: R) w →
      wpAnyP P l.toArray w0 R T0 es ph gv .any stop (fun a' vs => ∀ w', St w0 ((finL es T0.length stop).map (tokA T0 gv vs) ++ R) w' → wpList P l.toArray Q (l.drop stop) a' w') fuel listed a vs → wpAny P .any l.toArray Q (fuel + (l.length - stop)) listed a w by
    have := this _ _ _ _ _ (by simp) (fun j _ => getD_replicate_false _ _) Closed.start start main
    rw [show stop + (l.length - stop) = l.toArray.size by simp; omega] at this
    simpa using this
  have hkeys := (parB_spec hB).1
  have hks : ∀ i c, eatsOf es i = some c → i < stop := fun i c hc => by
    have := List.all_eq_true.1 hkey _ (mem_of_eats hc)
    simpa using this
  clear main start h hs hs' hlex
  intro fuel
  induction fuel with
  | zero =>
    intro listed a vs w hz hno hcl hst2 h
    have hall := all_listed hb (by simpa using hz) h.1 hst' stop
    have hL : listed = (List.replicate stop true ++ List.replicate (l.length - stop) false).toArray := by
      refine Array.ext (by simp [hz]; omega) fun i h1 h2 => ?_
      by_cases hi : i < stop
      · have := hall i hi hi
        simp [h1] at this
        simp [hi, List.getElem_append, this]
      · have := hno i (by omega)
        simp [h1] at this
        simp [hi, List.getElem_append, this]
    rw [Nat.zero_add]
    rw [← hL] at hseq
    have hw := h.2 w (hst2.perm ?_)
    · have := wpAny_of_seq (md := .any) (Q' := Q) (l.drop stop) stop listed a w (fun j => by simp [List.getElem?_drop]) (by simpa using hseq) hw
      simpa using this
    · have hl : ∀ t, liveB es T0.length listed t = ((decide (t < T0.length) || (eatsOf es (t - T0.length)).isSome) && es.all fun p => !p.2.contains t) := fun t => by
        unfold liveB
        congr 1
        · congr 1
          cases he : eatsOf es (t - T0.length) with
          | none => rfl
          | some c =>
            have h1 := hks _ _ he
            rw [hall _ h1 h1]
            rfl
        · rw [Bool.eq_iff_iff, List.all_eq_true, List.all_eq_true]
          have hp : ∀ p ∈ es, listed.getD p.1 false = true := fun p hp => by
            have h1 : p.1 < stop := by have := List.all_eq_true.1 hkey p hp; simpa using this
            exact hall _ h1 h1
          constructor
          · intro h p h1
            have := h p h1
            rwa [hp p h1, Bool.true_and] at this
          · intro h p h1
            rw [hp p h1, Bool.true_and]
            exact h p h1
      have hcut : (List.range (T0.length + l.toArray.size)).filter (fun t => (decide (t < T0.length) || (eatsOf es (t - T0.length)).isSome) && es.all fun p => !p.2.contains t) = finL es T0.length stop := by
        unfold finL
        rw [show T0.length + l.toArray.size = (T0.length + stop) + (l.length - stop) by simp; omega, List.range_add (n := T0.length + stop), List.filter_append]
        refine (congrArg _ (List.filter_eq_nil_iff.2 fun t ht => ?_)).trans (List.append_nil _)
        obtain ⟨x, _, rfl⟩ := List.mem_map.1 ht
        have h1 : eatsOf es (T0.length + stop + x - T0.length) = none := by
          cases he : eatsOf es (T0.length + stop + x - T0.length) with
          | none => rfl
          | some c => have := hks _ _ he; omega
        have h2 : ¬ (T0.length + stop + x < T0.length) := by omega
        simp [h1, h2]
      unfold tokS
      rw [HP.big, stars_ext (B := fun t => if (decide (t < T0.length) || (eatsOf es (t - T0.length)).isSome) && (es.all fun p => !p.2.contains t) then tokA T0 gv vs t else HP.emp) (fun t _ => by rw [hl t]), stars_filter, hcut, HP.big_append]
  | succ fuel ih =>
    intro listed a vs w hz hno hcl hst2 h
    rw [show fuel + 1 + (l.length - stop) = (fuel + (l.length - stop)) + 1 by omega]
    refine ⟨fun h0 => absurd h0 h.1, fun i hi => ?_⟩
    obtain ⟨his, h2⟩ := h.2 i hi
    have nxt := fun a' vs' w' => ih (listed.setIfInBounds i true) a' vs' w' (by simpa using hz) (fun j hj => by rw [getD_set_ne false (by omega)]; exact hno j hj) (hcl.set hi)
    unfold parOp at h2
    unfold wpOp
    obtain ⟨_, o, ho, _⟩ := mem_ready.1 hi
    simp only [ho] at h2 ⊢
    cases hc : eatsOf es i with
    | some c =>
      simp only [hc] at h2
      obtain ⟨_, hsp, hK⟩ := h2
      obtain ⟨⟨o', ho', hg, _⟩, _⟩ := (parB_spec hB).2 i c (mem_of_eats hc)
      rw [ho] at ho'
      cases ho'
      have hw : Region.wanted o (yielded l.toArray a.tmps) = true := by simp [Region.wanted, hg]
      rw [if_pos hw]
      obtain ⟨r, e1, e2⟩ := tokS_eat (gv := gv) (vs := vs) hB hc hcl hi
      refine .inl (effUpon_wp (fun v w' hp => ?_) (hsp [r] w ?_))
      · refine nxt _ _ _ ?_ (hK v hp.1)
        rw [e2]
        exact hp.2.perm (by simp only [HP.big, HP.big_append]; ac_rfl)
      · rw [e1] at hst2
        exact hst2.perm (by simp only [HP.big, HP.big_append]; ac_rfl)
    | none =>
      simp only [hc] at h2
      by_cases hw : Region.wanted o (yielded l.toArray a.tmps) = true
      · simp only [hw, if_true] at h2 ⊢
        obtain ⟨v, h3, hK⟩ := h2
        refine .inl (pureUpon_wp (nxt _ _ _ ?_ hK) (h3 [tokS l.toArray T0 es gv listed vs] w ?_))
        · rw [tokS_still hc hkeys]; exact hst2
        · exact hst2.perm (by simp only [HP.big, HP.big_append]; ac_rfl)
      · simp only [hw] at h2 ⊢
        exact nxt _ _ _ (by rw [tokS_still hc hkeys]; exact hst2) h2

section
variable {Q : Act → (Nat → Value) → Prop} {n k : Nat} {a : Act} {vs : Nat → Value} {o : Oper}
/-- the same walk, over the list of the operations themselves -/
def wpParL (P : Program) (ops : Array Oper) (w0 : World) (R T0 : List HP) (es : List (Nat × List Nat)) (ph : Nat → Value → Prop) (gv : Nat → Value → HP) (Q : Act → (Nat → Value) → Prop) : List Oper → Nat → Act → (Nat → Value) → Prop
  | [], _, a, vs => Q a vs
  | o :: rest, k, a, vs =>
    match eatsOf es k with
    | some c => (∃ v, ph k v) ∧ (∀ G w, St w0 (c.map (tokA T0 gv vs) ++ (R ++ G)) w → effAt P o a w (fun v w' => ph k v ∧ St w0 (gv k v :: (R ++ G)) w')) ∧ ∀ v, ph k v → wpParL P ops w0 R T0 es ph gv Q rest (k + 1) (a.put o.dst v) (upd vs k v)
    | none => if Region.wanted o (yielded ops a.tmps) then ∃ v, (∀ G w, St w0 (R ++ G) w → pureAt P o a w v) ∧ wpParL P ops w0 R T0 es ph gv Q rest (k + 1) (a.put o.dst v) vs else wpParL P ops w0 R T0 es ph gv Q rest (k + 1) (a.put o.dst undef) vs
theorem wpPar_of_list : ∀ {l : List Oper} {k : Nat} {a : Act} {vs : Nat → Value}, (∀ j, j < l.length → l[j]? = ops[k + j]?) → wpParL P ops w0 R T0 es ph gv Q l k a vs → wpPar P ops w0 R T0 es ph gv Q l.length k a vs
  | [], _, _, _, _, h => h
  | o :: l, k, a, vs, hl, h => by
    have h0 : ops[k]? = some o := by simpa using (hl 0 (by simp)).symm
    have ih : ∀ a vs, wpParL P ops w0 R T0 es ph gv Q l (k + 1) a vs → wpPar P ops w0 R T0 es ph gv Q l.length (k + 1) a vs := fun a vs => wpPar_of_list (fun j hj => by have := hl (j + 1) (by simp; omega); simpa [Nat.add_assoc, Nat.add_comm 1 j] using this)
    rw [List.length_cons]
    unfold wpPar parOp
    unfold wpParL at h
    simp only [h0]
    split
    · rename_i c hc
      simp only [hc] at h
      exact ⟨h.1, h.2.1, fun v hv => ih _ _ (h.2.2 v hv)⟩
    · rename_i hc
      simp only [hc] at h
      split
      · rename_i hw
        simp only [hw, if_true] at h
        obtain ⟨v, h1, h2⟩ := h
        exact ⟨v, h1, ih _ _ h2⟩
      · rename_i hw
        simp only [hw] at h
        exact ih _ _ h
variable {rest : List Oper}
/-- one operation that takes nothing -/
theorem wpPar_pure (he : eatsOf es k = none)
    (h : ∀ K : Act → Prop, (∀ a, wpParL P ops w0 R T0 es ph gv Q rest (k + 1) a vs → K a) → if Region.wanted o (yielded ops a.tmps) then ∃ v, (∀ G w, St w0 (R ++ G) w → pureAt P o a w v) ∧ K (a.put o.dst v) else K (a.put o.dst undef)) :
    wpParL P ops w0 R T0 es ph gv Q (o :: rest) k a vs := by
  unfold wpParL
  simp only [he]
  exact h _ fun _ h => h
/-- one operation that takes and gives -/
theorem wpPar_eff {c : List Nat} (he : eatsOf es k = some c) (hv : ∃ v, ph k v)
    (hsp : ∀ G w, St w0 (c.map (tokA T0 gv vs) ++ (R ++ G)) w → effAt P o a w (fun v w' => ph k v ∧ St w0 (gv k v :: (R ++ G)) w'))
    (h : ∀ v, ph k v → ∀ K : Act → Prop, (∀ a, wpParL P ops w0 R T0 es ph gv Q rest (k + 1) a (upd vs k v) → K a) → K (a.put o.dst v)) : wpParL P ops w0 R T0 es ph gv Q (o :: rest) k a vs := by
  unfold wpParL
  simp only [he]
  exact ⟨hv, hsp, fun v hv => h v hv _ fun _ h => h⟩
theorem wpPar_nil (h : Q a vs) : wpParL P ops w0 R T0 es ph gv Q [] k a vs := h
theorem pureAt_value {w : World} {v : Value} (h : (execOp a.eval o).run P w = .ok (.value v) w) : pureAt P o a w v := by
  unfold pureAt
  rw [h]
  exact ⟨rfl, rfl⟩
theorem effAt_value {w w' : World} {v : Value} {post : Value → World → Prop} (h : (execOp a.eval o).run P w = .ok (.value v) w') (hp : post v w') : effAt P o a w post := by
  unfold effAt
  rw [h]
  exact hp
theorem effAt_call {w w' : World} {f : FuncId} {args : Array Value} {post : Value → World → Prop} (h : (execOp a.eval o).run P w = .ok (.enter f args) w') (hp : Calls P f args w' fun e w'' => ∃ u, e = .returned u ∧ post u w'') : effAt P o a w post := by
  unfold effAt
  rw [h]
  exact hp
/-- append to a slice of the region's own -/
theorem eff_append_st {w : World} {F : List HP} {post : Value → World → Prop} (s x : Operand) (tt : TypeId)
    (ho : o.op = .call { callee := .builtin .append, args := #[s, x], argTypes := #[tt, tt] })
    (e : TypeId) (i : TypeInfo) (z : Value) (size bytes : Nat) (ht : P.underlying tt = some (.slice e)) (hi : P.info? e = some i) (hz : i.zero = some z)
    (hsize : i.size = size) (hby : i.bytes = bytes) (hzs : z.cells.size = size)
    (v y : Value) (hs : a.eval s = v) (hy : a.eval x = y) (n : Nat) (xs : List Value) (h : St w0 (HP.arr e size v n xs :: F) w) (k : Nat) (ys : List Value) (hr : Reads w size y k ys) (h1 : ∀ u ∈ ys, u.oneCell' = true)
    (h63 : n + k ≤ maxLen) (hbytes : (n + k) * bytes ≤ 140737488355328)
    (hK : ∀ v' w', St w0 (HP.arr e size v' (n + k) (xs ++ ys) :: F) w' → (v' = .slice none 0 0 ↔ v = .slice none 0 0 ∧ k = 0) → post v' w') : effAt P o a w post := by
  obtain ⟨v', w', hrun, h2, h3⟩ := run_append_st (P := P) tt o.type e i z size bytes ht hi hz hsize hby hzs h y k ys hr h1 h63 hbytes
  refine effAt_value (v := v') (w' := w') ?_ (hK v' w' h2 h3)
  unfold execOp
  simp only [ho, resolve, invoke, builtin, Sem.run_bind, Sem.run_pure, Result.andThen_ok, List.map_toArray, List.map_cons, List.map_nil, hs, hy, hrun]
end
theorem wp_region_par {id : Nat} {Q : Exit → Act → World → Prop} {a : Act} {w : World} {l : List Oper} (n0 stop : Nat) (fin : List Nat) (T0 R : List HP) (es : List (Nat × List Nat)) (ph : Nat → Value → Prop) (gv : Nat → Value → HP)
    (hm : P.follows .mixedOrders = true) (hC : parC l es n0 stop = true) (hn : T0.length = n0) (hf : finL es n0 stop = fin)
    (hs : St w0 (T0 ++ R) w)
    (h : wpParL P l.toArray w0 R T0 es ph gv (fun a' vs => ∀ w', St w0 (fin.map (tokA T0 gv vs) ++ R) w' → wpList P l.toArray Q (l.drop stop) a' w') (l.take stop) 0 a (fun _ => undef)) : (Code.region id l.toArray true).wp P Q a w := by
  have hst : stop ≤ l.length := by
    simp only [parC, Bool.and_eq_true, decide_eq_true_eq] at hC
    exact hC.1.1.2
  refine wp_region_par0 n0 stop fin T0 R es ph gv hm hC hn hf hs ?_
  have := wpPar_of_list (fun j hj => ?_) h
  · rwa [show (l.take stop).length = stop by simp; omega] at this
  · have : j < stop := by simp at hj; omega
    simp [this]
end
/-- 'make' of n elements of one cell each -/
theorem madeCells_one {z : Value} (hz : z.cells = #[z]) (n : Nat) : madeCells z.cells (n * 1) = (List.replicate n z).toArray := by
  apply Array.ext_getElem?
  intro j
  by_cases hj : j < n
  · simp [madeCells, hz, hj, Nat.mod_one]
  · rw [Array.getElem?_eq_none (by simp [madeCells]; omega), Array.getElem?_eq_none (by simp; omega)]
theorem make_run {P : Program} (t e : TypeId) (i : TypeInfo) (z : Value) (bytes : Nat) (ht : P.underlying t = some (.slice e)) (hi : P.info? e = some i) (hz : i.zero = some z) (hsize : i.size = 1) (hby : i.bytes = bytes) (hzc : z.cells = #[z])
    (n : Nat) (hb : (bytes : Int) * (n : Int) ≤ 281474976710656) (hn : n ≤ 16777216) (w : World) :
    (Instr.makeSlice t (.int .i64 (n : Int)) (.int .i64 (n : Int))).run P w = .ok (.slice (some ⟨w.heap.size, 0, none⟩) n n) (w.alloc (.cells (List.replicate n z).toArray e)) := by
  have h := run_makeSlice (P := P) w t e i z ht hi hz .i64 .i64 (n : Int) (n : Int) (by omega) (by omega) (by rw [hsize]; simp; omega) (by rw [hby]; exact hb) (by omega)
  rw [h, hsize, Int.toNat_natCast, madeCells_one hzc]
end Go.Proofs.YtcodjodhacjfeaaGreatDoor

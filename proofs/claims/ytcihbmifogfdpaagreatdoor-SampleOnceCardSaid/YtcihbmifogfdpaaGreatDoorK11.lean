/-
  Regions of operations: in the order of the text, and in whatever order.
-/
import Derived.Test.YtcihbmifogfdpaaGreatDoorK10
namespace Go.Proofs.YtcihbmifogfdpaaGreatDoor
open Go.RowKit
namespace Cl

section
variable {P : Program} {w0 w w' : World} {ρ : Pm} {nt : Nat} {g : Regs} {a : Act} {h : H} {n : Nat} {o : Oper} {x : Res Value} {v' : Value} {post : Value → World → Prop}
variable {call : FuncId → List Value → HM Value} {ops : Array Oper} {Q : Exit → Act → World → Prop}

theorem want_ok (hr : Reg ρ nt g a) {b : Bool} (e : wantA ops.toList g o = some b) : Region.wanted o (yielded ops a.tmps) = b := by
  unfold wantA at e
  unfold Region.wanted
  cases hg : o.guard with
  | none => simp only [hg] at e; cases e; rfl
  | some jw =>
    obtain ⟨j, want⟩ := jw
    simp only [hg] at e ⊢
    rw [Array.getElem?_toList] at e
    cases hj : ops[j]? with
    | none => simp only [hj] at e; cases e; simp [yielded, hj]
    | some oj =>
      simp only [hj] at e
      cases hd : oj.dst with
      | none => simp only [hd] at e; cases e; simp [yielded, hj, hd]
      | some d =>
        simp only [hd] at e
        cases hv : rget g d with
        | none => simp only [hv] at e; cases e
        | some v =>
          obtain ⟨v', e1, e2⟩ := hr.tmp d v hv
          simp only [hv] at e
          split at e <;> first | (cases e; done) | skip
          · rename_i hb; cases hb; cases e; rw [e2.bool_eq] at e1; simp [yielded, hj, hd, e1]
          · rename_i hb; cases hb; cases e; rw [e2.bool_eq] at e1; simp [yielded, hj, hd, e1]
          · rename_i vs hb; cases hb; cases e; obtain ⟨c', rfl, _⟩ := e2.tuple_inv; simp [yielded, hj, hd, e1]

theorem step_wp (hC : CallOk P w0 call) (hr : Reg ρ nt g a) (hw : W P w0 ρ h w) (e : (stepV P call ops.toList g o).run n h = some x) {K : Act → World → Prop} (hK : ∀ v' w', Post P w0 ρ x v' w' → K (a.put o.dst v') w') :
    if Region.wanted o (yielded ops a.tmps) then o.wp P a w K Q ∨ (o.asks P a w ∧ LetsOut Q) else K (a.put o.dst undef) w := by
  unfold stepV at e
  split at e
  · rename_i hwant
    rw [want_ok hr hwant, if_pos rfl]
    exact .inl (effUpon_wp hK (opV_ok hC hr hw e))
  · rename_i hwant
    rw [want_ok hr hwant, if_neg (by simp)]
    rw [HM.pure_iff] at e
    subst e
    exact hK undef w (post_same hw (G.of_closed 1 _ rfl))
  · rw [HM.fail_iff] at e; cases e

theorem goT_ok (hC : CallOk P w0 call) : ∀ (rest : List Oper) (g : Regs) (n : Nat) (h : H) (y : Res Regs) (ρ : Pm) (a : Act) (w : World), Reg ρ nt g a → W P w0 ρ h w → (goT P call nt ops.toList rest g).run n h = some y →
    (∀ ρ' a' w', ρ.le ρ' → Reg ρ' nt y.a a' → W P w0 ρ' y.h w' → Q .normal a' w') → wpList P ops Q rest a w
  | [], g, n, h, y, ρ, a, w, hr, hw, e, hQ => by
    have := HM.pure_iff.1 e
    subst this
    exact hQ ρ a w (Pm.le_refl _) hr hw
  | o :: rest, g, n, h, y, ρ, a, w, hr, hw, e, hQ => by
    have ih := goT_ok hC rest
    have e' : (goT1 P call nt ops.toList o (goT P call nt ops.toList rest) g).run n h = some y := e
    unfold goT1 at e'
    unfold wpList
    split at e'
    · rename_i hwant
      rw [want_ok hr hwant, if_pos rfl]
      refine .inl ?_
      split at e'
      · rename_i v hv
        split at e'
        · rename_i g' hg'
          have e1 : (HM.pure v).run n h = some (⟨v, n, h, 0, 0⟩ : Res Value) := rfl
          exact effUpon_wp (fun v' w' ⟨ρ', l1, l2, l3⟩ => ih g' _ _ y ρ' _ w' ((hr.mono l1).put hg' l3) l2 e' fun ρ'' a' w'' l4 => hQ ρ'' a' w'' (Pm.le_trans l1 l4)) (pureO_ok hr hw hv e1)
        · rw [HM.fail_iff] at e'; cases e'
      · rw [HM.bind_iff] at e'
        obtain ⟨x, e1, y1, e2, rfl⟩ := e'
        rw [HM.bind_iff] at e2
        obtain ⟨_, e3, y2, e4, rfl⟩ := e2
        obtain ⟨g', e5, rfl⟩ := HM.opt_iff.1 e3
        exact effUpon_wp (fun v' w' ⟨ρ', l1, l2, l3⟩ => ih g' _ _ y2 ρ' _ w' ((hr.mono l1).put e5 l3) l2 e4 fun ρ'' a' w'' l4 => hQ ρ'' a' w'' (Pm.le_trans l1 l4)) (opM_ok hC hr hw e1)
    · rename_i hwant
      rw [want_ok hr hwant, if_neg (by simp)]
      split at e'
      · rename_i g' hg'
        exact ih g' _ _ y ρ _ w (hr.put hg' (G.of_closed 1 _ rfl)) hw e' hQ
      · rw [HM.fail_iff] at e'; cases e'
    · rw [HM.fail_iff] at e'; cases e'

/-! whatever order -/
theorem cloV_congr {ev ev' : Operand → Option Value} (hs : ∀ cs b, o.op ≠ .select cs b) (he : ∀ x ∈ o.op.operands, ev x = ev' x) : cloV P ev o = cloV P ev' o := by
  unfold cloV
  have h1 : (o.op.operands.toList.all fun x => cloB (ev x)) = (o.op.operands.toList.all fun x => cloB (ev' x)) := by
    rw [Bool.eq_iff_iff, List.all_eq_true, List.all_eq_true]
    constructor
    · intro k y hy; rw [← he y (by simpa using hy)]; exact k y hy
    · intro k y hy; rw [he y (by simpa using hy)]; exact k y hy
  have h2 : execOp (fun x => (ev x).getD undef) o = execOp (fun x => (ev' x).getD undef) o := execOp_congr o hs fun y hy => by rw [he y hy]
  rw [h1, h2]
theorem allSome_congr {ev ev' : Operand → Option Value} {l : List Operand} (he : ∀ x ∈ l, ev x = ev' x) : l.map ev = l.map ev' := List.map_congr_left he
theorem pureR_congr {ev ev' : Operand → Option Value} (he : ∀ x ∈ o.op.operands, ev x = ev' x) : pureR P ev o.op = pureR P ev' o.op := by
  obtain ⟨dst, op, type, pos, after, guard⟩ := o
  cases op <;> simp only [Op.operands] at he <;> simp only [pureR]
  case move y => rw [he y (by simp)]
  case assign y => rw [he y (by simp)]
  case pick c y z => rw [he c (by simp), he y (by simp), he z (by simp)]
  case binOp op t y z yt => rw [he y (by simp), he z (by simp)]
  case unOp op t y => rw [he y (by simp)]
  case convert s d y => rw [he y (by simp)]
  case build t ps =>
    have : (ps.toList.map fun p => (p.1, ev p.2)) = ps.toList.map fun p => (p.1, ev' p.2) := List.map_congr_left fun p hp => by rw [he p.2 (by simp; exact ⟨p.1, by simpa using hp⟩)]
    unfold buildA
    rw [this]
  case makeInterface t y => rw [he y (by simp)]
  case field t y f => rw [he y (by simp)]
  case index t y z => rw [he y (by simp), he z (by simp)]
  case extract y i => rw [he y (by simp)]
  case typeAssert y xt t ok => rw [he y (by simp)]
  case makeFunc f fi cp =>
    rw [allSome_congr (l := fi.toList) fun y hy => he y (by simp at hy; simp [hy]), allSome_congr (l := cp.toList) fun y hy => he y (by simp at hy; simp [hy])]
  case fieldAddr t y f => rw [he y (by simp)]
  case indexAddr t y z => rw [he y (by simp), he z (by simp)]
  case nilCheck y => rw [he y (by simp)]
  case call c =>
    unfold pureC
    cases hc : c.callee with
    | builtin b =>
      simp only [Call.operands, hc] at he ⊢
      have he' : ∀ y ∈ c.args.toList, ev y = ev' y := fun y hy => he y (by simp at hy; simp [hy])
      generalize c.args.toList = args at he'
      generalize c.argTypes.toList = ts
      unfold lenP
      split
      · rw [he' _ (List.mem_cons_self ..)]
      · rfl
    | _ => rfl
theorem pureO_congr {ev ev' : Operand → Option Value} (he : ∀ x ∈ o.op.operands, ev x = ev' x) : pureO P ev o.op = pureO P ev' o.op := by
  have hR := pureR_congr (P := P) he
  have hs := okOf_spec o.op
  unfold pureO
  split <;> rename_i hok <;> rw [hok] at hs <;> simp only at hs
  · rcases hs with hs | hs <;> rw [hs] at he <;> exact he _ (by simp [Op.operands])
  · rw [hs] at he; rw [he _ (by simp [Op.operands]), he _ (by simp [Op.operands]), he _ (by simp [Op.operands])]
  · obtain ⟨t, yt, ho⟩ := hs
    rw [ho] at he; rw [he _ (by simp [Op.operands]), he _ (by simp [Op.operands])]
  · rw [hs] at he; rw [he _ (by simp [Op.operands])]
  · rw [hs] at he; rw [he _ (by simp [Op.operands]), he _ (by simp [Op.operands])]
  · exact hR
theorem opM_congr {ev ev' : Operand → Option Value} (he : ∀ x ∈ o.op.operands, ev x = ev' x) : opM P call ev o = opM P call ev' o := by
  have hclo : (∀ cs b, o.op ≠ .select cs b) → cloV P ev o = cloV P ev' o := fun hs => cloV_congr hs he
  obtain ⟨dst, op, type, pos, after, guard⟩ := o
  cases op <;> simp only [Op.operands] at he <;> simp only [opM]
  case box t y => rw [he y (by simp)]
  case load t y =>
    unfold loadO
    cases y with
    | global k => rfl
    | _ => simp only; rw [he _ (by simp)]
  case store t y z => rw [he y (by simp), he z (by simp)]
  case binOp op t y z yt =>
    unfold binA eqOp
    rw [he y (by simp), he z (by simp), hclo (by simp)]
  case unOp => exact hclo (by simp)
  case convert s d y => unfold convA; rw [he y (by simp), hclo (by simp)]
  case index => exact hclo (by simp)
  case indexAddr t y z => rw [he z (by simp)]
  case buildSlice t len ps =>
    have : (ps.toList.map fun p => (p.1, ev p.2)) = ps.toList.map fun p => (p.1, ev' p.2) := List.map_congr_left fun p hp => by rw [he p.2 (by simp; exact ⟨p.1, by simpa using hp⟩)]
    unfold buildSliceA
    rw [this]
  case slice t y lo hi mx =>
    unfold sliceOp
    have b1 : boundA ev lo = boundA ev' lo := by cases lo <;> simp only [boundA]; rw [he _ (by simp)]
    have b2 : boundA ev hi = boundA ev' hi := by cases hi <;> simp only [boundA]; rw [he _ (by simp)]
    have b3 : boundA ev mx = boundA ev' mx := by cases mx <;> simp only [boundA]; rw [he _ (by simp)]
    rw [he y (by simp), b1, b2, b3, hclo (by simp)]
  case makeMap t r =>
    have : intO ev r = intO ev' r := by cases r <;> simp only [intO]; rw [he _ (by simp)]
    rw [this]
  case makeSlice t y z => rw [he y (by simp), he z (by simp)]
  case lookup t y z ok => rw [he y (by simp), he z (by simp)]
  case mapUpdate t y z u => rw [he y (by simp), he z (by simp), he u (by simp)]
  case range t y => rw [he y (by simp)]
  case next y b => rw [he y (by simp)]
  case call c =>
    unfold callO
    cases hc : c.callee with
    | value f =>
      simp only [Call.operands, hc] at he ⊢
      rw [he f (by simp), allSome_congr (l := c.args.toList) fun y hy => he y (by simp at hy; simp [hy])]
    | invoke r m => rfl
    | builtin b =>
      simp only [Call.operands, hc] at he ⊢
      have he' : ∀ y ∈ c.args.toList, ev y = ev' y := fun y hy => he y (by simp at hy; simp [hy])
      have hc' := hclo (by simp)
      generalize c.args.toList = args at he'
      generalize c.argTypes.toList = ts
      unfold builtinA
      rw [hc']
      split <;> (try simp only [List.mem_cons, List.not_mem_nil, or_false, forall_eq_or_imp, forall_eq] at he') <;> first | rfl | simp only [he'.1, he'.2] | simp only [he'] | skip
theorem opV_congr {ev ev' : Operand → Option Value} (he : ∀ x ∈ o.op.operands, ev x = ev' x) : opV P call ev o = opV P call ev' o := by
  unfold opV
  rw [pureO_congr he, opM_congr he]

theorem wantA_congr {g g' : Regs} (hg : ∀ t ∈ o.looksAt ops, rget g' t = rget g t) : wantA ops.toList g' o = wantA ops.toList g o := by
  unfold wantA
  cases hgd : o.guard with
  | none => rfl
  | some jw =>
    obtain ⟨j, want⟩ := jw
    simp only
    cases hj : ops.toList[j]? with
    | none => rfl
    | some oj =>
      simp only
      cases hd : oj.dst with
      | none => rfl
      | some d =>
        simp only
        rw [hg d (by rw [Array.getElem?_toList] at hj; simp [Oper.looksAt, hgd, hj, hd])]
theorem stepV_congr {g g' : Regs} (hg : ∀ t ∈ o.looksAt ops, rget g' t = rget g t) : stepV P call ops.toList g' o = stepV P call ops.toList g o := by
  unfold stepV
  rw [wantA_congr hg]
  have : opV P call (evA g') o = opV P call (evA g) o := opV_congr fun y hy => by
    cases y with
    | tmp t => exact hg t (by unfold Oper.looksAt; exact List.mem_append_left _ (List.mem_filterMap.2 ⟨.tmp t, by simpa using hy, rfl⟩))
    | _ => rfl
  rw [this]
theorem rput_other {g g' : Regs} {d : Option Tmp} {v : Value} (e : rput nt g d v = some g') {t : Nat} (ht : ∀ s, d = some s → t ≠ s) : rget g' t = rget g t := by
  rcases rput_iff e with ⟨rfl, rfl⟩ | ⟨s, rfl, _, h2⟩
  · rfl
  · rw [h2, if_neg (ht s rfl)]
theorem rput_any {g g' : Regs} {d : Option Tmp} {v : Value} (e : rput nt g d v = some g') (g2 : Regs) : ∃ g2', rput nt g2 d v = some g2' := by
  unfold rput at e ⊢
  cases d with
  | none => exact ⟨_, rfl⟩
  | some t =>
    simp only at e ⊢
    split at e
    · exact ⟨_, fV_eq _ _⟩
    · cases e
theorem rput_same {g g' g2 g2' : Regs} {d : Option Tmp} {v : Value} (e : rput nt g d v = some g') (e2 : rput nt g2 d v = some g2') {t : Nat} (ht : (∃ s, d = some s ∧ t = s) ∨ rget g2 t = rget g t) : rget g2' t = rget g' t := by
  rcases rput_iff e with ⟨rfl, rfl⟩ | ⟨s, rfl, _, h2⟩
  · rcases rput_iff e2 with ⟨_, rfl⟩ | ⟨s, h, _⟩
    · rcases ht with ⟨s, h, _⟩ | h
      · cases h
      · exact h
    · cases h
  · rcases rput_iff e2 with ⟨h, _⟩ | ⟨s', h, _, h3⟩
    · cases h
    · cases h
      rw [h2, h3]
      split
      · rfl
      · rename_i hne
        rcases ht with ⟨_, h, rfl⟩ | h
        · cases h; exact absurd rfl hne
        · exact h

abbrev Ent := Nat × Oper × Foot
/-- operations that do what they did, one behind the other, and end so -/
def Runs (P : Program) (call : FuncId → List Value → HM Value) (nt : Nat) (ops : Array Oper) (gF : Regs) (hF : H) : List Ent → Regs → H → Prop
  | [], g, h => (∀ t, rget g t = rget gF t) ∧ ∀ i, hget h i = hget hF i
  | (_, o, y) :: L, g, h => ∃ h' g', (stepV P call ops.toList g o).run y.n h = some ⟨y.v, y.n', h', y.r, y.w⟩ ∧ rput nt g o.dst y.v = some g' ∧ Runs P call nt ops gF hF L g' h'
variable {gF : Regs} {hF : H}
theorem Runs.congr : ∀ {L : List Ent} {g g2 : Regs} {h h2 : H}, (∀ t, rget g2 t = rget g t) → (∀ i, hget h2 i = hget h i) → Runs P call nt ops gF hF L g h → Runs P call nt ops gF hF L g2 h2
  | [], g, g2, h, h2, hg, hh, ⟨k1, k2⟩ => ⟨fun t => (hg t).trans (k1 t), fun i => (hh i).trans (k2 i)⟩
  | (j, o, y) :: L, g, g2, h, h2, hg, hh, ⟨h', g', k1, k2, k3⟩ => by
    have hs : stepV P call ops.toList g2 o = stepV P call ops.toList g o := stepV_congr fun t _ => hg t
    obtain ⟨f1, f2⟩ := (stepV P call ops.toList g o).ok _ _ _ k1
    obtain ⟨h2', e1, e2⟩ := f2 h2 fun i _ => hh i
    have f3 := ((stepV P call ops.toList g o).ok _ _ _ e1).1
    obtain ⟨g2', e3⟩ := rput_any k2 g2
    refine ⟨h2', g2', by rw [hs]; exact e1, e3, Runs.congr (fun t => rput_same k2 e3 (.inr (hg t))) (fun i => ?_) k3⟩
    cases hw : y.w.testBit i with
    | true => exact e2 i hw
    | false => rw [f3 i hw, f1 i hw, hh i]
theorem apartM_eq (a b : Foot) : apartM a b = (Nat.beq (a.w &&& (b.r ||| b.w)) 0 && Nat.beq (a.r &&& b.w) 0) := by
  unfold apartM
  show (match Nat.beq (a.w &&& (b.r ||| b.w)) 0 with | true => Nat.beq (a.r &&& b.w) 0 | false => false) = _
  cases Nat.beq (a.w &&& (b.r ||| b.w)) 0 <;> rfl
theorem apartM_spec {a b : Foot} (e : apartM a b = true) (i : Nat) : (a.w.testBit i = true → b.r.testBit i = false ∧ b.w.testBit i = false) ∧ (a.r.testBit i = true → b.w.testBit i = false) := by
  rw [apartM_eq, Bool.and_eq_true] at e
  have h1 := Nat.eq_of_beq_eq_true e.1
  have h2 := Nat.eq_of_beq_eq_true e.2
  have h3 : (a.w &&& (b.r ||| b.w)).testBit i = false := by rw [h1]; exact Nat.zero_testBit i
  have h4 : (a.r &&& b.w).testBit i = false := by rw [h2]; exact Nat.zero_testBit i
  simp only [Nat.testBit_and, Nat.testBit_or] at h3 h4
  refine ⟨fun k => ?_, fun k => ?_⟩
  · rw [k] at h3; simpa using h3
  · rw [k] at h4; simpa using h4
/-- two that are apart change places -/
theorem Runs.swap {p q : Ent} {L : List Ent} {g : Regs} {h : H} (hap : apartM p.2.2 q.2.2 = true) (hop : p.2.1.apart ops q.2.1 = true) (k : Runs P call nt ops gF hF (p :: q :: L) g h) : Runs P call nt ops gF hF (q :: p :: L) g h := by
  obtain ⟨jp, op, yp⟩ := p
  obtain ⟨jq, oq, yq⟩ := q
  simp only at hap hop
  obtain ⟨h1, g1, k1, k2, h2, g2, k3, k4, k5⟩ := k
  obtain ⟨p1, p2, p3⟩ := Oper.apart_spec hop
  have hs1 : stepV P call ops.toList g1 oq = stepV P call ops.toList g oq := stepV_congr fun t ht => rput_other k2 fun s hs e => p1 s hs (e ▸ ht)
  rw [hs1] at k3
  obtain ⟨f1, f2⟩ := (stepV P call ops.toList g op).ok _ _ _ k1
  obtain ⟨f3, f4⟩ := (stepV P call ops.toList g oq).ok _ _ _ k3
  simp only at f1 f2 f3 f4
  -- q at once
  obtain ⟨h1', e1, e2⟩ := f4 h fun i hi => by
    refine (f1 i ?_).symm
    cases hw : yp.w.testBit i with
    | false => rfl
    | true =>
      obtain ⟨z1, z2⟩ := (apartM_spec hap i).1 hw
      rw [z1, z2] at hi; cases hi
  have f5 := ((stepV P call ops.toList g oq).ok _ _ _ e1).1
  simp only at f5
  -- p behind it
  obtain ⟨h2', e3, e4⟩ := f2 h1' fun i hi => by
    refine f5 i ?_
    cases hw : yq.w.testBit i with
    | false => rfl
    | true =>
      obtain ⟨z1, z2⟩ := apartM_spec hap i
      rcases Bool.or_eq_true_iff.1 hi with hr | hr
      · rw [z2 hr] at hw; cases hw
      · rw [(z1 hr).2] at hw; cases hw
  have f6 := ((stepV P call ops.toList g op).ok _ _ _ e3).1
  simp only at f6
  obtain ⟨g1', e5⟩ := rput_any k4 g
  have hs2 : stepV P call ops.toList g1' op = stepV P call ops.toList g op := stepV_congr fun t ht => rput_other e5 fun s hs e => p3 s hs (e ▸ ht)
  obtain ⟨g2', e6⟩ := rput_any k2 g1'
  refine ⟨h1', g1', e1, e5, h2', g2', by rw [hs2]; exact e3, e6, Runs.congr (fun t => ?_) (fun i => ?_) k5⟩
  · by_cases hq : oq.dst = some t
    · have hpne : ∀ s, op.dst = some s → t ≠ s := fun s hs e => p2 s hs (e ▸ hq)
      rw [rput_other e6 hpne]
      exact rput_same k4 e5 (.inl ⟨t, hq, rfl⟩)
    · have hq' : ∀ s, oq.dst = some s → t ≠ s := fun s hs e => hq (e ▸ hs)
      rw [rput_other k4 hq']
      exact rput_same k2 e6 (.inr (rput_other e5 hq'))
  · cases hwp : yp.w.testBit i with
    | true =>
      rw [e4 i hwp]
      refine (f3 i ?_).symm
      exact ((apartM_spec hap i).1 hwp).2
    | false =>
      rw [f6 i hwp]
      cases hwq : yq.w.testBit i with
      | true => exact e2 i hwq
      | false => rw [f5 i hwq, f3 i hwq, f1 i hwp]
theorem Runs.front : ∀ {L1 : List Ent} {q : Ent} {L2 : List Ent} {g : Regs} {h : H}, (∀ p ∈ L1, apartM p.2.2 q.2.2 = true ∧ p.2.1.apart ops q.2.1 = true) → Runs P call nt ops gF hF (L1 ++ q :: L2) g h → Runs P call nt ops gF hF (q :: (L1 ++ L2)) g h
  | [], q, L2, g, h, _, k => k
  | p :: L1, q, L2, g, h, hap, k => by
    obtain ⟨h1, g1, k1, k2, k3⟩ := k
    have := Runs.front (fun p hp => hap p (List.mem_cons_of_mem _ hp)) k3
    exact Runs.swap (hap p (List.mem_cons_self ..)).1 (hap p (List.mem_cons_self ..)).2 ⟨h1, g1, k1, k2, this⟩

theorem waits_listed {listed : Array Bool} (hcl : Closed .any ops listed) : ∀ (f j i : Nat), waitsA ops.toList f j i = true → (listed.getD j false = true ∨ j ∈ Region.ready .any ops listed) → listed.getD i false = true
  | 0, j, i, hw, _ => by simp [waitsA] at hw
  | f + 1, j, i, hw, hj => by
    unfold waitsA at hw
    split at hw
    · rename_i o ho
      rw [Array.getElem?_toList] at ho
      rw [List.any_eq_true] at hw
      obtain ⟨e, he, h2⟩ := hw
      rw [Bool.and_eq_true, Bool.or_eq_true] at h2
      obtain ⟨hb, h2⟩ := h2
      have h1 : listed.getD e.on false = true := by
        rcases hj with hj | hj
        · exact hcl j o hj ho e (by simpa using he) hb
        · obtain ⟨_, o', ho', hall⟩ := mem_ready.1 hj
          rw [ho] at ho'
          cases ho'
          exact hall e (by simpa using he) hb
      rcases h2 with h2 | h2
      · rw [← Nat.eq_of_beq_eq_true h2]; exact h1
      · exact waits_listed hcl f e.on i h2 (.inl h1)
    · cases hw

/-- is the later one apart from the earlier one, or does it wait for it -/
def FreeE (ops : Array Oper) (p q : Ent) : Prop := (apartM p.2.2 q.2.2 = true ∧ p.2.1.apart ops q.2.1 = true) ∨ waitsA ops.toList 4 q.1 p.1 = true
theorem any_ok (hC : CallOk P w0 call) {ρ0 : Pm} (hQ : ∀ ρ' a' w', ρ0.le ρ' → Reg ρ' nt gF a' → W P w0 ρ' hF w' → Q .normal a' w') : ∀ (m : Nat) (L : List Ent) (listed : Array Bool) (g : Regs) (h : H) (ρ : Pm) (a : Act) (w : World), L.length = m → listed.size = ops.size →
    (∀ q ∈ L, ops[q.1]? = some q.2.1) → (∀ q ∈ L, ∀ e ∈ q.2.1.after, Region.binds .any e = true → e.on < q.1) → L.Pairwise (fun p q => p.1 < q.1 ∧ FreeE ops p q) → (∀ j, j < ops.size → (listed.getD j true = false ↔ ∃ q ∈ L, q.1 = j)) → Closed .any ops listed →
    ρ0.le ρ → Reg ρ nt g a → W P w0 ρ h w → Runs P call nt ops gF hF L g h → wpAny P .any ops Q m listed a w := by
  intro m
  induction m with
  | zero =>
    intro L listed g h ρ a w hlen hsz hop hback hpw hun hcl hle hr hw hruns
    obtain rfl := List.length_eq_zero_iff.1 hlen
    refine ⟨?_, ?_⟩
    · refine List.eq_nil_iff_forall_not_mem.2 fun j hj => ?_
      obtain ⟨h1, o, h2, _⟩ := mem_ready.1 hj
      obtain ⟨q, hq, _⟩ := (hun j (Array.getElem?_eq_some_iff.1 h2).1).1 h1
      cases hq
    · obtain ⟨k1, k2⟩ := hruns
      exact hQ ρ a w hle ⟨hr.size, hr.defers, fun t v e => hr.tmp t v ((k1 t).trans e)⟩ (hw.ext fun i => (k2 i).symm)
  | succ m ih =>
    intro L listed g h ρ a w hlen hsz hop hback hpw hun hcl hle hr hw hruns
    refine ⟨fun hnil => ?_, fun i hi => ?_⟩
    · exfalso
      cases L with
      | nil => simp at hlen
      | cons q L =>
        have hq := hop q (List.mem_cons_self ..)
        have hlt := (Array.getElem?_eq_some_iff.1 hq).1
        have : q.1 ∈ Region.ready .any ops listed := mem_ready.2 ⟨(hun q.1 hlt).2 ⟨q, List.mem_cons_self .., rfl⟩, q.2.1, hq, fun e he hb => by
          have hlt2 := hback q (List.mem_cons_self ..) e he hb
          have hne : ¬ (listed.getD e.on true = false) := fun hc => by
            obtain ⟨q', hq', h1⟩ := (hun e.on (by omega)).1 hc
            rcases List.mem_cons.1 hq' with rfl | hq'
            · omega
            · have := ((List.pairwise_cons.1 hpw).1 q' hq').1
              omega
          have hin : e.on < listed.size := by omega
          simp only [Array.getD_eq_getD_getElem?, Array.getElem?_eq_getElem hin, Option.getD_some] at hne ⊢
          simpa using hne⟩
        rw [hnil] at this
        cases this
    · obtain ⟨hiun, oi, hoi, hall⟩ := mem_ready.1 hi
      have hilt := (Array.getElem?_eq_some_iff.1 hoi).1
      obtain ⟨q, hq, rfl⟩ := (hun i hilt).1 hiun
      obtain ⟨L1, L2, rfl⟩ := List.append_of_mem hq
      have hoq := hop q hq
      rw [hoi] at hoq
      cases hoq
      have hpw' := List.pairwise_append.1 hpw
      have hpw2 := List.pairwise_cons.1 hpw'.2.1
      have hap : ∀ p ∈ L1, apartM p.2.2 q.2.2 = true ∧ p.2.1.apart ops q.2.1 = true := fun p hp => by
        rcases (hpw'.2.2 p hp q (List.mem_cons_self ..)).2 with h1 | h1
        · exact h1
        · exfalso
          have h2 := waits_listed hcl 4 _ _ h1 (.inr hi)
          have hp1 := (hop p (List.mem_append_left _ hp))
          have h3 := (hun p.1 (Array.getElem?_eq_some_iff.1 hp1).1).2 ⟨p, List.mem_append_left _ hp, rfl⟩
          rw [(getD_true_false h3).1] at h2
          cases h2
      obtain ⟨h1, g1, k1, k2, k3⟩ := hruns.front hap
      have hne : ∀ p ∈ L1 ++ L2, p.1 ≠ q.1 := fun p hp => by
        rcases List.mem_append.1 hp with hp | hp
        · have := (hpw'.2.2 p hp q (List.mem_cons_self ..)).1; omega
        · have := (hpw2.1 p hp).1; omega
      have sub : ∀ p ∈ L1 ++ L2, p ∈ L1 ++ q :: L2 := fun p hp => by
        rcases List.mem_append.1 hp with hp | hp
        · exact List.mem_append_left _ hp
        · exact List.mem_append_right _ (List.mem_cons_of_mem _ hp)
      unfold wpOp
      simp only [hoi]
      refine step_wp hC hr hw k1 fun v' w' ⟨ρ', l1, l2, l3⟩ => ?_
      refine ih (L1 ++ L2) (listed.setIfInBounds q.1 true) g1 h1 ρ' _ w' (by simp at hlen ⊢; omega) (by simpa using hsz) (fun p hp => hop p (sub p hp)) (fun p hp => hback p (sub p hp)) ?_ (fun j hj => ?_) (hcl.set hi) (Pm.le_trans hle l1) ((hr.mono l1).put k2 l3) l2 k3
      · refine List.pairwise_append.2 ⟨hpw'.1, hpw2.2, fun p hp p' hp' => hpw'.2.2 p hp p' (List.mem_cons_of_mem _ hp')⟩
      · by_cases hji : j = q.1
        · subst hji
          constructor
          · intro h
            have : q.1 < listed.size := by omega
            simp [this] at h
          · rintro ⟨p, hp, h⟩
            exact absurd h (hne p hp)
        · rw [getD_set_ne true (Ne.symm hji), hun j hj]
          constructor
          · rintro ⟨p, hp, rfl⟩
            refine ⟨p, ?_, rfl⟩
            rcases List.mem_append.1 hp with hp | hp
            · exact List.mem_append_left _ hp
            · rcases List.mem_cons.1 hp with rfl | hp
              · exact absurd rfl hji
              · exact List.mem_append_right _ hp
          · rintro ⟨p, hp, rfl⟩
            exact ⟨p, sub p hp, rfl⟩

theorem rowB_spec {k : Nat} {o : Oper} : ∀ {E : List (Nat × Oper)} {bs : List Bool}, rowB ops k o E = some bs → bs.length = E.length ∧ ∀ (j : Nat) (p : Nat × Oper) (b : Bool), E[j]? = some p → bs[j]? = some b → (b = true ∧ p.2.apart ops o = true) ∨ (waitsA ops.toList 4 k p.1 = true)
  | [], bs, e => by simp [rowB] at e; subst e; exact ⟨rfl, fun j p b hp => by simp at hp⟩
  | (i, oi) :: E, bs, e => by
    unfold rowB at e
    split at e
    · cases e
    · rename_i r hr
      obtain ⟨h1, h2⟩ := rowB_spec hr
      split at e
      · rename_i hw
        cases e
        refine ⟨by simp [h1], fun j p b hp hb => ?_⟩
        cases j with
        | zero => simp at hp; subst hp; exact .inr hw
        | succ j => exact h2 j p b (by simpa using hp) (by simpa using hb)
      · split at e
        · rename_i hap
          cases e
          refine ⟨by simp [h1], fun j p b hp hb => ?_⟩
          cases j with
          | zero => simp at hp hb; subst hp hb; exact .inl ⟨rfl, hap⟩
          | succ j => exact h2 j p b (by simpa using hp) (by simpa using hb)
        · cases e
theorem chkA_spec {x : Foot} : ∀ {bs : List Bool} {acc : List Ent}, chkA x bs acc = true → bs.length = acc.length ∧ ∀ (j : Nat) (p : Ent), acc[j]? = some p → bs[j]? = some true → apartM p.2.2 x = true
  | [], [], _ => ⟨rfl, fun j p hp => by simp at hp⟩
  | [], _ :: _, e => by simp [chkA] at e
  | true :: bs, [], e => by simp [chkA] at e
  | false :: bs, [], e => by simp [chkA] at e
  | false :: bs, q :: acc, e => by
    unfold chkA at e
    obtain ⟨h1, h2⟩ := chkA_spec e
    refine ⟨by simp [h1], fun j p hp hb => ?_⟩
    cases j with
    | zero => simp at hb
    | succ j => exact h2 j p (by simpa using hp) (by simpa using hb)
  | true :: bs, (i, oi, y) :: acc, e => by
    unfold chkA at e
    split at e
    · rename_i hap
      obtain ⟨h1, h2⟩ := chkA_spec e
      refine ⟨by simp [h1], fun j p hp hb => ?_⟩
      cases j with
      | zero => simp at hp; subst hp; exact hap
      | succ j => exact h2 j p (by simpa using hp) (by simpa using hb)
    · cases e
theorem chkF_spec {x : Foot} {bs : List Bool} {acc : List Ent} (e : chkF x bs acc = true) : ∀ (j : Nat) (p : Ent), acc[j]? = some p → bs[j]? = some true → apartM p.2.2 x = true := by
  unfold chkF at e
  split at e
  · rename_i h0
    have h1 : x.r ||| x.w = 0 := Nat.eq_of_beq_eq_true h0
    have hr : x.r = 0 := by apply Nat.eq_of_testBit_eq; intro i; have := congrArg (Nat.testBit · i) h1; simp only [Nat.testBit_or, Nat.zero_testBit, Bool.or_eq_false_iff] at this ⊢; exact this.1
    have hw : x.w = 0 := by apply Nat.eq_of_testBit_eq; intro i; have := congrArg (Nat.testBit · i) h1; simp only [Nat.testBit_or, Nat.zero_testBit, Bool.or_eq_false_iff] at this ⊢; exact this.2
    intro j p _ _
    unfold apartM
    rw [hr, hw]
    have e1 : Nat.land p.2.2.w (Nat.lor 0 0) = 0 := Nat.and_zero _
    have e2 : Nat.land p.2.2.r 0 = 0 := Nat.and_zero _
    rw [e1, e2]
    rfl
  · exact (chkA_spec e).2
theorem goD_spec : ∀ (rest : List Oper) (k : Nat) (tab : List (List Bool)) (g : Regs) (acc : List Ent) (n : Nat) (h : H) (y : Res Regs), tableB ops k rest (acc.map fun p => (p.1, p.2.1)) = some tab → (goD P call nt ops k rest tab g acc).run n h = some y →
    ∃ L : List Ent, L.map (·.2.1) = rest ∧ L.map (·.1) = List.range' k rest.length ∧ Runs P call nt ops y.a y.h L g h ∧ (∀ q ∈ L, ∀ p ∈ acc, FreeE ops p q) ∧ L.Pairwise (FreeE ops) ∧ ∀ q ∈ L, ∀ e ∈ q.2.1.after, Region.binds .any e = true → e.on < q.1
  | [], k, tab, g, acc, n, h, y, ht, e => by
    have := HM.pure_iff.1 (show (HM.pure g).run n h = some y by unfold goD at e; exact e)
    subst this
    exact ⟨[], rfl, rfl, ⟨fun _ => rfl, fun _ => rfl⟩, fun q hq => (by cases hq), .nil, fun q hq => (by cases hq)⟩
  | o :: rest, k, tab, g, acc, n, h, y, ht, e => by
    unfold tableB at ht
    split at ht
    · rename_i bs t hbk hrow htab
      cases ht
      unfold goD at e
      rw [HM.bind_iff] at e
      obtain ⟨_, e1, y1, e2, rfl⟩ := e
      obtain ⟨x, e3, rfl⟩ := foot_iff.1 e1
      simp only at e2
      split at e2
      · rename_i hf
        rw [HM.bind_iff] at e2
        obtain ⟨_, e4, y2, e5, rfl⟩ := e2
        obtain ⟨g', e6, rfl⟩ := HM.opt_iff.1 e4
        simp only at e5
        obtain ⟨L, l1, l2, l3, l4, l5, l6⟩ := goD_spec rest (k + 1) t g' ((k, o, ⟨x.a, n, x.n, x.r, x.w⟩) :: acc) _ _ y2 (by simpa using htab) e5
        obtain ⟨r1, r2⟩ := rowB_spec hrow
        have hfree : ∀ p ∈ acc, FreeE ops p (k, o, ⟨x.a, n, x.n, x.r, x.w⟩) := fun p hp => by
          obtain ⟨j, hj, rfl⟩ := List.getElem_of_mem hp
          have hb : j < bs.length := by rw [r1]; simpa using hj
          rcases r2 j (acc[j].1, acc[j].2.1) bs[j] (by simp [hj]) (List.getElem?_eq_getElem hb) with ⟨h1, h2⟩ | h1
          · exact .inl ⟨chkF_spec hf j acc[j] (List.getElem?_eq_getElem hj) (by rw [List.getElem?_eq_getElem hb, h1]), h2⟩
          · exact .inr h1
        refine ⟨(k, o, ⟨x.a, n, x.n, x.r, x.w⟩) :: L, by simp [l1], ?_, ⟨x.h, g', e3, e6, l3⟩, fun q hq p hp => ?_, ?_, fun q hq e he hb => ?_⟩
        · rw [List.map_cons, l2, List.length_cons, List.range'_succ]
        · rcases List.mem_cons.1 hq with rfl | hq
          · exact hfree p hp
          · exact l4 q hq p (List.mem_cons_of_mem _ hp)
        · exact List.pairwise_cons.2 ⟨fun q hq => l4 q hq _ (List.mem_cons_self ..), l5⟩
        · rcases List.mem_cons.1 hq with rfl | hq
          · have := List.all_eq_true.1 hbk e (by simpa using he)
            rw [hb] at this
            simp only [Bool.not_true, Bool.false_or, Nat.ble_eq] at this
            exact this
          · exact l6 q hq e he hb
      · rw [HM.fail_iff] at e2; cases e2
    · cases ht
theorem goD_ok (hC : CallOk P w0 call) {id : Nat} {n : Nat} {y : Res Regs} (hm : P.follows .mixedOrders = true) (hr : Reg ρ nt g a) (hw : W P w0 ρ h w) (e : (goDs P call nt ops g).run n h = some y)
    (hQ : ∀ ρ' a' w', ρ.le ρ' → Reg ρ' nt y.a a' → W P w0 ρ' y.h w' → Q .normal a' w') : (Code.region id ops true).wp P Q a w := by
  refine wp_region_any hm ?_
  unfold goDs at e
  split at e
  case h_2 => rw [HM.fail_iff] at e; cases e
  rename_i tab htab
  obtain ⟨L, l1, l2, l3, _, l5, l6⟩ := goD_spec _ _ tab _ [] _ _ _ htab e
  have hlen : L.length = ops.size := by have := congrArg List.length l1; simpa using this
  have hidx : ∀ j, (hj : j < L.length) → (L[j]).1 = j := fun j hj => by
    have : (L.map (·.1))[j]? = (List.range' 0 ops.toList.length)[j]? := by rw [l2]
    rw [List.getElem?_map, List.getElem?_eq_getElem hj, List.getElem?_range' (by simp; omega)] at this
    simpa using this
  have hops : ∀ j, (hj : j < L.length) → ops[j]? = some (L[j]).2.1 := fun j hj => by
    have : (L.map (·.2.1))[j]? = ops.toList[j]? := by rw [l1]
    rw [List.getElem?_map, List.getElem?_eq_getElem hj, Array.getElem?_toList] at this
    exact this.symm
  refine any_ok hC hQ ops.size L _ g h ρ a _ hlen (by simp) (fun q hq => ?_) l6 ?_ (fun j hj => ?_) Closed.start (Pm.le_refl _) hr hw.drew l3
  · obtain ⟨j, hj, rfl⟩ := List.getElem_of_mem hq
    rw [hidx j hj]
    exact hops j hj
  · refine List.pairwise_iff_getElem.2 fun i j hi hj hij => ⟨?_, List.pairwise_iff_getElem.1 l5 i j hi hj hij⟩
    rw [hidx i hi, hidx j hj]
    exact hij
  · constructor
    · intro _
      exact ⟨L[j]'(by omega), List.getElem_mem _, hidx j (by omega)⟩
    · intro _
      simp [hj]
end
end Cl
end Go.Proofs.YtcihbmifogfdpaaGreatDoor

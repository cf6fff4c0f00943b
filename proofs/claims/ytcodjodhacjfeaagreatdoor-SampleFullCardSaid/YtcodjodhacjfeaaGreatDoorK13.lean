/-
  The machine's memory as one assertion among others: a call that the machine carries out from a memory that stands in the world, beside blocks that it does not touch; and a memory that is the same but for the numbers.
-/
import Derived.Test.YtcodjodhacjfeaaGreatDoorKB
namespace Go.Proofs.YtcodjodhacjfeaaGreatDoor
open Go.RowKit
namespace Cl

section
variable {P : Program} {wr w w' : World} {ρ ρ' : Pm} {h h' : H} {p : Pl} {o : AO}
/-- other blocks are left alone -/
theorem Holds.reframe {w0 w0' : Bs} (he : w0'.w = w0.w) (hk : o.live = true → w0.mine p.blk → w0'.mine p.blk) (hh : Holds P w0 ρ w p o) : Holds P w0' ρ w p o := by
  cases o with
  | cells c e v => exact ⟨hk rfl hh.1, hh.2⟩
  | map es k => exact ⟨hk rfl hh.1, hh.2⟩
  | iter => exact ⟨hk rfl hh.1, hh.2⟩
  | siter => exact ⟨hk rfl hh.1, hh.2⟩
  | ro c => exact ⟨hk rfl hh.1, hh.2⟩
  | tail => exact hh
  | glob k c => unfold Holds at *; rw [he]; exact hh
  | _ => trivial
/-- a block of the world that a live block of the machine stands for -/
def domB (ρ : Pm) (h : H) (b : Nat) : Prop := ∃ i o p, hget h i = some o ∧ o.live = true ∧ ρ i = some p ∧ p.blk = b
/-- the machine's memory stands in these blocks; R: where the blocks of some numbers are -/
def repP (P : Program) (wr : World) (h : H) (R : Pm) : HP := ⟨fun m => ∃ ρ : Pm, R.le ρ ∧ (∀ i, hget h i = none → ρ i = none) ∧
  (∀ i o, hget h i = some o → ∃ p, ρ i = some p ∧ ∀ w : World, (∀ b ob, m b = some ob → w.heap[b]? = some ob) → Holds P ⟨wr, HL.none⟩ ρ w p o) ∧
  (∀ i j oi oj p q, i ≠ j → hget h i = some oi → hget h j = some oj → ρ i = some p → ρ j = some q → oi.live = true → oj.live = true → p.blk ≠ q.blk) ∧
  ∀ b, m b ≠ none ↔ domB ρ h b⟩
theorem repP_le {R R' : Pm} (hl : R'.le R) (m : HL) (hm : (repP P wr h R).sat m) : (repP P wr h R').sat m :=
  let ⟨ρ, h1, h2⟩ := hm
  ⟨ρ, Pm.le_trans hl h1, h2⟩
/-- as a run's memory, the others' blocks left alone -/
theorem repP.run {R : Pm} {A : List HP} (hs : St wr (repP P wr h R :: A) w) : ∃ ρ fr, R.le ρ ∧ W P ⟨wr, fr⟩ ρ h w ∧ (HP.big A).sat fr ∧ ∀ b o, fr b = some o → wr.heap.size ≤ b := by
  obtain ⟨hb, m, ⟨m1, m2, ha, rfl, ⟨ρ, h1, h2, h3, h4, h5⟩, hA⟩, hc⟩ := hs
  have hc1 : ∀ b ob, m1 b = some ob → w.heap[b]? = some ob := fun b ob e => (hc b ob (by unfold HL.join; rw [e])).2
  have hc2 : ∀ b ob, m2 b = some ob → wr.heap.size ≤ b ∧ w.heap[b]? = some ob := fun b ob e => hc b ob (by
    unfold HL.join
    rcases ha b with k | k
    · rw [k]; exact e
    · rw [k] at e; cases e)
  refine ⟨ρ, m2, h1, ⟨⟨hb, fun b ob e => (hc2 b ob e).2⟩, h2, fun i o e => ?_, h4⟩, hA, fun b ob e => (hc2 b ob e).1⟩
  obtain ⟨p, e1, e2⟩ := h3 i o e
  refine ⟨p, e1, (e2 w hc1).reframe (w0 := ⟨wr, HL.none⟩) (w0' := ⟨wr, m2⟩) rfl fun hl hm => ⟨hm.1, ?_⟩⟩
  rcases ha p.blk with k | k
  · exact absurd k ((h5 p.blk).2 ⟨i, o, p, e, hl, e1, rfl⟩)
  · exact k
/-- and back -/
theorem repP.of {A : List HP} {fr : HL} (hw : W P ⟨wr, fr⟩ ρ h w) (hA : (HP.big A).sat fr) (hge : ∀ b o, fr b = some o → wr.heap.size ≤ b) : St wr (repP P wr h ρ :: A) w := by
  classical
  have hobj : ∀ i o p, hget h i = some o → ρ i = some p → Holds P ⟨wr, fr⟩ ρ w p o := fun i o p e e1 => by
    obtain ⟨q, e2, e3⟩ := hw.obj i o e
    rw [e1] at e2
    cases e2
    exact e3
  let m1 : HL := fun b => if domB ρ h b then w.heap[b]? else none
  have hsome : ∀ b, domB ρ h b → m1 b = w.heap[b]? ∧ ∃ ob, w.heap[b]? = some ob ∧ wr.heap.size ≤ b ∧ fr b = none := fun b hd => by
    refine ⟨if_pos hd, ?_⟩
    obtain ⟨i, o, p, e, hl, e1, rfl⟩ := hd
    have := (hobj i o p e e1).old hl
    exact ⟨_, Array.getElem?_eq_getElem this.2, this.1.1, this.1.2⟩
  have hnone : ∀ b, ¬ domB ρ h b → m1 b = none := fun b hd => if_neg hd
  refine ⟨hw.below.1, m1.join fr, ⟨m1, fr, fun b => ?_, rfl, ⟨ρ, Pm.le_refl _, hw.dom, fun i o e => ?_, hw.inj, fun b => ?_⟩, hA⟩, fun b o e => ?_⟩
  · by_cases hd : domB ρ h b
    · obtain ⟨_, _, _, _, k⟩ := hsome b hd
      exact .inr k
    · exact .inl (hnone b hd)
  · obtain ⟨p, e1, e2⟩ := hw.obj i o e
    refine ⟨p, e1, fun w' hc => ?_⟩
    refine (e2.world (w' := w') fun hl => ?_).reframe (w0 := ⟨wr, fr⟩) (w0' := ⟨wr, HL.none⟩) rfl fun _ hm => ⟨hm.1, rfl⟩
    obtain ⟨k1, ob, k2, _⟩ := hsome p.blk ⟨i, o, p, e, hl, e1, rfl⟩
    rw [k2]
    exact hc _ _ (k1.trans k2)
  · constructor
    · intro hne
      by_cases hd : domB ρ h b
      · exact hd
      · exact absurd (hnone b hd) hne
    · intro hd
      obtain ⟨k1, ob, k2, _⟩ := hsome b hd
      rw [k1, k2]
      simp
  · unfold HL.join at e
    by_cases hd : domB ρ h b
    · obtain ⟨k1, ob, k2, k3, _⟩ := hsome b hd
      rw [k1, k2] at e
      cases e
      exact ⟨k3, k2⟩
    · rw [hnone b hd] at e
      exact ⟨hge b o e, hw.below.2 b o e⟩

/-- A CALL CARRIED OUT BY THE MACHINE, beside others' blocks. -/
theorem rep_call {ov : FuncId → Option (List Value → HM Value)} {L d n0 : Nat} {f : FuncId} {args args' : List Value} {x : Res Value} {R : Pm} {A : List HP} (hm : P.follows .mixedOrders = true) (hN : ∀ (f : FuncId) (fn : Func), P.funcs[f]? = some fn → fn.body.isSome = true → (fn.name == "runtime.NumGoroutine") = false)
    (hov : ∀ fr, OvOk P ⟨wr, fr⟩ ov) (hs : St wr (repP P wr h R :: A) w) (ha : ∀ ρ : Pm, R.le ρ → GL ρ args args') (he : (callFunc f args'.toArray).run P w = .ok (.enter f args'.toArray) w) (e : (callA P ov L d f args).run n0 h = some x) :
    Calls P f args'.toArray w fun e w' => ∃ v' R', e = .returned v' ∧ R.le R' ∧ G R' x.a v' ∧ St wr (repP P wr x.h R' :: A) w' := by
  obtain ⟨ρ, fr, h1, h2, h3, hge⟩ := repP.run hs
  have := callA_ok hm (hov fr) hN d f args n0 h x e ρ w args' h2 (ha ρ h1)
  rw [he] at this
  exact Calls.mono this fun e w' ⟨v', k1, ρ', k2, k3, k4⟩ => ⟨v', ρ', k1, Pm.le_trans h1 k2, k4, repP.of k3 h3 hge⟩

/-! the same memory, but for the numbers -/
noncomputable def all2 {α β : Type} (f : α → β → Bool) : List α → List β → Bool
  | [], [] => true
  | a :: l, b :: r => match f a b with
    | true => all2 f l r
    | false => false
  | _, _ => false
theorem all2_spec {α β : Type} {f : α → β → Bool} : ∀ {l : List α} {r : List β}, all2 f l r = true → l.length = r.length ∧ ∀ (i : Nat) (a : α) (b : β), l[i]? = some a → r[i]? = some b → f a b = true
  | [], [], _ => ⟨rfl, fun i a b h => by simp at h⟩
  | a :: l, b :: r, h => by
    unfold all2 at h
    split at h
    · rename_i h1
      obtain ⟨k1, k2⟩ := all2_spec h
      refine ⟨by simp [k1], fun i x y hx hy => ?_⟩
      cases i with
      | zero => simp at hx hy; subst hx hy; exact h1
      | succ i => exact k2 i x y (by simpa using hx) (by simpa using hy)
    · cases h
  | [], _ :: _, h => by simp [all2] at h
  | _ :: _, [], h => by simp [all2] at h
theorem all2_get {α β : Type} {f : α → β → Bool} {l : List α} {r : List β} (h : all2 f l r = true) {i : Nat} {a : α} (ha : l[i]? = some a) : ∃ b, r[i]? = some b ∧ f a b = true := by
  obtain ⟨h1, h2⟩ := all2_spec h
  have hlt : i < r.length := by rw [← h1]; exact (List.getElem?_eq_some_iff.1 ha).1
  exact ⟨_, List.getElem?_eq_getElem hlt, h2 i a _ ha (List.getElem?_eq_getElem hlt)⟩
section
variable (m : Nat → Nat → Bool)
/-- are words the same, but for the numbers? (m i j: number i is the other one's number j) -/
noncomputable def sameV : Nat → Value → Value → Bool
  | d, v, v' => match v, v' with
    | .bool a, .bool b => a == b
    | .int k a, .int k' b => decide (k = k') && decide (a = b)
    | .string a, .string b => decide (a = b)
    | .pointer none, .pointer none => true
    | .slice none n c, .slice none n' c' => Nat.beq n n' && Nat.beq c c'
    | .map none, .map none => true
    | .nilFunc, .nilFunc => true
    | .nilIface, .nilIface => true
    | .pointer (some ⟨b, off, none⟩), .pointer (some ⟨b', off', none⟩) => m b b' && Nat.beq off off'
    | .slice (some ⟨b, off, none⟩) n c, .slice (some ⟨b', off', none⟩) n' c' => m b b' && Nat.beq off off' && (Nat.beq n n' && Nat.beq c c')
    | .slice (some ⟨b, off, some 0⟩) n c, .slice (some ⟨b', off', some 0⟩) n' c' => m b b' && Nat.beq off off' && (Nat.beq n n' && Nat.beq c c')
    | .map (some b), .map (some b') => m b b'
    | .iface t u, .iface t' u' => match d with
      | 0 => false
      | d + 1 => Nat.beq t t' && sameV d u u'
    | .agg a, .agg a' => match d with
      | 0 => false
      | d + 1 => all2 (sameV d) a.toList a'.toList
    | .tuple a, .tuple a' => match d with
      | 0 => false
      | d + 1 => all2 (sameV d) a.toList a'.toList
    | _, _ => false
end
theorem sameV_G {m : Nat → Nat → Bool} {ρ ρ2 : Pm} (hm : ∀ i j, m i j = true → ρ2 i = ρ j) : ∀ (d : Nat) (v v1 v' : Value), sameV m d v v1 = true → G ρ v1 v' → G ρ2 v v' := by
  have hb : ∀ {i j : Nat} {p : Pl}, m i j = true → ρ j = some p → ρ2 i = some p := fun h e => (hm _ _ h).trans e
  intro d
  induction d with
  | zero =>
    intro v v1 v' h g
    unfold sameV at h
    split at h
    · rw [beq_iff_eq] at h; subst h; rw [G.nil_eq rfl g]; exact .flat rfl
    · simp only [Bool.and_eq_true, decide_eq_true_eq] at h; obtain ⟨rfl, rfl⟩ := h; rw [G.nil_eq rfl g]; exact .flat rfl
    · rw [decide_eq_true_eq] at h; subst h; rw [G.nil_eq rfl g]; exact .flat rfl
    · rw [G.nil_eq rfl g]; exact .flat rfl
    · simp only [Bool.and_eq_true, Nat.beq_eq] at h; obtain ⟨rfl, rfl⟩ := h; rw [G.nil_eq rfl g]; exact .flat rfl
    · rw [G.nil_eq rfl g]; exact .flat rfl
    · rw [G.nil_eq rfl g]; exact .flat rfl
    · rw [G.nil_eq rfl g]; exact .flat rfl
    · simp only [Bool.and_eq_true, Nat.beq_eq] at h; obtain ⟨h, rfl⟩ := h; obtain ⟨p, e, rfl⟩ := g.ptr_inv; exact .ptr (hb h e)
    · simp only [Bool.and_eq_true, Nat.beq_eq] at h
      obtain ⟨⟨h, rfl⟩, rfl, rfl⟩ := h
      obtain ⟨p, c', e, rfl, ⟨_, rfl⟩ | ⟨k, _⟩⟩ := g.slice_inv
      · exact .slc (hb h e)
      · cases k
    · simp only [Bool.and_eq_true, Nat.beq_eq] at h
      obtain ⟨⟨h, rfl⟩, rfl, rfl⟩ := h
      obtain ⟨p, c', e, rfl, ⟨k, _⟩ | ⟨_, rfl⟩⟩ := g.slice_inv
      · cases k
      · exact .slx (hb h e)
    · obtain ⟨p, e, rfl⟩ := g.map_inv; exact .map (hb h e)
    · cases h
    · cases h
    · cases h
    · cases h
  | succ d ih =>
    intro v v1 v' h g
    unfold sameV at h
    split at h
    · rw [beq_iff_eq] at h; subst h; rw [G.nil_eq rfl g]; exact .flat rfl
    · simp only [Bool.and_eq_true, decide_eq_true_eq] at h; obtain ⟨rfl, rfl⟩ := h; rw [G.nil_eq rfl g]; exact .flat rfl
    · rw [decide_eq_true_eq] at h; subst h; rw [G.nil_eq rfl g]; exact .flat rfl
    · rw [G.nil_eq rfl g]; exact .flat rfl
    · simp only [Bool.and_eq_true, Nat.beq_eq] at h; obtain ⟨rfl, rfl⟩ := h; rw [G.nil_eq rfl g]; exact .flat rfl
    · rw [G.nil_eq rfl g]; exact .flat rfl
    · rw [G.nil_eq rfl g]; exact .flat rfl
    · rw [G.nil_eq rfl g]; exact .flat rfl
    · simp only [Bool.and_eq_true, Nat.beq_eq] at h; obtain ⟨h, rfl⟩ := h; obtain ⟨p, e, rfl⟩ := g.ptr_inv; exact .ptr (hb h e)
    · simp only [Bool.and_eq_true, Nat.beq_eq] at h
      obtain ⟨⟨h, rfl⟩, rfl, rfl⟩ := h
      obtain ⟨p, c', e, rfl, ⟨_, rfl⟩ | ⟨k, _⟩⟩ := g.slice_inv
      · exact .slc (hb h e)
      · cases k
    · simp only [Bool.and_eq_true, Nat.beq_eq] at h
      obtain ⟨⟨h, rfl⟩, rfl, rfl⟩ := h
      obtain ⟨p, c', e, rfl, ⟨k, _⟩ | ⟨_, rfl⟩⟩ := g.slice_inv
      · cases k
      · exact .slx (hb h e)
    · obtain ⟨p, e, rfl⟩ := g.map_inv; exact .map (hb h e)
    · simp only [Bool.and_eq_true, Nat.beq_eq] at h
      obtain ⟨rfl, h⟩ := h
      obtain ⟨u', rfl, g1⟩ := g.iface_inv
      exact .iface (ih _ _ _ h g1)
    · obtain ⟨c', rfl, g1⟩ := g.agg_inv
      obtain ⟨k1, k2⟩ := all2_spec h
      have k3 := g1.1
      simp only [Array.length_toList] at k1 k3
      refine .agg (k1.trans k3) fun i u u' e1 e2 => ?_
      obtain ⟨u1, e3, e4⟩ := all2_get h (i := i) (a := u) (by simpa using e1)
      exact ih _ _ _ e4 (g1.2 i _ _ e3 (by simpa using e2))
    · obtain ⟨c', rfl, g1⟩ := g.tuple_inv
      obtain ⟨k1, k2⟩ := all2_spec h
      have k3 := g1.1
      simp only [Array.length_toList] at k1 k3
      refine .tuple (k1.trans k3) fun i u u' e1 e2 => ?_
      obtain ⟨u1, e3, e4⟩ := all2_get h (i := i) (a := u) (by simpa using e1)
      exact ih _ _ _ e4 (g1.2 i _ _ e3 (by simpa using e2))
    · cases h

/-- the blocks of a memory as another one's -/
noncomputable def sameO (m : Nat → Nat → Bool) : AO → AO → Bool
  | .cells c e v, .cells c' e' v' => all2 (sameV m CD) c c' && (Nat.beq e e' && (v == v'))
  | .map es _, .map es' _ => all2 (fun e e' => sameV m CD e.key e'.key && closedB CD e.key && sameV m CD e.val e'.val) es es'
  | .glob k c, .glob k' c' => Nat.beq k k' && all2 (sameV m CD) c c'
  | .emp, _ => true
  | .tail b k, .tail b' k' => m b b' && Nat.beq k k'
  | _, _ => false
/-- clocks that must be the same -/
noncomputable def clkO : AO → AO → List (Nat × Nat)
  | .map es k, .map es' k' => (k, k') :: bornL es es'
  | _, _ => []
where bornL : List MapEntry → List MapEntry → List (Nat × Nat)
  | e :: l, e' :: l' => (e.born, e'.born) :: bornL l l'
  | _, _ => []
theorem bornL_mem : ∀ {es es' : List MapEntry} {i : Nat} {e e' : MapEntry}, es[i]? = some e → es'[i]? = some e' → (e.born, e'.born) ∈ clkO.bornL es es'
  | [], _, _, _, _, h, _ => by simp at h
  | _ :: _, [], _, _, _, _, h => by simp at h
  | a :: l, b :: l', 0, e, e', h, h' => by
    simp at h h'; subst h h'
    simp [clkO.bornL]
  | a :: l, b :: l', i + 1, e, e', h, h' => by
    rw [clkO.bornL]
    exact List.mem_cons_of_mem _ (bornL_mem (by simpa using h) (by simpa using h'))
/-- the numbers' meaning -/
noncomputable def turnM (σ : List (Nat × Nat)) (i j : Nat) : Bool := match look σ i with
  | some j' => Nat.beq j' j
  | none => false
noncomputable def turnP (σ : List (Nat × Nat)) (ρ : Pm) : Pm := fun i => match look σ i with
  | some j => ρ j
  | none => none
theorem sameV_eq {m : Nat → Nat → Bool} {d : Nat} {v v1 v' : Value} {ρ : Pm} (hc : closedB CD v = true) (h : sameV m d v v1 = true) (ρ2 : Pm) (hm : ∀ i j, m i j = true → ρ2 i = ρ j) (g : G ρ v1 v') : v' = v := G.closed_eq CD _ _ hc (sameV_G hm d v v1 v' h g)
theorem Holds.turn {P : Program} {w0 : Bs} {w : World} {ρ ρ2 : Pm} {m : Nat → Nat → Bool} (hm : ∀ i j, m i j = true → ρ2 i = ρ j) {p : Pl} {o o2 : AO} (h : sameO m o2 o = true) (hk : ∀ x ∈ clkO o2 o, x.1 = x.2) (hh : Holds P w0 ρ w p o) : Holds P w0 ρ2 w p o2 := by
  unfold sameO at h
  split at h
  · simp only [Bool.and_eq_true, Nat.beq_eq, beq_iff_eq] at h
    obtain ⟨h1, rfl, rfl⟩ := h
    obtain ⟨k1, k2⟩ := all2_spec h1
    obtain ⟨q1, q2, C, q3, q4, q5⟩ := hh
    refine ⟨q1, q2, C, q3, by rw [q4, k1], fun k u hu => ?_⟩
    obtain ⟨u1, f1, f2⟩ := all2_get h1 hu
    obtain ⟨u', e1, e2⟩ := q5 k _ f1
    exact ⟨u', e1, sameV_G hm _ _ _ _ f2 e2⟩
  · rename_i es k es' k'
    have hkk : k = k' := hk (k, k') (List.mem_cons_self ..)
    subst hkk
    obtain ⟨k1, k2⟩ := all2_spec h
    obtain ⟨q1, es', q2, q3, q4⟩ := hh
    refine ⟨q1, es', q2, k1.trans q3, fun i e e' h1 h2 => ?_⟩
    obtain ⟨x, f1, h3⟩ := all2_get h h1
    simp only [Bool.and_eq_true] at h3
    obtain ⟨⟨r1, r2⟩, r4⟩ := h3
    have r3 : e.born = x.born := hk (_, _) (List.mem_cons_of_mem _ (bornL_mem h1 f1))
    obtain ⟨s1, s2, s3, s4⟩ := q4 i _ e' f1 h2
    refine ⟨?_, r2, s3.trans r3.symm, sameV_G hm _ _ _ _ r4 s4⟩
    rw [s1]
    exact sameV_eq (ρ := ρ) r2 r1 ρ2 hm (G.of_closed _ _ s2)
  · simp only [Bool.and_eq_true, Nat.beq_eq] at h
    obtain ⟨rfl, h⟩ := h
    obtain ⟨k1, k2⟩ := all2_spec h
    obtain ⟨q1, q2, q3⟩ := hh
    refine ⟨q1, q2, fun i u hu => ?_⟩
    obtain ⟨u1, f1, f2⟩ := all2_get h hu
    obtain ⟨u', e1, e2⟩ := q3 i _ f1
    exact ⟨u', e1, sameV_G hm _ _ _ _ f2 e2⟩
  · trivial
  · simp only [Bool.and_eq_true, Nat.beq_eq] at h
    obtain ⟨h1, rfl⟩ := h
    obtain ⟨q, o1, o2⟩ := hh
    exact ⟨q, (hm _ _ h1).trans o1, o2⟩
  · cases h
/-- a memory out of a list -/
noncomputable def ofL : List (Nat × AO) → H
  | [] => h00
  | (i, o) :: l => hset (ofL l) i o
theorem hget_ofL : ∀ (l : List (Nat × AO)) (i : Nat), hget (ofL l) i = look l i
  | [], i => by rw [ofL, hget_h00, look_nil]
  | (j, o) :: l, i => by rw [ofL, hget_set, look_cons, hget_ofL l]
/-- is a list, but for the numbers, (a part of) a memory? -/
noncomputable def turnB (σ : List (Nat × Nat)) (l2 : List (Nat × AO)) (h : H) : Bool :=
  l2.all (fun x => match look σ x.1 with
    | some j => match hget h j with
      | some o => sameO (turnM σ) x.2 o
      | none => false
    | none => false) && (σ.all (fun x => (look l2 x.1).isSome) && decide (σ.map (·.2)).Nodup)
/-- the clocks that must be the same -/
noncomputable def clks (σ : List (Nat × Nat)) (l2 : List (Nat × AO)) (h : H) : List (Nat × Nat) := l2.flatMap fun x => match look σ x.1 with
  | some j => match hget h j with
    | some o => clkO x.2 o
    | none => []
  | none => []
theorem look_mem {α : Type} : ∀ {l : List (Nat × α)} {i : Nat} {a : α}, look l i = some a → (i, a) ∈ l
  | [], _, _, h => by rw [look_nil] at h; cases h
  | (j, b) :: l, i, a, h => by
    rw [look_cons] at h
    split at h
    · rename_i e; cases h; subst e; exact List.mem_cons_self
    · exact List.mem_cons_of_mem _ (look_mem h)
theorem look_inj {σ : List (Nat × Nat)} (hn : (σ.map (·.2)).Nodup) {i j k : Nat} (h1 : look σ i = some k) (h2 : look σ j = some k) : i = j := by
  have m1 := look_mem h1
  have m2 := look_mem h2
  clear h1 h2
  induction σ with
  | nil => cases m1
  | cons x σ ih =>
    simp only [List.map_cons, List.nodup_cons, List.mem_map, not_exists, not_and] at hn
    rcases List.mem_cons.1 m1 with e1 | e1 <;> rcases List.mem_cons.1 m2 with e2 | e2
    · rw [← e1] at e2; cases e2; rfl
    · have := hn.1 _ e2; rw [← e1] at this; exact absurd rfl this
    · have := hn.1 _ e1; rw [← e2] at this; exact absurd rfl this
    · exact ih hn.2 e1 e2
theorem W.turn {P : Program} {w0 : Bs} {w : World} {ρ : Pm} {h : H} (hw : W P w0 ρ h w) {σ : List (Nat × Nat)} {l2 : List (Nat × AO)} (hb : turnB σ l2 h = true) (hk : ∀ x ∈ clks σ l2 h, x.1 = x.2) : W P w0 (turnP σ ρ) (ofL l2) w := by
  unfold turnB at hb
  simp only [Bool.and_eq_true, decide_eq_true_eq] at hb
  obtain ⟨h1, h2, h3⟩ := hb
  have hm : ∀ i j, turnM σ i j = true → turnP σ ρ i = ρ j := fun i j e => by
    unfold turnM at e
    unfold turnP
    split at e
    · rw [Nat.eq_of_beq_eq_true e]
    · cases e
  have hobj : ∀ i o2, hget (ofL l2) i = some o2 → ∃ j o, look σ i = some j ∧ hget h j = some o ∧ sameO (turnM σ) o2 o = true ∧ ∀ x ∈ clkO o2 o, x.1 = x.2 := fun i o2 e => by
    rw [hget_ofL] at e
    have hmem := look_mem e
    have := List.all_eq_true.1 h1 _ hmem
    simp only at this
    split at this
    · rename_i j hj
      split at this
      · rename_i o ho
        refine ⟨j, o, hj, ho, this, fun x hx => hk x ?_⟩
        refine List.mem_flatMap.2 ⟨_, hmem, ?_⟩
        simp only [hj, ho]
        exact hx
      · cases this
    · cases this
  have hlive : ∀ {o2 o : AO}, sameO (turnM σ) o2 o = true → o2.live = true → o.live = true := fun {o2 o} e => by
    unfold sameO at e
    split at e <;> first | exact fun h => h | (intro h; cases h; done) | cases e
  refine ⟨hw.below, fun i e => ?_, fun i o2 e => ?_, fun i j oi oj p q hij ei ej hp hq li lj => ?_⟩
  · unfold turnP
    cases hs : look σ i with
    | none => rfl
    | some j =>
      have := List.all_eq_true.1 h2 _ (look_mem hs)
      rw [← hget_ofL, e] at this
      cases this
  · obtain ⟨j, o, k1, k2, k3, k4⟩ := hobj i o2 e
    obtain ⟨p, e1, e2⟩ := hw.obj j o k2
    refine ⟨p, ?_, e2.turn hm k3 k4⟩
    unfold turnP
    simp only [k1]
    exact e1
  · obtain ⟨i', o, k1, k2, k3, _⟩ := hobj i oi ei
    obtain ⟨j', o', r1, r2, r3, _⟩ := hobj j oj ej
    unfold turnP at hp hq
    simp only [k1] at hp
    simp only [r1] at hq
    refine hw.inj i' j' o o' p q (fun e => ?_) k2 r2 hp hq (hlive k3 li) (hlive r3 lj)
    subst e
    exact hij (look_inj h3 k1 r1)
/-- A MEMORY BY OTHER NUMBERS, without what is not spoken of any more -/
theorem rep_turn {P : Program} {wr w : World} {h : H} {R R2 : Pm} {A : List HP} {σ : List (Nat × Nat)} {l2 : List (Nat × AO)} (hs : St wr (repP P wr h R :: A) w) (hb : turnB σ l2 h = true) (hk : ∀ x ∈ clks σ l2 h, x.1 = x.2) (hR : ∀ ρ : Pm, R.le ρ → R2.le (turnP σ ρ)) : St wr (repP P wr (ofL l2) R2 :: A) w := by
  obtain ⟨ρ, fr, h1, h2, h3, h4⟩ := repP.run hs
  exact (repP.of (h2.turn hb hk) h3 h4).mono fun m hm => repP_le (hR ρ h1) m hm
end
end Cl
end Go.Proofs.YtcodjodhacjfeaaGreatDoor

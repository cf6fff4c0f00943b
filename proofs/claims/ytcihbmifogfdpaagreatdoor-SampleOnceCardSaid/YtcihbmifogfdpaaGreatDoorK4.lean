/-
  The machine's memory and the world's: reading, writing, making.
-/
import Derived.Test.YtcihbmifogfdpaaGreatDoorK3
namespace Go.Proofs.YtcihbmifogfdpaaGreatDoor
open Go.RowKit
namespace Cl

theorem getC_inv {b n : Nat} {h : H} {x : Res (List Value × TypeId × Bool)} (e : (getC b).run n h = some x) : x.h = h ∧ hget h b = some (.cells x.a.1 x.a.2.1 x.a.2.2) := by
  unfold getC at e
  simp only [HM.bind_iff, getO_iff] at e
  obtain ⟨_, ⟨o, h1, rfl⟩, y, e2, rfl⟩ := e
  simp only at e2
  cases o with
  | cells c t v => simp only [HM.pure_iff] at e2; subst e2; exact ⟨rfl, h1⟩
  | _ => simp only [HM.fail_iff] at e2
theorem getR_inv {b n : Nat} {h : H} {x : Res (List Value)} (e : (getR b).run n h = some x) : x.h = h ∧ ((∃ t v, hget h b = some (.cells x.a t v)) ∨ (∃ k, hget h b = some (.glob k x.a)) ∨ hget h b = some (.ro x.a)) := by
  unfold getR at e
  simp only [HM.bind_iff, getO_iff] at e
  obtain ⟨_, ⟨o, h1, rfl⟩, y, e2, rfl⟩ := e
  simp only at e2
  cases o with
  | cells c t v => simp only [HM.pure_iff] at e2; subst e2; exact ⟨rfl, .inl ⟨_, _, h1⟩⟩
  | glob k c => simp only [HM.pure_iff] at e2; subst e2; exact ⟨rfl, .inr (.inl ⟨_, h1⟩)⟩
  | ro c => simp only [HM.pure_iff] at e2; subst e2; exact ⟨rfl, .inr (.inr h1)⟩
  | _ => simp only [HM.fail_iff] at e2
theorem getG_inv {k n : Nat} {h : H} {x : Res (List Value)} (e : (getG k).run n h = some x) : x.h = h ∧ hget h (gid k) = some (.glob k x.a) := by
  unfold getG at e
  simp only [HM.bind_iff, getO_iff] at e
  obtain ⟨_, ⟨o, h1, rfl⟩, y, e2, rfl⟩ := e
  simp only at e2
  cases o with
  | glob j c =>
    simp only at e2
    split at e2
    · rename_i hj
      obtain rfl := Nat.eq_of_beq_eq_true hj
      simp only [HM.pure_iff] at e2
      subst e2
      exact ⟨rfl, h1⟩
    · simp only [HM.fail_iff] at e2
  | _ => simp only [HM.fail_iff] at e2
theorem getM_inv {b n : Nat} {h : H} {x : Res (List MapEntry × Nat)} (e : (getM b).run n h = some x) : x.h = h ∧ hget h b = some (.map x.a.1 x.a.2) := by
  unfold getM at e
  simp only [HM.bind_iff, getO_iff] at e
  obtain ⟨_, ⟨o, h1, rfl⟩, y, e2, rfl⟩ := e
  simp only at e2
  cases o with
  | map es k => simp only [HM.pure_iff] at e2; subst e2; exact ⟨rfl, h1⟩
  | _ => simp only [HM.fail_iff] at e2

theorem tk_spec {P : Program} {t : TypeId} {r : Bool} {n : Nat} (e : tk P t = some (r, n)) : ∃ d i, P.underlying t = some d ∧ P.info? t = some i ∧ i.size = n ∧ d.isRow = r := by
  unfold tk at e
  split at e
  · rename_i i h1 h2; cases e; exact ⟨_, i, h1, h2, rfl, rfl⟩
  · rename_i i h1 h2; cases e; exact ⟨_, i, h1, h2, rfl, rfl⟩
  · rename_i d i h1 h2 h3 h4
    cases e
    refine ⟨d, i, h3, h4, rfl, ?_⟩
    cases d <;> simp_all [TypeDesc.isRow]
  · cases e
theorem tk_size {P : Program} {t : TypeId} {r : Bool} {n : Nat} (e : tk P t = some (r, n)) : (P.info? t).map (·.size) = some n := by
  obtain ⟨d, i, _, h2, h3, _⟩ := tk_spec e
  rw [h2, ← h3]; rfl

theorem takeA_iff {c l : List Value} {off n : Nat} : takeA c off n = some l ↔ off + n ≤ c.length ∧ l = (c.drop off).take n ∨ (n = 0 ∧ l = []) := by
  unfold takeA
  cases e : Nat.beq ((c.drop off).take n).length n with
  | true =>
    have := Nat.eq_of_beq_eq_true e
    simp only [Option.some.injEq]
    constructor
    · rintro rfl
      simp at this
      by_cases h0 : n = 0
      · subst h0; right; simp
      · left; exact ⟨by omega, rfl⟩
    · rintro (⟨_, rfl⟩ | ⟨rfl, rfl⟩)
      · rfl
      · simp
  | false =>
    have := Nat.ne_of_beq_eq_false e
    simp only [reduceCtorEq, false_iff]
    rintro (⟨h1, rfl⟩ | ⟨rfl, rfl⟩)
    · apply this; simp; omega
    · apply this; simp

theorem writeA_spec : ∀ {off : Nat} {vs c c' : List Value}, writeA off vs c = some c' → off + vs.length ≤ c.length ∧ c'.length = c.length ∧ ∀ k, c'[k]? = if off ≤ k ∧ k < off + vs.length then vs[k - off]? else c[k]?
  | 0, [], c, c', e => by
    simp only [writeA] at e
    cases e
    refine ⟨by simp, rfl, fun k => ?_⟩
    rw [if_neg (by simp)]
  | 0, v :: vs, [], c', e => by simp [writeA] at e
  | 0, v :: vs, x :: c, c', e => by
    simp only [writeA] at e
    split at e
    · rename_i l hl
      cases e
      obtain ⟨h1, h2, h3⟩ := writeA_spec hl
      refine ⟨by simp only [List.length_cons] at *; omega, by simp [h2], fun k => ?_⟩
      cases k with
      | zero => simp
      | succ k =>
        simp only [List.getElem?_cons_succ, h3 k, List.length_cons]
        by_cases hk : k < 0 + vs.length
        · rw [if_pos ⟨Nat.zero_le _, hk⟩, if_pos ⟨Nat.zero_le _, by omega⟩]
          simp
        · rw [if_neg (fun h => hk h.2), if_neg (fun h => hk (by omega))]
    · cases e
  | n + 1, vs, [], c', e => by cases vs <;> simp [writeA] at e
  | n + 1, vs, x :: c, c', e => by
    simp only [writeA] at e
    split at e
    · rename_i l hl
      cases e
      obtain ⟨h1, h2, h3⟩ := writeA_spec hl
      refine ⟨by simp only [List.length_cons] at *; omega, by simp [h2], fun k => ?_⟩
      cases k with
      | zero => simp
      | succ k =>
        simp only [List.getElem?_cons_succ, h3 k]
        by_cases hk : n ≤ k ∧ k < n + vs.length
        · rw [if_pos hk, if_pos ⟨by omega, by omega⟩, Nat.succ_sub_succ]
        · rw [if_neg hk, if_neg (fun h => hk ⟨by omega, by omega⟩)]
    · cases e

/-- the world behind a store of many cells -/
theorem setCells_heap (b : Nat) (t : TypeId) (fr : Nat × Nat) : ∀ (vs : List Value) (o : Nat) (w : World) (C : Array Value), w.heap[b]? = some (.cells C t fr) → o + vs.length ≤ C.size →
    ∃ C' : Array Value, (w.setCells b o vs).heap[b]? = some (.cells C' t fr) ∧ C'.size = C.size ∧ ∀ k, C'[k]? = if o ≤ k ∧ k < o + vs.length then vs[k - o]? else C[k]?
  | [], o, w, C, h, _ => ⟨C, h, rfl, fun k => by rw [if_neg (by simp)]⟩
  | v :: r, o, w, C, h, hl => by
    have h1 : (w.setCell ⟨b, o, none⟩ v).heap[b]? = some (.cells (C.setIfInBounds o v) t fr) := by simp [World.setCell, Array.getElem?_modify, h]
    simp only [List.length_cons] at hl
    obtain ⟨C', e1, e2, e3⟩ := setCells_heap b t fr r (o + 1) _ _ h1 (by simp; omega)
    refine ⟨C', e1, by simpa using e2, fun k => ?_⟩
    rw [e3 k]
    by_cases hk : k = o
    · subst hk
      rw [if_neg (by omega), if_pos ⟨Nat.le_refl _, by simp⟩, Array.getElem?_setIfInBounds]
      rw [if_pos rfl, if_pos (by omega)]
      simp
    · rw [Array.getElem?_setIfInBounds_ne (Ne.symm hk)]
      by_cases h2 : o + 1 ≤ k ∧ k < o + 1 + r.length
      · rw [if_pos h2, if_pos ⟨by omega, by simp; omega⟩]
        obtain ⟨m, rfl⟩ : ∃ m, k = o + 1 + m := ⟨k - (o + 1), by omega⟩
        rw [show o + 1 + m - (o + 1) = m by omega, show o + 1 + m - o = m + 1 by omega]
        simp
      · rw [if_neg h2, if_neg (by simp; omega)]
theorem setCells_other (b : Nat) : ∀ (vs : List Value) (o : Nat) (w : World) (k : Nat), k ≠ b → (w.setCells b o vs).heap[k]? = w.heap[k]?
  | [], _, _, _, _ => rfl
  | v :: r, o, w, k, hk => by
    rw [World.setCells, setCells_other b r (o + 1) _ k hk]
    exact Below.heap_setCell _ _ _ _ hk
theorem setCells_below {N b : Nat} (hN : N ≤ b) : ∀ (vs : List Value) (o : Nat) (w w0 : World), Below N w0 w → Below N w0 (w.setCells b o vs)
  | [], _, _, _, h => h
  | v :: r, o, w, w0, h => setCells_below hN r (o + 1) _ w0 (h.setCell hN v)

section
variable {P : Program} {w0 w : World} {ρ : Pm} {h : H} {b off n : Nat} {c l : List Value} {t : TypeId} {v : Bool} {p : Pl}
theorem W.row (hw : W P w0 ρ h w) (hb : hget h b = some (.cells c t v)) (hp : ρ b = some p) : w0.heap.size ≤ p.blk ∧ (v = false → p.slack = 0 ∧ p.base = 0) ∧ ∃ C : Array Value, w.heap[p.blk]? = some (.cells C t (0, 0)) ∧ C.size = p.base + c.length + p.slack * szOf P t ∧
      ∀ (k : Nat) (u : Value), c[k]? = some u → ∃ u', C[p.base + k]? = some u' ∧ G ρ u u' := by
  obtain ⟨q, e1, e2⟩ := hw.obj b _ hb
  rw [hp] at e1
  cases e1
  exact e2
theorem W.mapRow {es : List MapEntry} {k : Nat} (hw : W P w0 ρ h w) (hb : hget h b = some (.map es k)) (hp : ρ b = some p) : w0.heap.size ≤ p.blk ∧ ∃ es' : Array MapEntry, w.heap[p.blk]? = some (.map es' k) ∧ GE ρ es es'.toList := by
  obtain ⟨q, e1, e2⟩ := hw.obj b _ hb
  rw [hp] at e1
  cases e1
  exact e2
/-- a part of a row -/
theorem W.range (hw : W P w0 ρ h w) (hb : hget h b = some (.cells c t v)) (hp : ρ b = some p) (hl : takeA c off n = some l) : ∃ l', GL ρ l l' ∧ l'.length = n ∧ w.rangeAt p.blk (p.base + off) l' := by
  obtain ⟨_, _, C, h3, h4, h5⟩ := hw.row hb hp
  rcases takeA_iff.1 hl with ⟨h6, rfl⟩ | ⟨rfl, rfl⟩
  · refine ⟨(C.toList.drop (p.base + off)).take n, ⟨by simp; omega, fun i u u' hu hu' => ?_⟩, by simp; omega, fun j u hu => ?_⟩
    · rw [List.getElem?_take] at hu hu'
      split at hu
      · rename_i hi
        rw [if_pos hi] at hu'
        rw [List.getElem?_drop] at hu hu'
        obtain ⟨u'', e1, e2⟩ := h5 _ _ hu
        rw [Array.getElem?_toList, Nat.add_assoc, e1] at hu'
        cases hu'
        exact e2
      · cases hu
    · rw [List.getElem?_take] at hu
      split at hu
      · rw [List.getElem?_drop, Array.getElem?_toList] at hu
        simp [World.cell?, h3, hu]
      · cases hu
  · exact ⟨[], .nil, rfl, fun j u hu => by simp at hu⟩
theorem W.cell (hw : W P w0 ρ h w) (hb : hget h b = some (.cells c t v)) (hp : ρ b = some p) {u : Value} (hu : c[off]? = some u) : ∃ u', w.cell? ⟨p.blk, p.base + off, none⟩ = some u' ∧ G ρ u u' := by
  obtain ⟨_, _, C, h3, h4, h5⟩ := hw.row hb hp
  obtain ⟨u', e1, e2⟩ := h5 _ _ hu
  exact ⟨u', by simp [World.cell?, h3, e1], e2⟩
theorem W.there (hw : W P w0 ρ h w) (hb : hget h b = some (.cells c t v)) (hp : ρ b = some p) (hl : off + n ≤ c.length + p.slack * szOf P t) : w.there p.blk (p.base + off) n := by
  obtain ⟨_, _, C, h3, h4, h5⟩ := hw.row hb hp
  intro j hj
  have : p.base + off + j < C.size := by omega
  refine ⟨?_, by simp [World.frozen?, h3]⟩
  simp [World.cell?, h3, this]
/-- a store -/
theorem W.write (hw : W P w0 ρ h w) (hb : hget h b = some (.cells c t v)) (hp : ρ b = some p) {vs vs' c' : List Value} (hv : GL ρ vs vs') (hc : writeA off vs c = some c') : W P w0 ρ (hset h b (.cells c' t v)) (w.setCells p.blk (p.base + off) vs') := by
  obtain ⟨h1, h2, C, h3, h4, h5⟩ := hw.row hb hp
  obtain ⟨k1, k2, k3⟩ := writeA_spec hc
  obtain ⟨C', e1, e2, e3⟩ := setCells_heap p.blk t (0, 0) vs' (p.base + off) w C h3 (by rw [← hv.1]; omega)
  refine hw.set hb rfl hp (setCells_below h1 _ _ _ _ (Below.refl _ _)) (fun k hk _ => setCells_other _ _ _ _ _ hk) ⟨h1, h2, C', e1, by rw [e2, h4, k2], fun k u hu => ?_⟩
  rw [k3] at hu
  rw [e3]
  split at hu
  · rename_i hk
    rw [if_pos ⟨by omega, by rw [← hv.1]; omega⟩]
    have := hv.get hu
    rwa [show p.base + k - (p.base + off) = k - off by omega]
  · rename_i hk
    rw [if_neg (by rw [← hv.1]; omega)]
    exact h5 k u hu
/-- a new row -/
theorem W.newRow (hw : W P w0 ρ h w) (hn : hget h n = none) {C : Array Value} {vec : Bool} {slack : Nat} (hv : vec = false → slack = 0) (hs : C.size = c.length + slack * szOf P t)
    (hc : ∀ (k : Nat) (u : Value), c[k]? = some u → ∃ u', C[k]? = some u' ∧ G ρ u u') : ρ.le (upP ρ n ⟨w.heap.size, 0, slack⟩) ∧ W P w0 (upP ρ n ⟨w.heap.size, 0, slack⟩) (hset h n (.cells c t vec)) (w.alloc (.cells C t)) := by
  have hle := hw.le_up hn ⟨w.heap.size, 0, slack⟩
  refine ⟨hle, hw.new hn ⟨hw.below.size, fun hh => ⟨hv hh, rfl⟩, C, heap_alloc_new w _, by simpa using hs, fun k u hu => ?_⟩⟩
  obtain ⟨u', e1, e2⟩ := hc k u hu
  exact ⟨u', by simpa using e1, e2.mono hle⟩
/-- a new row of just these cells -/
theorem W.newRow0 (hw : W P w0 ρ h w) (hn : hget h n = none) {C : Array Value} (hc : GL ρ c C.toList) : ρ.le (upP ρ n ⟨w.heap.size, 0, 0⟩) ∧ W P w0 (upP ρ n ⟨w.heap.size, 0, 0⟩) (hset h n (.cells c t false)) (w.alloc (.cells C t)) :=
  hw.newRow hn (fun _ => rfl) (by have := hc.1; simp at this; omega) fun k u hu => by
    obtain ⟨u', e1, e2⟩ := hc.get hu
    exact ⟨u', by simpa using e1, e2⟩
end
end Cl
end Go.Proofs.YtcihbmifogfdpaaGreatDoor

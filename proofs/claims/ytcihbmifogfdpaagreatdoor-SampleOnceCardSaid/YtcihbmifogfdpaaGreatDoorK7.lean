/-
  What the machine does for an operation is what the operation does (slicing, making, literals).
-/
import Derived.Test.YtcihbmifogfdpaaGreatDoorK6
namespace Go.Proofs.YtcihbmifogfdpaaGreatDoor
open Go.RowKit
namespace Cl

section
variable {P : Program} {w0 w w' : World} {ρ : Pm} {nt : Nat} {g : Regs} {a : Act} {h : H} {n : Nat} {o : Oper} {x : Res Value} {v' : Value} {post : Value → World → Prop}

theorem Bd.of (hr : Reg ρ nt g a) {lo : Option Operand} {l : Option Nat} (e : boundA (evA g) lo = some l) : Bd l (lo.map a.eval) := bound_spec hr e

/-- the slice that the model makes -/
def sliceC (size : Nat) (A : Addr) (l hh m : Nat) : Value := .slice (some (if m = l then A else A.add (l * size))) (hh - l) (m - l)
theorem sliceA_ok (hw : W P w0 ρ h w) {size b off len cap cap' : Nat} {sp : Option Nat} {l hh m : Option Nat} {p : Pl} (hp : ρ b = some p) (hc : (sp = none ∧ cap' = cap + p.slack) ∨ (sp = some 0 ∧ cap' = cap)) (e : (sliceA size b off sp len cap l hh m).run n h = some x) :
    l.getD 0 ≤ hh.getD len ∧ hh.getD len ≤ m.getD cap' ∧ m.getD cap' ≤ cap' ∧ Post P w0 ρ x (sliceC size ⟨p.blk, p.base + off, none⟩ (l.getD 0) (hh.getD len) (m.getD cap')) w := by
  unfold sliceA at e
  simp only at e
  split at e
  · rw [HM.fail_iff] at e; cases e
  · rename_i hb
    simp only [Bool.and_eq_true, Nat.ble_eq] at hb
    obtain ⟨⟨h1, h2⟩, h3⟩ := hb
    have h2' : hh.getD len ≤ m.getD cap' := by
      cases m with
      | some m => exact h2
      | none => rcases hc with ⟨_, rfl⟩ | ⟨_, rfl⟩ <;> simp at h2 ⊢ <;> omega
    have h3' : m.getD cap' ≤ cap' := by
      cases m with
      | some m => rcases hc with ⟨_, rfl⟩ | ⟨_, rfl⟩ <;> simp at h3 ⊢ <;> omega
      | none => exact Nat.le_refl _
    refine ⟨h1, h2', h3', ?_⟩
    split at e
    · -- growable still
      rename_i hsp
      obtain rfl : cap' = cap + p.slack := by
        rcases hc with ⟨_, h⟩ | ⟨h, _⟩
        · exact h
        · cases h
      simp only [Option.getD_none] at *
      split at e
      · rename_i hne
        rw [HM.pure_iff] at e
        subst e
        refine post_same hw ?_
        have : sliceC size ⟨p.blk, p.base + off, none⟩ (l.getD 0) (hh.getD len) (cap + p.slack) = .slice (some ⟨p.blk, p.base + (off + l.getD 0 * size), none⟩) (hh.getD len - l.getD 0) (cap - l.getD 0 + p.slack) := by
          unfold sliceC
          rw [Addr.add_mid, show cap + p.slack - l.getD 0 = cap - l.getD 0 + p.slack by omega, Nat.add_assoc]
          split
          · rename_i heq
            have hz : l.getD 0 * size = 0 := by
              rw [Bool.and_eq_false_iff] at hne
              rcases hne with hne | hne
              · exact absurd (show cap = l.getD 0 by omega) (Nat.ne_of_beq_eq_false hne)
              · rcases Nat.eq_zero_or_pos (l.getD 0 * size) with hz | hz
                · exact hz
                · rw [gt_iff_lt, ← Nat.blt_eq, hne] at hz; cases hz
            rw [hz]
            rfl
          · rfl
        rw [this]
        exact .slc hp
      · rename_i heq
        simp only [Bool.and_eq_true] at heq
        have hcl : cap = l.getD 0 := Nat.eq_of_beq_eq_true heq.1
        simp only [HM.bind_iff] at e
        obtain ⟨y, e1, y2, e2, rfl⟩ := e
        obtain ⟨e3, e4⟩ := getC_inv e1
        have hh0 : hh.getD len - l.getD 0 = 0 := by omega
        split at e2
        · rename_i hv
          rw [HM.pure_iff] at e2
          subst e2
          obtain ⟨_, k2, _⟩ := hw.row e4 hp
          have hs := (k2 hv).1
          refine ⟨ρ, Pm.le_refl _, by rw [e3]; exact hw, ?_⟩
          have : sliceC size ⟨p.blk, p.base + off, none⟩ (l.getD 0) (hh.getD len) (cap + p.slack) = .slice (some ⟨p.blk, p.base + off, none⟩) (hh.getD len - l.getD 0) (cap - l.getD 0 + p.slack) := by
            unfold sliceC
            rw [if_pos (by omega), hs]
            rfl
          rw [this]
          exact .slc hp
        · obtain ⟨f2, f3, f4⟩ := fresh_then (f := fun e => .slice (some ⟨e, 0, none⟩) 0 0) e2
          rw [e3] at f2 f4
          let q : Pl := ⟨p.blk, if cap + p.slack = l.getD 0 then p.base + off else p.base + off + l.getD 0 * size, cap + p.slack - l.getD 0⟩
          refine ⟨upP ρ y.n q, hw.le_up f2 q, ?_, ?_⟩
          · simp only
            rw [f4]
            exact hw.name f2 (fun hl => by cases hl) trivial
          · simp only
            rw [f3]
            have : sliceC size ⟨p.blk, p.base + off, none⟩ (l.getD 0) (hh.getD len) (cap + p.slack) = .slice (some ⟨q.blk, q.base + 0, none⟩) 0 (0 + q.slack) := by
              unfold sliceC
              rw [Addr.add_mid, hh0]
              simp only [q, Nat.add_zero, Nat.zero_add]
              split <;> rfl
            rw [this]
            exact .slc (upP_same _ _ _)
    · -- of a known end
      have hm : m.getD cap' = m.getD cap := by
        cases m with
        | some m => rfl
        | none =>
          rcases hc with ⟨hc, _⟩ | ⟨_, rfl⟩
          · subst hc
            rename_i hno
            exact (hno rfl rfl).elim
          · rfl
      rw [hm]
      split at e
      · rename_i heq
        have := Nat.eq_of_beq_eq_true heq
        rw [HM.pure_iff] at e
        subst e
        refine post_same hw ?_
        unfold sliceC
        rw [if_pos this]
        exact .slx hp
      · rename_i heq
        have := Nat.ne_of_beq_eq_false heq
        rw [HM.pure_iff] at e
        subst e
        refine post_same hw ?_
        unfold sliceC
        rw [if_neg this, Addr.add_mid, Nat.add_assoc]
        exact .slx hp
theorem slice_ok (hr : Reg ρ nt g a) (hw : W P w0 ρ h w) {t : TypeId} {y : Operand} {lo hi mx : Option Operand} (ho : o.op = .slice t y lo hi mx) (e : (sliceOp P (evA g) o t y lo hi mx).run n h = some x) : effAt P o a w (Post P w0 ρ x) := by
  unfold sliceOp at e
  split at e
  · rename_i et b off sp len cap l hh m ht hy hl hhi hmx
    split at e
    · rename_i r size hk
      split at e
      · rename_i hs
        obtain ⟨p, c', p1, p2, p3⟩ := (hr.ev hy).slice_inv
        obtain ⟨d, i, t1, t2, t3, t4⟩ := tk_spec hk
        obtain ⟨k1, k2, k3, k4⟩ := sliceA_ok hw p1 p3 e
        have hb := bounds_run (P := P) (w := w) (isSl := true) (Bd.of hr hl) (Bd.of hr hhi) (Bd.of hr hmx) (by simpa using hs) k1 k2 k3
        refine eff_v (v' := _) (w' := w) (s := Instr.sliceAt t (a.eval y) (lo.map a.eval) (hi.map a.eval) (mx.map a.eval)) (by unfold execOp; simp only [ho]) ?_ k4
        simp only [Instr.sliceAt, Instr.slice, p2, Sem.run_bind, run_underlying ht, Result.andThen_ok, hb, sizeOf, typeInfo, run_program, t2, Sem.run_pure, t3, Option.map_some, sliceC]
        congr 2
        split <;> rfl
      · rw [HM.fail_iff] at e; cases e
    · rw [HM.fail_iff] at e; cases e
  · rename_i k et b off l hh m ht hy hl hhi hmx
    split at e
    · rename_i r size hk
      split at e
      · rename_i hs
        obtain ⟨p, p1, p2⟩ := (hr.ev hy).ptr_inv
        obtain ⟨d, i, t1, t2, t3, t4⟩ := tk_spec hk
        obtain ⟨k1, k2, k3, k4⟩ := sliceA_ok hw p1 (.inr ⟨rfl, rfl⟩) e
        have hb := bounds_run (P := P) (w := w) (isSl := false) (Bd.of hr hl) (Bd.of hr hhi) (Bd.of hr hmx) (by simpa using hs) k1 k2 k3
        refine eff_v (v' := _) (w' := w) (s := Instr.sliceAt t (a.eval y) (lo.map a.eval) (hi.map a.eval) (mx.map a.eval)) (by unfold execOp; simp only [ho]) ?_ k4
        simp only [Instr.sliceAt, p2, Sem.run_bind, run_underlying ht, Result.andThen_ok, Instr.sureAddr, hb, sizeOf, typeInfo, run_program, t2, Sem.run_pure, t3, sliceC]
      · rw [HM.fail_iff] at e; cases e
    · rw [HM.fail_iff] at e; cases e
  · exact clo_ok hr hw (fun cs b => by rw [ho]; simp) e

/-! making -/
theorem makeMap_ok (hr : Reg ρ nt g a) (hw : W P w0 ρ h w) {t kt et : TypeId} {r : Option Operand} (ho : o.op = .makeMap t r) (ht : P.underlying t = some (.map kt et)) (hn : ∀ y, r = some y → ∃ k i, evA g y = some (.int k i)) (e : (do let b ← fresh (.map [] 0); pure (.map (some b)) : HM Value).run n h = some x) : effAt P o a w (Post P w0 ρ x) := by
  obtain ⟨h4, h5, h6⟩ := fresh_then e
  have hle := hw.le_up h4 ⟨w.heap.size, 0, 0⟩
  have hw' := hw.new (o := .map [] 0) (ob := .map #[] 0) (slack := 0) h4 ⟨hw.below.size, #[], heap_alloc_new w _, rfl, fun i e e' he => by simp at he⟩
  refine eff_v (v' := .map (some w.heap.size)) (w' := w.alloc (.map #[] 0)) (s := Instr.makeMap t (r.map a.eval)) (by unfold execOp; simp only [ho]) ?_ (.mk h5 h6 hle hw' (.map (upP_same _ _ _)))
  cases r with
  | none => simp [Instr.makeMap]
  | some y =>
    obtain ⟨k, i, hy⟩ := hn y rfl
    simp [Instr.makeMap, (hr.ev hy).int_eq, run_underlying ht, asInt, asIntOf]

theorem rowA_length (z : List Value) : ∀ m, (rowA z m).length = m * z.length
  | 0 => by simp [rowA]
  | m + 1 => by rw [rowA, List.length_append, rowA_length z m, Nat.succ_mul, Nat.add_comm]
theorem rowA_get (z : List Value) : ∀ m k, k < m * z.length → (rowA z m)[k]? = z[k % z.length]?
  | 0, k, hk => by simp at hk
  | m + 1, k, hk => by
    rw [rowA]
    rcases Nat.lt_or_ge k z.length with h1 | h1
    · rw [List.getElem?_append_left h1, Nat.mod_eq_of_lt h1]
    · rw [List.getElem?_append_right h1, rowA_get z m _ (by rw [Nat.succ_mul] at hk; omega), Nat.mod_eq_sub_mod h1]
theorem rowA_closed {z : List Value} (hz : ∀ u ∈ z, closedB CD u = true) : ∀ m, ∀ u ∈ rowA z m, closedB CD u = true
  | 0, u, hu => by simp [rowA] at hu
  | m + 1, u, hu => by
    rw [rowA, List.mem_append] at hu
    exact hu.elim (hz u) (rowA_closed hz m u)
theorem made_row (z : Value) (m size : Nat) (hs : z.cells.size = size) : ((Array.range (m * size)).map (z.cells[· % z.cells.size]!)).toList = rowA z.cells.toList m := by
  apply List.ext_getElem?
  intro k
  rcases Nat.lt_or_ge k (m * size) with hk | hk
  · rw [rowA_get _ _ _ (by simpa [hs] using hk)]
    have hpos : 0 < z.cells.size := by
      rcases Nat.eq_zero_or_pos z.cells.size with h0 | h0
      · rw [← hs, h0] at hk; simp at hk
      · exact h0
    have hlt : k % z.cells.size < z.cells.size := Nat.mod_lt _ hpos
    simp [hk, hlt]
  · rw [List.getElem?_eq_none (by simpa using hk), List.getElem?_eq_none (by rw [rowA_length]; simpa [hs] using hk)]
theorem makeSlice_ok (hr : Reg ρ nt g a) (hw : W P w0 ρ h w) {t et : TypeId} {y z : Operand} (ho : o.op = .makeSlice t y z) {l c : Nat} {zl : List Value} {i : TypeInfo} (ht : P.underlying t = some (.slice et)) (hy : natV (evA g y) = some l) (hz : natV (evA g z) = some c) (hzl : zeroL P et = some zl) (hi : P.info? et = some i)
    (k1 : l ≤ c) (k2 : c * i.bytes ≤ 2 ^ 40) (k3 : c ≤ 2 ^ 24) (k4 : zl.length = i.size) (e : (do let b ← fresh (.cells (rowA zl c) et false); pure (.slice (some ⟨b, 0, none⟩) l c) : HM Value).run n h = some x) : effAt P o a w (Post P w0 ρ x) := by
  obtain ⟨i', z0, h1, h2, rfl, hc⟩ := zeroL_spec hzl
  rw [hi] at h1
  cases h1
  obtain ⟨ky, e1⟩ := ev_nat hr hy
  obtain ⟨kz, e2⟩ := ev_nat hr hz
  obtain ⟨h4, h5, h6⟩ := fresh_then (f := fun b => .slice (some ⟨b, 0, none⟩) l c) e
  have hsz : z0.cells.size = i.size := by simpa using k4
  have hrow := made_row z0 c i.size hsz
  have hrun := run_make (P := P) w t et i z0 ht hi h2 ky kz (l : Int) (c : Int) (by omega) (by omega) (by
    have : ((c * i.bytes : Nat) : Int) ≤ ((2 ^ 40 : Nat) : Int) := by exact_mod_cast k2
    rw [Int.natCast_mul] at this
    rw [Int.mul_comm]
    omega) (by omega)
  simp only [Int.toNat_natCast] at hrun
  obtain ⟨q1, q2⟩ := hw.newRow0 (t := et) (c := rowA z0.cells.toList c) (C := madeCells z0.cells (c * i.size)) h4 (by
    unfold madeCells
    rw [hrow]
    exact GL.same fun u hu => G.of_closed _ _ (rowA_closed hc c u hu))
  refine eff_v (w' := _) (s := Instr.makeSlice t (a.eval y) (a.eval z)) (by unfold execOp; simp only [ho]) (by rw [e1, e2]; exact hrun) (.mk h5 h6 q1 q2 ?_)
  have := G.slc (ρ := upP ρ n ⟨w.heap.size, 0, 0⟩) (b := n) (off := 0) (n := l) (c := c) (upP_same _ _ _)
  simpa using this

/-! literals -/
theorem fill_ok (place : Nat → Option (Nat × Nat)) (hr : Reg ρ nt g a) : ∀ (ps : List (Nat × Operand)) (c c2 : List Value) (C : Array Value), GL ρ c C.toList → fillA place (ps.map fun p => (p.1, evA g p.2)) c = some c2 →
    ∃ C2, Instr.fill place C (ps.map fun p => (p.1, a.eval p.2)) = some C2 ∧ GL ρ c2 C2.toList
  | [], c, c2, C, hg, e => by
    simp only [List.map_nil, fillA] at e
    cases e
    exact ⟨C, rfl, hg⟩
  | (i, y) :: ps, c, c2, C, hg, e => by
    simp only [List.map_cons] at e ⊢
    cases hy : evA g y with
    | none => simp [hy, fillA] at e
    | some v =>
      simp only [hy, fillA] at e
      split at e
      · rename_i off size hpl
        split at e
        · rename_i c3 hlen hwr
          have hv := cells_G (hr.ev hy)
          have hsz := Nat.eq_of_beq_eq_true hlen
          obtain ⟨w1, w2, w3⟩ := writeA_spec hwr
          have hl : (a.eval y).cells.size = size := by have := hv.1; simp at this hsz; omega
          have hC : C.size = c.length := by have := hg.1; simpa using this.symm
          obtain ⟨C3, f1, f2, f3⟩ := fold_set (a.eval y).cells.toList off 0 C
          have hgl : GL ρ c3 C3.toList := by
            refine ⟨by simp [f2, w2, hC], fun k u u' hu hu' => ?_⟩
            rw [w3] at hu
            rw [Array.getElem?_toList, f3] at hu'
            simp only [Nat.add_zero] at hu'
            split at hu
            · rename_i hk
              rw [if_pos ⟨hk.1, by rw [← hv.1]; exact hk.2, by omega⟩] at hu'
              exact hv.2 _ _ _ hu hu'
            · rename_i hk
              rw [if_neg (fun hk2 => hk ⟨hk2.1, by rw [hv.1]; exact hk2.2.1⟩)] at hu'
              exact hg.2 _ _ _ hu (by simpa using hu')
          obtain ⟨C2, e1, e2⟩ := fill_ok place hr ps c3 c2 C3 hgl e
          refine ⟨C2, ?_, e2⟩
          rw [Instr.fill]
          simp only [hpl]
          have hlen' : v.cells.toList.length = (a.eval y).cells.size := by have := hv.1; simpa using this
          have w1' : off + size ≤ C.size := by rw [hC, ← hsz]; exact w1
          rw [if_neg (by rw [hl]; simp; omega)]
          rw [show ((a.eval y).cells.zipIdx.foldl (fun cs (c, j) => cs.setIfInBounds (off + j) c) C) = C3 by rw [← f1, ← Array.foldl_toList]; simp]
          exact e1
        · cases e
      · cases e
where
  fold_set (vs : List Value) (off : Nat) : ∀ (s : Nat) (C : Array Value), ∃ C3, (vs.zipIdx s).foldl (fun cs (p : Value × Nat) => cs.setIfInBounds (off + p.2) p.1) C = C3 ∧ C3.size = C.size ∧ ∀ k, C3[k]? = if off + s ≤ k ∧ k < off + s + vs.length ∧ k < C.size then vs[k - (off + s)]? else C[k]? := by
    induction vs with
    | nil => intro s C; exact ⟨C, rfl, rfl, fun k => by rw [if_neg (by simp; omega)]⟩
    | cons v vs ih =>
      intro s C
      obtain ⟨C3, e1, e2, e3⟩ := ih (s + 1) (C.setIfInBounds (off + s) v)
      refine ⟨C3, by rw [← e1]; rfl, by simpa using e2, fun k => ?_⟩
      rw [e3]
      by_cases hk : k = off + s
      · subst hk
        rw [if_neg (by omega)]
        by_cases hs : off + s < C.size
        · rw [if_pos ⟨Nat.le_refl _, by simp, hs⟩, Array.getElem?_setIfInBounds, if_pos rfl, if_pos hs]
          simp
        · rw [if_neg (fun h => hs h.2.2), Array.getElem?_setIfInBounds, if_pos rfl, if_neg hs, Array.getElem?_eq_none (by omega)]
      · rw [Array.getElem?_setIfInBounds_ne (Ne.symm hk)]
        by_cases h2 : off + (s + 1) ≤ k ∧ k < off + (s + 1) + vs.length ∧ k < (C.setIfInBounds (off + s) v).size
        · rw [if_pos h2, if_pos ⟨by omega, by simp; omega, by simpa using h2.2.2⟩]
          obtain ⟨m, rfl⟩ : ∃ m, k = off + (s + 1) + m := ⟨k - (off + (s + 1)), by omega⟩
          rw [show off + (s + 1) + m - (off + (s + 1)) = m by omega, show off + (s + 1) + m - (off + s) = m + 1 by omega]
          simp
        · rw [if_neg h2, if_neg (fun h3 => h2 ⟨by omega, by have := h3.2.1; simp at this; omega, by simpa using h3.2.2⟩)]
end
end Cl
end Go.Proofs.YtcihbmifogfdpaaGreatDoor

/-
  Several texts in one: K7, K8, K9, K9b, K10, K11, K12.
-/
import Derived.Test.YtcodjodhacjfeaaGreatDoorKA
import Derived.Laws.BytesString
import Derived.Lib.UnsafeStr
import Derived.LoopN
/-! What the machine does for an operation is what the operation does (slicing, making, literals). -/
section
namespace Go.Proofs.YtcodjodhacjfeaaGreatDoor
open Go.RowKit
namespace Cl

section
variable {P : Program} {w0 : Bs} {w w' : World} {ρ : Pm} {nt : Nat} {g : Regs} {a : Act} {h : H} {n : Nat} {o : Oper} {x : Res Value} {v' : Value} {post : Value → World → Prop}

theorem Bd.of (hr : Reg ρ nt g a) {lo : Option Operand} {l : Option Nat} (e : boundA (evA g) lo = some l) : Bd l (lo.map a.eval) := bound_spec hr e

/-- the slice that the model makes -/
def sliceC (size : Nat) (A : Addr) (l hh m : Nat) : Value := .slice (some (if m = l then A else A.add (l * size))) (hh - l) (m - l)
theorem sliceA_ok (hw : W P w0 ρ h w) {size b off len cap cap' : Nat} {sp : Option Nat} {l hh m : Option Nat} {p : Pl} (hp : ρ b = some p) (hc : (sp = none ∧ cap' = cap + p.slack) ∨ (sp = some 0 ∧ cap' = cap)) (e : (sliceA size b off sp len cap l hh m).run n h = some x) :
    l.getD 0 ≤ hh.getD len ∧ hh.getD len ≤ m.getD cap' ∧ m.getD cap' ≤ cap' ∧ Post P w0 ρ x (sliceC size ⟨p.blk, p.base + off, none⟩ (l.getD 0) (hh.getD len) (m.getD cap')) w := by
  unfold sliceA at e
  simp only at e
  split at e
  · rw [HM.fail_iff] at e; cases e
  · rename_i hb
    simp only [Bool.and_eq_true, Nat.ble_eq] at hb
    obtain ⟨⟨h1, h2⟩, h3⟩ := hb
    have h2' : hh.getD len ≤ m.getD cap' := by
      cases m with
      | some m => exact h2
      | none => rcases hc with ⟨_, rfl⟩ | ⟨_, rfl⟩ <;> simp at h2 ⊢ <;> omega
    have h3' : m.getD cap' ≤ cap' := by
      cases m with
      | some m => rcases hc with ⟨_, rfl⟩ | ⟨_, rfl⟩ <;> simp at h3 ⊢ <;> omega
      | none => exact Nat.le_refl _
    refine ⟨h1, h2', h3', ?_⟩
    split at e
    · -- growable still
      rename_i hsp
      obtain rfl : cap' = cap + p.slack := by
        rcases hc with ⟨_, h⟩ | ⟨h, _⟩
        · exact h
        · cases h
      simp only [Option.getD_none] at *
      split at e
      · rename_i hne
        rw [HM.pure_iff] at e
        subst e
        refine post_same hw ?_
        have : sliceC size ⟨p.blk, p.base + off, none⟩ (l.getD 0) (hh.getD len) (cap + p.slack) = .slice (some ⟨p.blk, p.base + (off + l.getD 0 * size), none⟩) (hh.getD len - l.getD 0) (cap - l.getD 0 + p.slack) := by
          unfold sliceC
          rw [Addr.add_mid, show cap + p.slack - l.getD 0 = cap - l.getD 0 + p.slack by omega, Nat.add_assoc]
          split
          · rename_i heq
            have hz : l.getD 0 * size = 0 := by
              rw [Bool.and_eq_false_iff] at hne
              rcases hne with hne | hne
              · exact absurd (show cap = l.getD 0 by omega) (Nat.ne_of_beq_eq_false hne)
              · rcases Nat.eq_zero_or_pos (l.getD 0 * size) with hz | hz
                · exact hz
                · rw [gt_iff_lt, ← Nat.blt_eq, hne] at hz; cases hz
            rw [hz]
            rfl
          · rfl
        rw [this]
        exact .slc hp
      · rename_i heq
        simp only [Bool.and_eq_true] at heq
        have hcl : cap = l.getD 0 := Nat.eq_of_beq_eq_true heq.1
        simp only [HM.bind_iff] at e
        obtain ⟨y, e1, y2, e2, rfl⟩ := e
        obtain ⟨e3, e4⟩ := getC_inv e1
        have hh0 : hh.getD len - l.getD 0 = 0 := by omega
        split at e2
        · rename_i hv
          rw [HM.pure_iff] at e2
          subst e2
          obtain ⟨_, k2, _⟩ := hw.row e4 hp
          have hs := (k2 hv).1
          refine ⟨ρ, Pm.le_refl _, by rw [e3]; exact hw, ?_⟩
          have : sliceC size ⟨p.blk, p.base + off, none⟩ (l.getD 0) (hh.getD len) (cap + p.slack) = .slice (some ⟨p.blk, p.base + off, none⟩) (hh.getD len - l.getD 0) (cap - l.getD 0 + p.slack) := by
            unfold sliceC
            rw [if_pos (by omega), hs]
            rfl
          rw [this]
          exact .slc hp
        · obtain ⟨f2, f3, f4⟩ := fresh_then (f := fun e => .slice (some ⟨e, 0, none⟩) 0 0) e2
          rw [e3] at f2 f4
          let q : Pl := ⟨p.blk, if cap + p.slack = l.getD 0 then p.base + off else p.base + off + l.getD 0 * size, cap + p.slack - l.getD 0⟩
          refine ⟨upP ρ y.n q, hw.le_up f2 q, ?_, ?_⟩
          · simp only
            rw [f4]
            refine hw.name f2 (fun hl => by cases hl) ⟨p, hw.le_up f2 q b p hp, by simp only [q]; omega, ?_⟩
            rcases Nat.eq_zero_or_pos p.slack with hz | hz
            · exact .inl hz
            · refine .inr ⟨rfl, ?_⟩
              simp only [q]
              rw [if_neg (by omega), Nat.add_assoc]
          · simp only
            rw [f3]
            have : sliceC size ⟨p.blk, p.base + off, none⟩ (l.getD 0) (hh.getD len) (cap + p.slack) = .slice (some ⟨q.blk, q.base + 0, none⟩) 0 (0 + q.slack) := by
              unfold sliceC
              rw [Addr.add_mid, hh0]
              simp only [q, Nat.add_zero, Nat.zero_add]
              split <;> rfl
            rw [this]
            exact .slc (upP_same _ _ _)
    · -- of a known end
      have hm : m.getD cap' = m.getD cap := by
        cases m with
        | some m => rfl
        | none =>
          rcases hc with ⟨hc, _⟩ | ⟨_, rfl⟩
          · subst hc
            rename_i hno
            exact (hno rfl rfl).elim
          · rfl
      rw [hm]
      split at e
      · rename_i heq
        have := Nat.eq_of_beq_eq_true heq
        rw [HM.pure_iff] at e
        subst e
        refine post_same hw ?_
        unfold sliceC
        rw [if_pos this]
        exact .slx hp
      · rename_i heq
        have := Nat.ne_of_beq_eq_false heq
        rw [HM.pure_iff] at e
        subst e
        refine post_same hw ?_
        unfold sliceC
        rw [if_neg this, Addr.add_mid, Nat.add_assoc]
        exact .slx hp
theorem slice_ok (hr : Reg ρ nt g a) (hw : W P w0 ρ h w) {t : TypeId} {y : Operand} {lo hi mx : Option Operand} (ho : o.op = .slice t y lo hi mx) (e : (sliceOp P (evA g) o t y lo hi mx).run n h = some x) : effAt P o a w (Post P w0 ρ x) := by
  unfold sliceOp at e
  split at e
  · rename_i et b off sp len cap l hh m ht hy hl hhi hmx
    split at e
    · rename_i r size hk
      split at e
      · rename_i hs
        obtain ⟨p, c', p1, p2, p3⟩ := (hr.ev hy).slice_inv
        obtain ⟨d, i, t1, t2, t3, t4⟩ := tk_spec hk
        obtain ⟨k1, k2, k3, k4⟩ := sliceA_ok hw p1 p3 e
        have hb := bounds_run (P := P) (w := w) (isSl := true) (Bd.of hr hl) (Bd.of hr hhi) (Bd.of hr hmx) (by simpa using hs) k1 k2 k3
        refine eff_v (v' := _) (w' := w) (s := Instr.sliceAt t (a.eval y) (lo.map a.eval) (hi.map a.eval) (mx.map a.eval)) (by unfold execOp; simp only [ho]) ?_ k4
        simp only [Instr.sliceAt, Instr.slice, p2, Sem.run_bind, run_underlying ht, Result.andThen_ok, hb, sizeOf, typeInfo, run_program, t2, Sem.run_pure, t3, Option.map_some, sliceC]
        congr 2
        split <;> rfl
      · rw [HM.fail_iff] at e; cases e
    · rw [HM.fail_iff] at e; cases e
  · rename_i k et b off l hh m ht hy hl hhi hmx
    split at e
    · rename_i r size hk
      split at e
      · rename_i hs
        obtain ⟨p, p1, p2⟩ := (hr.ev hy).ptr_inv
        obtain ⟨d, i, t1, t2, t3, t4⟩ := tk_spec hk
        obtain ⟨k1, k2, k3, k4⟩ := sliceA_ok hw p1 (.inr ⟨rfl, rfl⟩) e
        have hb := bounds_run (P := P) (w := w) (isSl := false) (Bd.of hr hl) (Bd.of hr hhi) (Bd.of hr hmx) (by simpa using hs) k1 k2 k3
        refine eff_v (v' := _) (w' := w) (s := Instr.sliceAt t (a.eval y) (lo.map a.eval) (hi.map a.eval) (mx.map a.eval)) (by unfold execOp; simp only [ho]) ?_ k4
        simp only [Instr.sliceAt, p2, Sem.run_bind, run_underlying ht, Result.andThen_ok, Instr.sureAddr, hb, sizeOf, typeInfo, run_program, t2, Sem.run_pure, t3, sliceC]
      · rw [HM.fail_iff] at e; cases e
    · rw [HM.fail_iff] at e; cases e
  · exact clo_ok hr hw (fun cs b => by rw [ho]; simp) e

/-! making -/
theorem makeMap_ok (hr : Reg ρ nt g a) (hw : W P w0 ρ h w) {t kt et : TypeId} {r : Option Operand} (ho : o.op = .makeMap t r) (ht : P.underlying t = some (.map kt et)) (hn : ∀ y, r = some y → ∃ k i, evA g y = some (.int k i)) (e : (do let b ← fresh (.map [] 0); pure (.map (some b)) : HM Value).run n h = some x) : effAt P o a w (Post P w0 ρ x) := by
  obtain ⟨h4, h5, h6⟩ := fresh_then e
  have hle := hw.le_up h4 ⟨w.heap.size, 0, 0⟩
  have hw' := hw.new (o := .map [] 0) (ob := .map #[] 0) (slack := 0) h4 ⟨hw.fresh, #[], heap_alloc_new w _, rfl, fun i e e' he => by simp at he⟩
  refine eff_v (v' := .map (some w.heap.size)) (w' := w.alloc (.map #[] 0)) (s := Instr.makeMap t (r.map a.eval)) (by unfold execOp; simp only [ho]) ?_ (.mk h5 h6 hle hw' (.map (upP_same _ _ _)))
  cases r with
  | none => simp [Instr.makeMap]
  | some y =>
    obtain ⟨k, i, hy⟩ := hn y rfl
    simp [Instr.makeMap, (hr.ev hy).int_eq, run_underlying ht, asInt, asIntOf]

theorem rowA_length (z : List Value) : ∀ m, (rowA z m).length = m * z.length
  | 0 => by simp [rowA]
  | m + 1 => by rw [rowA, List.length_append, rowA_length z m, Nat.succ_mul, Nat.add_comm]
theorem rowA_get (z : List Value) : ∀ m k, k < m * z.length → (rowA z m)[k]? = z[k % z.length]?
  | 0, k, hk => by simp at hk
  | m + 1, k, hk => by
    rw [rowA]
    rcases Nat.lt_or_ge k z.length with h1 | h1
    · rw [List.getElem?_append_left h1, Nat.mod_eq_of_lt h1]
    · rw [List.getElem?_append_right h1, rowA_get z m _ (by rw [Nat.succ_mul] at hk; omega), Nat.mod_eq_sub_mod h1]
theorem rowA_closed {z : List Value} (hz : ∀ u ∈ z, closedB CD u = true) : ∀ m, ∀ u ∈ rowA z m, closedB CD u = true
  | 0, u, hu => by simp [rowA] at hu
  | m + 1, u, hu => by
    rw [rowA, List.mem_append] at hu
    exact hu.elim (hz u) (rowA_closed hz m u)
theorem made_row (z : Value) (m size : Nat) (hs : z.cells.size = size) : ((Array.range (m * size)).map (z.cells[· % z.cells.size]!)).toList = rowA z.cells.toList m := by
  apply List.ext_getElem?
  intro k
  rcases Nat.lt_or_ge k (m * size) with hk | hk
  · rw [rowA_get _ _ _ (by simpa [hs] using hk)]
    have hpos : 0 < z.cells.size := by
      rcases Nat.eq_zero_or_pos z.cells.size with h0 | h0
      · rw [← hs, h0] at hk; simp at hk
      · exact h0
    have hlt : k % z.cells.size < z.cells.size := Nat.mod_lt _ hpos
    simp [hk, hlt]
  · rw [List.getElem?_eq_none (by simpa using hk), List.getElem?_eq_none (by rw [rowA_length]; simpa [hs] using hk)]
theorem makeSlice_ok (hr : Reg ρ nt g a) (hw : W P w0 ρ h w) {t et : TypeId} {y z : Operand} (ho : o.op = .makeSlice t y z) {l c : Nat} {zl : List Value} {i : TypeInfo} (ht : P.underlying t = some (.slice et)) (hy : natV (evA g y) = some l) (hz : natV (evA g z) = some c) (hzl : zeroL P et = some zl) (hi : P.info? et = some i)
    (k1 : l ≤ c) (k2 : c * i.bytes ≤ 2 ^ 40) (k3 : c ≤ 2 ^ 24) (k4 : zl.length = i.size) (e : (do let b ← fresh (.cells (rowA zl c) et false); pure (.slice (some ⟨b, 0, none⟩) l c) : HM Value).run n h = some x) : effAt P o a w (Post P w0 ρ x) := by
  obtain ⟨i', z0, h1, h2, rfl, hc⟩ := zeroL_spec hzl
  rw [hi] at h1
  cases h1
  obtain ⟨ky, e1⟩ := ev_nat hr hy
  obtain ⟨kz, e2⟩ := ev_nat hr hz
  obtain ⟨h4, h5, h6⟩ := fresh_then (f := fun b => .slice (some ⟨b, 0, none⟩) l c) e
  have hsz : z0.cells.size = i.size := by simpa using k4
  have hrow := made_row z0 c i.size hsz
  have hrun := run_make (P := P) w t et i z0 ht hi h2 ky kz (l : Int) (c : Int) (by omega) (by omega) (by
    have : ((c * i.bytes : Nat) : Int) ≤ ((2 ^ 40 : Nat) : Int) := by exact_mod_cast k2
    rw [Int.natCast_mul] at this
    rw [Int.mul_comm]
    omega) (by omega)
  simp only [Int.toNat_natCast] at hrun
  obtain ⟨q1, q2⟩ := hw.newRow0 (t := et) (c := rowA z0.cells.toList c) (C := madeCells z0.cells (c * i.size)) h4 (by
    unfold madeCells
    rw [hrow]
    exact GL.same fun u hu => G.of_closed _ _ (rowA_closed hc c u hu))
  refine eff_v (w' := _) (s := Instr.makeSlice t (a.eval y) (a.eval z)) (by unfold execOp; simp only [ho]) (by rw [e1, e2]; exact hrun) (.mk h5 h6 q1 q2 ?_)
  have := G.slc (ρ := upP ρ n ⟨w.heap.size, 0, 0⟩) (b := n) (off := 0) (n := l) (c := c) (upP_same _ _ _)
  simpa using this

/-! literals -/
theorem fill_ok (place : Nat → Option (Nat × Nat)) (hr : Reg ρ nt g a) : ∀ (ps : List (Nat × Operand)) (c c2 : List Value) (C : Array Value), GL ρ c C.toList → fillA place (ps.map fun p => (p.1, evA g p.2)) c = some c2 →
    ∃ C2, Instr.fill place C (ps.map fun p => (p.1, a.eval p.2)) = some C2 ∧ GL ρ c2 C2.toList
  | [], c, c2, C, hg, e => by
    simp only [List.map_nil, fillA] at e
    cases e
    exact ⟨C, rfl, hg⟩
  | (i, y) :: ps, c, c2, C, hg, e => by
    simp only [List.map_cons] at e ⊢
    cases hy : evA g y with
    | none => simp [hy, fillA] at e
    | some v =>
      simp only [hy, fillA] at e
      split at e
      · rename_i off size hpl
        split at e
        · rename_i c3 hlen hwr
          have hv := cells_G (hr.ev hy)
          have hsz := Nat.eq_of_beq_eq_true hlen
          obtain ⟨w1, w2, w3⟩ := writeA_spec hwr
          have hl : (a.eval y).cells.size = size := by have := hv.1; simp at this hsz; omega
          have hC : C.size = c.length := by have := hg.1; simpa using this.symm
          obtain ⟨C3, f1, f2, f3⟩ := fold_set (a.eval y).cells.toList off 0 C
          have hgl : GL ρ c3 C3.toList := by
            refine ⟨by simp [f2, w2, hC], fun k u u' hu hu' => ?_⟩
            rw [w3] at hu
            rw [Array.getElem?_toList, f3] at hu'
            simp only [Nat.add_zero] at hu'
            split at hu
            · rename_i hk
              rw [if_pos ⟨hk.1, by rw [← hv.1]; exact hk.2, by omega⟩] at hu'
              exact hv.2 _ _ _ hu hu'
            · rename_i hk
              rw [if_neg (fun hk2 => hk ⟨hk2.1, by rw [hv.1]; exact hk2.2.1⟩)] at hu'
              exact hg.2 _ _ _ hu (by simpa using hu')
          obtain ⟨C2, e1, e2⟩ := fill_ok place hr ps c3 c2 C3 hgl e
          refine ⟨C2, ?_, e2⟩
          rw [Instr.fill]
          simp only [hpl]
          have hlen' : v.cells.toList.length = (a.eval y).cells.size := by have := hv.1; simpa using this
          have w1' : off + size ≤ C.size := by rw [hC, ← hsz]; exact w1
          rw [if_neg (by rw [hl]; simp; omega)]
          rw [show ((a.eval y).cells.zipIdx.foldl (fun cs (c, j) => cs.setIfInBounds (off + j) c) C) = C3 by rw [← f1, ← Array.foldl_toList]; simp]
          exact e1
        · cases e
      · cases e
where
  fold_set (vs : List Value) (off : Nat) : ∀ (s : Nat) (C : Array Value), ∃ C3, (vs.zipIdx s).foldl (fun cs (p : Value × Nat) => cs.setIfInBounds (off + p.2) p.1) C = C3 ∧ C3.size = C.size ∧ ∀ k, C3[k]? = if off + s ≤ k ∧ k < off + s + vs.length ∧ k < C.size then vs[k - (off + s)]? else C[k]? := by
    induction vs with
    | nil => intro s C; exact ⟨C, rfl, rfl, fun k => by rw [if_neg (by simp; omega)]⟩
    | cons v vs ih =>
      intro s C
      obtain ⟨C3, e1, e2, e3⟩ := ih (s + 1) (C.setIfInBounds (off + s) v)
      refine ⟨C3, by rw [← e1]; rfl, by simpa using e2, fun k => ?_⟩
      rw [e3]
      by_cases hk : k = off + s
      · subst hk
        rw [if_neg (by omega)]
        by_cases hs : off + s < C.size
        · rw [if_pos ⟨Nat.le_refl _, by simp, hs⟩, Array.getElem?_setIfInBounds, if_pos rfl, if_pos hs]
          simp
        · rw [if_neg (fun h => hs h.2.2), Array.getElem?_setIfInBounds, if_pos rfl, if_neg hs, Array.getElem?_eq_none (by omega)]
      · rw [Array.getElem?_setIfInBounds_ne (Ne.symm hk)]
        by_cases h2 : off + (s + 1) ≤ k ∧ k < off + (s + 1) + vs.length ∧ k < (C.setIfInBounds (off + s) v).size
        · rw [if_pos h2, if_pos ⟨by omega, by simp; omega, by simpa using h2.2.2⟩]
          obtain ⟨m, rfl⟩ : ∃ m, k = off + (s + 1) + m := ⟨k - (off + (s + 1)), by omega⟩
          rw [show off + (s + 1) + m - (off + (s + 1)) = m by omega, show off + (s + 1) + m - (off + s) = m + 1 by omega]
          simp
        · rw [if_neg h2, if_neg (fun h3 => h2 ⟨by omega, by have := h3.2.1; simp at this; omega, by simpa using h3.2.2⟩)]
end
end Cl
end Go.Proofs.YtcodjodhacjfeaaGreatDoor
end

/-! What the machine does for an operation is what the operation does (append, copy). -/
section
namespace Go.Proofs.YtcodjodhacjfeaaGreatDoor
open Go.RowKit
namespace Cl

section
variable {P : Program} {w0 : Bs} {w w' : World} {ρ : Pm} {nt : Nat} {g : Regs} {a : Act} {h : H} {n : Nat} {o : Oper} {x : Res Value} {v' : Value} {post : Value → World → Prop}

theorem src_ok (hw : W P w0 ρ h w) {t' e' : TypeId} (ht' : P.underlying t' = some (.slice e')) {size : Nat} {v v' : Value} {y : Res (List Value × Nat)} (hv : G ρ v v') (e : (srcA size v).run n h = some y) :
    ∃ news', Src P size t' v' y.a.2 news' w ∧ GL ρ y.a.1 news' ∧ y.h = h ∧ news'.length = y.a.2 * size := by
  unfold srcA at e
  split at e
  · rename_i c
    rw [HM.pure_iff] at e
    subst e
    obtain rfl := G.nil_eq rfl hv
    exact ⟨[], .ofNil w ht' c, .nil, rfl, by simp⟩
  · rename_i b off sp m c
    obtain ⟨p, c', p1, rfl, _⟩ := hv.slice_inv
    split at e
    · rw [HM.pure_iff] at e
      subst e
      exact ⟨[], .ofSlice w ht' _ 0 c' [] (by simp) (fun j u hu => by simp at hu) (fun u hu => by cases hu), .nil, rfl, by simp⟩
    · simp only [HM.bind_iff, HM.opt_iff] at e
      obtain ⟨z, e1, z2, ⟨_, ⟨l, e2, rfl⟩, z3, e3, rfl⟩, rfl⟩ := e
      obtain ⟨e4, e5⟩ := getC_inv e1
      simp only at e3
      split at e3
      · rename_i hone
        rw [HM.pure_iff] at e3
        subst e3
        obtain ⟨l', g1, g2, g3⟩ := hw.range e5 p1 e2
        refine ⟨l', .ofSlice w ht' _ _ c' l' g2 (fun j u hu => by rw [Addr.add_mid]; exact g3 j u hu) (fun u hu => ?_), g1, e4, g2⟩
        obtain ⟨u0, m1, m2⟩ := g1.mem hu
        exact oneB_G m2 (List.all_eq_true.1 hone u0 m1)
      · rw [HM.fail_iff] at e3; cases e3
  · rw [HM.fail_iff] at e; cases e

/-- what may be appended -/
def SrcKind (P : Program) (t' : TypeId) (v : Value) : Prop := (∃ e' a n c, P.underlying t' = some (.slice e') ∧ v = .slice a n c) ∨ (P.underlying t' = some .string ∧ ∃ s, v = .string s)
theorem srcS_ok (hw : W P w0 ρ h w) {t' : TypeId} {size : Nat} {v v' : Value} (hk : SrcKind P t' v) {y : Res (List Value × Nat)} (hv : G ρ v v') (e : (srcS size v).run n h = some y) :
    ∃ news', Src P size t' v' y.a.2 news' w ∧ GL ρ y.a.1 news' ∧ y.h = h ∧ news'.length = y.a.2 * size := by
  rcases hk with ⟨e', ad, m, c, ht', rfl⟩ | ⟨ht', s, rfl⟩
  · exact src_ok hw ht' hv e
  · obtain rfl := G.nil_eq rfl hv
    unfold srcS at e
    simp only at e
    split at e
    · rename_i hs
      obtain rfl := Nat.eq_of_beq_eq_true hs
      have := HM.pure_iff.1 e
      subst this
      refine ⟨byteCells s, .ofString w ht' s, GL.same fun u hu => ?_, rfl, by rw [byteCells_length, Nat.mul_one]⟩
      obtain ⟨b, _, rfl⟩ := List.mem_map.1 hu
      exact .flat rfl
    · rw [HM.fail_iff] at e; cases e
theorem grow_ok (hw : W P w0 ρ h w) {t t' ty e : TypeId} {i : TypeInfo} {size : Nat} (ht : P.underlying t = some (.slice e)) (hi : P.info? e = some i) (hsz : i.size = size) (hk : ∃ r, tk P e = some (r, size)) (hzo : zeroOk P e size = true) {base : Option Addr} {len cap m : Nat} {old old' new new' : List Value} {v' : Value} {x : Res Value}
    (hold : (Builtin.firstCells i.size len (.slice base len cap)).run P w.drew = .ok old'.toArray w.drew) (_hlo : old'.length = len * size) (g1 : GL ρ old old') (hs : Src P size t' v' m new' w) (g2 : GL ρ new new') (_hln : new'.length = m * size)
    (hlt : cap < len + m) (hb : (len + m) * i.bytes ≤ 2 ^ 40) (hb2 : len + m ≤ 2 ^ 40) (ee : (growA e (old ++ new) (len + m)).run n h = some x) :
    ∃ v2 w2, (Builtin.append_ #[t, t'] ty #[.slice base len cap, v']).run P w = .ok v2 w2 ∧ Post P w0 ρ x v2 w2 := by
  unfold zeroOk at hzo
  split at hzo
  · rename_i z hz
    obtain ⟨i', z0, z1, z2, rfl, _⟩ := zeroL_spec hz
    rw [hi] at z1
    cases z1
    have hzs : z0.cells.size = size := by simpa using Nat.eq_of_beq_eq_true hzo
    obtain ⟨f2, f3, f4⟩ := fresh_then (f := fun b => .slice (some ⟨b, 0, none⟩) (len + m) (len + m)) ee
    have hge := grownCap_ge w (len + m) cap e
    obtain ⟨r, hkr⟩ := hk
    have hfit : Builtin.nextslicecap (len + m) cap * i.bytes ≤ 281474976710656 := by
      have h1 := nextslicecap_le hlt
      have h2 : Builtin.nextslicecap (len + m) cap * i.bytes ≤ 2 * (len + m) * i.bytes := Nat.mul_le_mul_right _ h1
      rw [Nat.mul_assoc] at h2
      omega
    refine ⟨_, _, run_append_grow_src (P := P) w t t' ty e i z0 ht hi z2 base len cap old' hold v' m new' (hsz ▸ hs) hlt (by omega) hfit, ?_⟩
    have c1 : ((old' ++ new').toArray ++ Builtin.zeroCells z0.cells (grownCap w (len + m) cap e - (len + m))).size = (old ++ new).length + (grownCap w (len + m) cap e - (len + m)) * szOf P e := by
      have l1 := g1.1
      have l2 := g2.1
      simp [szOf, hkr, size_zeroCells, hzs, l1, l2]
    have c2 : ∀ (k : Nat) (u : Value), (old ++ new)[k]? = some u → ∃ u', ((old' ++ new').toArray ++ Builtin.zeroCells z0.cells (grownCap w (len + m) cap e - (len + m)))[k]? = some u' ∧ G ρ u u' := by
      intro k u hu
      obtain ⟨u', q1, q2⟩ := (g1.append g2).get hu
      refine ⟨u', ?_, q2⟩
      have : k < (old' ++ new').length := (List.getElem?_eq_some_iff.1 q1).1
      rw [Array.getElem?_append_left (by simpa using this)]
      simpa using q1
    obtain ⟨k1, k2⟩ := hw.drew.newRow (n := n) (t := e) (vec := true) f2 (fun h => by cases h) c1 c2
    refine .mk f3 f4 k1 k2 ?_
    have := G.slc (ρ := upP ρ n ⟨w.drew.heap.size, 0, grownCap w (len + m) cap e - (len + m)⟩) (b := n) (off := 0) (n := len + m) (c := len + m) (upP_same _ _ _)
    have hcap : len + m + (grownCap w (len + m) cap e - (len + m)) = grownCap w (len + m) cap e := by omega
    simp only [hcap] at this
    exact this
  · cases hzo

theorem isTail_inv {b n : Nat} {h : H} {x : Res (Option (Nat × Nat))} (e : (isTail b).run n h = some x) : x.h = h ∧ ∀ r k, x.a = some (r, k) → hget h b = some (.tail r k) := by
  unfold isTail at e
  simp only [HM.bind_iff, getO_iff] at e
  obtain ⟨_, ⟨o, h1, rfl⟩, y, e2, rfl⟩ := e
  simp only at e2
  cases o with
  | tail r k =>
    simp only [HM.pure_iff] at e2
    subst e2
    refine ⟨rfl, fun r' k' e => ?_⟩
    cases e
    exact h1
  | _ =>
    simp only [HM.pure_iff] at e2
    subst e2
    exact ⟨rfl, fun r' k' e => by cases e⟩
theorem appendT_run (hw : W P w0 ρ h w) {t t' ty e : TypeId} {r : Bool} {i : TypeInfo} {size b rr k off len cap cap' m : Nat} {sp : Option Nat} {p : Pl} {new new' : List Value} {v' : Value} (ht : P.underlying t = some (.slice e)) (hi : P.info? e = some i) (t3 : i.size = size) (hk : tk P e = some (r, size)) (p1 : ρ b = some p)
    (hc : (sp = none ∧ cap' = cap + p.slack) ∨ (sp = some 0 ∧ cap' = cap)) (hroom : cap < len + m) (hb : hget h b = some (.tail rr k)) (hsrc : Src P size t' v' m new' w) (hgl : GL ρ new new') (hnl : new'.length = m * size)
    (ee : (appendT P e size i rr k off sp len cap new m).run n h = some x) : ∃ v2 w2, (Builtin.append_ #[t, t'] ty #[.slice (some ⟨p.blk, p.base + off, none⟩) len cap', v']).run P w = .ok v2 w2 ∧ Post P w0 ρ x v2 w2 := by
  unfold appendT at ee
  rw [HM.bind_iff] at ee
  obtain ⟨⟨⟨c, et, vec⟩, zn, zh, zr, zw⟩, e3, x3, e4, rfl⟩ := ee
  obtain ⟨e5, e6⟩ := getC_inv e3
  simp only at e5 e6 e4
  subst e5
  split at e4
  case h_2 => rw [HM.fail_iff] at e4; cases e4
  rename_i g1 g2
  simp only [Bool.and_eq_true, beq_dec, decide_eq_true_eq, Nat.ble_eq] at g1 g2
  obtain ⟨⟨⟨hck, rfl⟩, rfl⟩, ⟨rfl, rfl⟩, rfl⟩ := g1
  obtain rfl : cap' = 0 + p.slack := by
    rcases hc with ⟨_, h⟩ | ⟨h, _⟩
    · exact h
    · cases h
  rw [HM.bind_iff] at e4
  obtain ⟨_, e10, x5, e11, rfl⟩ := e4
  obtain ⟨_, rfl⟩ := setO_iff.1 e10
  simp only at e11
  have hsrc' : Src P i.size t' v' m new' w := t3 ▸ hsrc
  obtain ⟨pp, o1, q, o2, o3, o4⟩ := hw.obj b _ hb
  rw [p1] at o1
  cases o1
  have hwg := hw.setGone e6
  have hold : (Builtin.firstCells i.size 0 (.slice (some ⟨p.blk, p.base + 0, none⟩) 0 (0 + p.slack))).run P w.drew = .ok ([] : List Value).toArray w.drew :=
    run_firstCells_some w.drew i.size 0 _ 0 (0 + p.slack) [] (by simp) fun j u hu => by simp at hu
  rcases Nat.lt_or_ge (0 + p.slack) (0 + m) with hlt | hge
  · exact grow_ok (x := x5) (old := []) (old' := []) hwg (ty := ty) ht hi t3 ⟨r, hk⟩ g2.2 hold (by simp) .nil hsrc hgl hnl hlt (by simpa using g2.1.1) (by simpa using g2.1.2) (by simpa using e11)
  · obtain ⟨f2, f3, f4⟩ := fresh_then (f := fun b => .slice (some ⟨b, 0, none⟩) m m) e11
    obtain ⟨q1, q2, C, q3, q4, q5⟩ := hw.row e6 o2
    have hszo : szOf P e = size := by simp [szOf, hk]
    rw [hszo] at q4
    obtain ⟨s1, s2⟩ := o4.resolve_left (by omega)
    have hle : m * size ≤ p.slack * size := Nat.mul_le_mul_right _ (by omega)
    rw [← o3] at q4
    have hth : w.there p.blk (p.base + 0 + 0 * i.size) new'.length := by
      intro j hj
      have : p.base + j < C.size := by rw [q4, s2]; omega
      rw [s1]
      exact ⟨by simp [World.cell?, q3, this], by simp [World.frozen?, q3]⟩
    have hrun := run_append_room_src (P := P) w t t' ty e i ht hi p.blk (p.base + 0) 0 (0 + p.slack) v' m new' hsrc' hge (fun j hj => (hth j hj).1) (fun j hj => (hth j hj).2)
    obtain ⟨C', c1, c2, c3⟩ := setCells_heap p.blk e (0, 0) new' (p.base + 0 + 0 * i.size) w C (by rw [s1]; exact q3) (by rw [q4, s2]; omega)
    refine ⟨_, _, hrun, ?_⟩
    let z : Pl := ⟨p.blk, p.base + 0, 0 + p.slack - (0 + m)⟩
    have hapart : ∀ j oj q', hget (hset zh rr .gone) j = some oj → oj.live = true → ρ j = some q' → q'.blk ≠ p.blk := fun j oj q' hj hl hq' => by
      rw [hget_set] at hj
      split at hj
      · cases hj; cases hl
      · rename_i hne
        rw [s1]
        exact hw.inj j rr oj _ q' q hne hj e6 hq' o2 hl rfl
    have hmine : w0.mine p.blk := by rw [s1]; exact q1
    have hww := hwg.world (w' := w.setCells p.blk (p.base + 0 + 0 * i.size) new') (step_setCells hmine _ _ _) fun j oj q' hj hl hq' => setCells_other _ _ _ _ _ (hapart j oj q' hj hl hq')
    have hle' := hww.le_up f2 z
    refine ⟨upP ρ zn z, hle', ?_, ?_⟩
    · simp only
      rw [f4]
      refine hww.name f2 (fun _ => hapart) ⟨hmine, fun h => by (cases h), C', c1, ?_, fun k u hu => ?_⟩
      · rw [c2, q4, hszo]
        have l2 := hgl.1
        have l3 : (0 + p.slack - (0 + m)) * size = p.slack * size - m * size := by rw [Nat.zero_add, Nat.zero_add, Nat.sub_mul]
        show q.base + c.length + p.slack * size = p.base + 0 + new.length + (0 + p.slack - (0 + m)) * size
        rw [l3, l2, hnl, s2]
        omega
      · obtain ⟨u', z1, z2⟩ := hgl.get hu
        refine ⟨u', ?_, z2.mono hle'⟩
        simp only [z]
        rw [c3]
        have hk2 : k < new'.length := (List.getElem?_eq_some_iff.1 z1).1
        rw [if_pos (by omega), show p.base + 0 + k - (p.base + 0 + 0 * i.size) = k by omega]
        exact z1
    · simp only
      rw [f3]
      have := G.slc (ρ := upP ρ zn z) (b := zn) (off := 0) (n := m) (c := m) (upP_same _ _ _)
      simp only [z, Nat.add_zero, Nat.zero_add, show m + (p.slack - m) = p.slack by omega] at this ⊢
      exact this
theorem append_run (hw : W P w0 ρ h w) {t t' ty : TypeId} {s v s' v' : Value} (hsk : SrcKind P t' v) (hs : G ρ s s') (hv : G ρ v v') (ee : (appendA P t s v).run n h = some x) : ∃ v2 w2, (Builtin.append_ #[t, t'] ty #[s', v']).run P w = .ok v2 w2 ∧ Post P w0 ρ x v2 w2 := by
  unfold appendA at ee
  split at ee
  case h_2 => rw [HM.fail_iff] at ee; cases ee
  rename_i e ht
  split at ee
  case h_2 => rw [HM.fail_iff] at ee; cases ee
  rename_i r size i hk hi
  obtain ⟨d, i', t1, t2, t3, t4⟩ := tk_spec hk
  rw [hi] at t2
  cases t2
  rw [HM.bind_iff] at ee
  obtain ⟨y, e1, x2, e2, rfl⟩ := ee
  obtain ⟨new', hsrc, hgl, hyh, hnl⟩ := srcS_ok hw hsk hv e1
  obtain ⟨⟨new, m⟩, yn, yh, yr, yw⟩ := y
  simp only at hsrc hgl hyh hnl e2
  subst hyh
  -- what is given back lies behind the frame of the whole
  have lift : ∀ {v2 w2}, Post P w0 ρ x2 v2 w2 → Post P w0 ρ ⟨x2.a, x2.n, x2.h, yr ||| x2.r, yw ||| x2.w⟩ v2 w2 := fun h => h
  have hsrc' : Src P i.size t' v' m new' w := t3 ▸ hsrc
  split at e2
  · -- nil
    obtain rfl := G.nil_eq rfl hs
    split at e2
    · rw [HM.pure_iff] at e2
      subst e2
      have h0 : new' = [] := List.length_eq_zero_iff.1 (by rw [hnl]; simp)
      subst h0
      refine ⟨.slice none 0 0, w, ?_, lift (post_same hw (.flat rfl))⟩
      rcases hsrc'.kind with ⟨e', ht'⟩ | ht' <;> simp [Builtin.append_, run_underlying ht, run_underlying ht', sizeOf, typeInfo, hi, hsrc'.len, hsrc'.cells]
    · rename_i m
      split at e2
      · rename_i hb
        simp only [Bool.and_eq_true, Nat.ble_eq] at hb
        have := grow_ok hw (ty := ty) ht hi t3 ⟨r, hk⟩ hb.2 (base := none) (len := 0) (cap := 0) (m := m + 1) (old := []) (old' := []) (run_firstCells_none w.drew i.size 0 0 0) (by simp) .nil hsrc hgl hnl (by omega) (by simpa using hb.1.1) (by simpa using hb.1.2) (by simpa using e2)
        exact this
      · rw [HM.fail_iff] at e2; cases e2
  · rename_i b off sp len cap
    obtain ⟨p, cap', p1, rfl, hc⟩ := hs.slice_inv
    have hcc : cap ≤ cap' := by rcases hc with ⟨_, rfl⟩ | ⟨_, rfl⟩ <;> omega
    split at e2
    · -- there is room
      rename_i hroom
      rw [Nat.ble_eq] at hroom
      split at e2
      · rw [HM.pure_iff] at e2
        subst e2
        have h0 : new' = [] := List.length_eq_zero_iff.1 (by rw [hnl]; simp)
        subst h0
        have := run_append_room_src (P := P) w t t' ty e i ht hi p.blk (p.base + off) len cap' v' 0 [] hsrc' (by omega) (fun j hj => by simp at hj) (fun j hj => by simp at hj)
        exact ⟨_, _, this, lift (post_same hw hs)⟩
      · rename_i m
        simp only [HM.bind_iff, HM.pure_iff] at e2
        obtain ⟨y2, e3, _, rfl, rfl⟩ := e2
        obtain ⟨k1, k2, k3, k4⟩ := hw.put p1 hgl e3
        have hadd : p.base + (off + len * size) = p.base + off + len * i.size := by rw [t3, Nat.add_assoc]
        rw [hadd] at k2 k4
        have := run_append_room_src (P := P) w t t' ty e i ht hi p.blk (p.base + off) len cap' v' (m + 1) new' hsrc' (by omega) (fun j hj => (k4 j hj).1) (fun j hj => (k4 j hj).2)
        refine ⟨_, _, this, ρ, Pm.le_refl _, k2, ?_⟩
        rcases hc with ⟨rfl, rfl⟩ | ⟨rfl, rfl⟩
        · exact .slc p1
        · exact .slx p1
    · -- there is none, as far as the machine knows
      rename_i hroom
      have hroom' : cap < len + m := by
        rcases Nat.lt_or_ge cap (len + m) with h1 | h1
        · exact h1
        · have h2 : (len + m).ble cap = true := Nat.ble_eq.mpr h1
          rw [hroom] at h2; cases h2
      rw [HM.bind_iff] at e2
      obtain ⟨⟨tl, tn, th, tr, tw⟩, e0, x0, e2, rfl⟩ := e2
      obtain ⟨e00, e01⟩ := isTail_inv e0
      simp only at e00 e01 e2
      subst e00
      split at e2
      · rename_i rr kk
        obtain ⟨v2, w2, y1, y2⟩ := appendT_run (ty := ty) hw ht hi t3 hk p1 hc hroom' (e01 _ _ rfl) hsrc hgl hnl e2
        exact ⟨v2, w2, y1, y2⟩
      rw [HM.bind_iff] at e2
      obtain ⟨⟨⟨c, et, vec⟩, zn, zh, zr, zw⟩, e3, x3, e4, rfl⟩ := e2
      obtain ⟨e5, e6⟩ := getC_inv e3
      simp only at e5 e6 e4
      subst e5
      rw [HM.bind_iff] at e4
      obtain ⟨_, e7, x4, e8, rfl⟩ := e4
      obtain ⟨old, e9, rfl⟩ := HM.opt_iff.1 e7
      simp only at e8
      obtain ⟨old', g1, g2, g3⟩ := hw.range e6 p1 e9
      have hold : (Builtin.firstCells i.size len (.slice (some ⟨p.blk, p.base + off, none⟩) len cap')).run P w.drew = .ok old'.toArray w.drew :=
        run_firstCells_some w.drew i.size len _ len cap' old' (by rw [g2, t3]) fun j u hu => by rw [Addr.add_mid]; simpa using g3 j u hu
      split at e8
      case h_2 => rw [HM.fail_iff] at e8; cases e8
      rename_i hb
      simp only [Bool.and_eq_true, Nat.ble_eq] at hb
      have grow : cap' < len + m → (growA e (old ++ new) (len + m)).run zn zh = some x4 → _ := fun hlt hg =>
        grow_ok (x := x4) hw (ty := ty) ht hi t3 ⟨r, hk⟩ hb.2 hold g2 g1 hsrc hgl hnl hlt hb.1.1 hb.1.2 hg
      split at e8
      · -- growable
        split at e8
        case h_2 => rw [HM.fail_iff] at e8; cases e8
        rename_i hb2
        simp only [Bool.and_eq_true, beq_dec, decide_eq_true_eq] at hb2
        obtain ⟨hcl, rfl⟩ := hb2
        obtain rfl : cap' = cap + p.slack := by
          rcases hc with ⟨_, h⟩ | ⟨h, _⟩
          · exact h
          · cases h
        rw [HM.bind_iff] at e8
        obtain ⟨_, e10, x5, e11, rfl⟩ := e8
        obtain ⟨_, rfl⟩ := setO_iff.1 e10
        simp only at e11
        have hwg := hw.setGone e6
        rcases Nat.lt_or_ge (cap + p.slack) (len + m) with hlt | hge
        · exact grow_ok (x := x5) hwg (ty := ty) ht hi t3 ⟨r, hk⟩ hb.2 hold g2 g1 hsrc hgl hnl hlt hb.1.1 hb.1.2 e11
        · -- the room was there
          obtain ⟨f2, f3, f4⟩ := fresh_then (f := fun b => .slice (some ⟨b, 0, none⟩) (len + m) (len + m)) e11
          obtain ⟨q1, q2, C, q3, q4, q5⟩ := hw.row e6 p1
          have hszo : szOf P e = size := by simp [szOf, hk]
          rw [hszo] at q4
          have hno : len * size + new'.length = (len + m) * size := by rw [hnl, Nat.add_mul]
          have hle : (len + m) * size ≤ (cap + p.slack) * size := Nat.mul_le_mul_right _ hge
          have hcs : (cap + p.slack) * size = cap * size + p.slack * size := Nat.add_mul _ _ _
          have hth : w.there p.blk (p.base + off + len * i.size) new'.length := by
            intro j hj
            have : p.base + off + len * i.size + j < C.size := by rw [q4, hcl, t3]; omega
            exact ⟨by simp [World.cell?, q3, this], by simp [World.frozen?, q3]⟩
          have hrun := run_append_room_src (P := P) w t t' ty e i ht hi p.blk (p.base + off) len (cap + p.slack) v' m new' hsrc' hge (fun j hj => (hth j hj).1) (fun j hj => (hth j hj).2)
          obtain ⟨C', c1, c2, c3⟩ := setCells_heap p.blk e (0, 0) new' (p.base + off + len * i.size) w C q3 (by rw [q4, hcl, t3]; omega)
          refine ⟨_, _, hrun, ?_⟩
          let q : Pl := ⟨p.blk, p.base + off, cap + p.slack - (len + m)⟩
          have hapart : ∀ j oj q', hget (hset zh b .gone) j = some oj → oj.live = true → ρ j = some q' → q'.blk ≠ p.blk := fun j oj q' hj hl hq' => by
            rw [hget_set] at hj
            split at hj
            · cases hj; cases hl
            · rename_i hne
              exact hw.inj j b oj _ q' p hne hj e6 hq' p1 hl rfl
          have hww := hwg.world (w' := w.setCells p.blk (p.base + off + len * i.size) new') (step_setCells q1 _ _ _) fun j oj q' hj hl hq' => setCells_other _ _ _ _ _ (hapart j oj q' hj hl hq')
          have hle' := hww.le_up f2 q
          refine ⟨upP ρ zn q, hle', ?_, ?_⟩
          · simp only
            rw [f4]
            refine hww.name f2 (fun _ => hapart) ⟨q1, fun h => by (cases h), C', c1, ?_, fun k u hu => ?_⟩
            · rw [c2, q4, hcl, hszo]
              have l1 := g1.1
              have l2 := hgl.1
              have : (cap + p.slack - (len + m)) * size = (cap + p.slack) * size - (len + m) * size := Nat.sub_mul _ _ _
              simp only [q, List.length_append, l1, l2, g2]
              omega
            · obtain ⟨u', z1, z2⟩ := (g1.append hgl).get hu
              refine ⟨u', ?_, z2.mono hle'⟩
              simp only [q]
              rw [c3]
              rcases Nat.lt_or_ge k old'.length with hko | hko
              · rw [List.getElem?_append_left hko] at z1
                rw [if_neg (by rw [t3]; omega)]
                have := g3 k u' z1
                simp only [World.cell?, q3] at this
                simpa using this
              · rw [List.getElem?_append_right hko] at z1
                have hk2 : k - old'.length < new'.length := (List.getElem?_eq_some_iff.1 z1).1
                rw [if_pos (by rw [t3]; omega), show p.base + off + k - (p.base + off + len * i.size) = k - old'.length by rw [t3]; omega]
                exact z1
          · simp only
            rw [f3]
            have := G.slc (ρ := upP ρ zn q) (b := zn) (off := 0) (n := len + m) (c := len + m) (upP_same _ _ _)
            simp only [q, Nat.add_zero, show len + m + (cap + p.slack - (len + m)) = cap + p.slack by omega] at this
            exact this
      · -- of a known end
        rename_i hno
        have hcap : cap' = cap := by
          rcases hc with ⟨rfl, rfl⟩ | ⟨_, rfl⟩
          · obtain ⟨_, q2, _⟩ := hw.row e6 p1
            cases vec with
            | true => exact (hno rfl rfl).elim
            | false => rw [(q2 rfl).1]; rfl
          · rfl
        exact grow (by omega) e8
  · rw [HM.fail_iff] at e2; cases e2
end
end Cl
end Go.Proofs.YtcodjodhacjfeaaGreatDoor
end

/-! What the machine does for an operation is what the operation does (maps, len, cap, copy, clear, delete). -/
section
namespace Go.Proofs.YtcodjodhacjfeaaGreatDoor
open Go.RowKit
namespace Cl

section
variable {P : Program} {w0 : Bs} {w w' : World} {ρ : Pm} {nt : Nat} {g : Tr Value} {a : Act} {h : H} {n : Nat} {o : Oper} {x : Res Value} {v' : Value} {post : Value → World → Prop}

theorem keyB_spec {k : TypeId} {d : TypeDesc} (e : keyB P k = some d) : P.underlying k = some d ∧ ((∃ i, d = .int i) ∨ d = .string ∨ d = .bool) := by
  unfold keyB at e
  split at e <;> first | (cases e; done) | (rename_i hh; cases e; exact ⟨hh, by simp⟩)
theorem checkKey_run {k : TypeId} {d : TypeDesc} (e : keyB P k = some d) (b : Bool) (v : Value) : (Instr.checkKey b 10000 k v).run P w = .ok () w := by
  obtain ⟨h1, h2⟩ := keyB_spec e
  have : ∀ m, (Instr.checkKey b (m + 1) k v).run P w = .ok () w := fun m => by
    rw [Instr.checkKey, Sem.run_bind, run_underlying h1]
    rcases h2 with ⟨i, rfl⟩ | rfl | rfl <;> rfl
  exact this 9999
theorem bytes_beq' (a b : ByteArray) : (a == b) = true ↔ a = b := by
  obtain ⟨x⟩ := a
  obtain ⟨y⟩ := b
  constructor
  · intro h
    have e : x = y := by simpa using (show (x == y) = true from h)
    rw [e]
  · intro h
    cases h
    show (x == x) = true
    simp
theorem sameNow_eq {d : TypeDesc} {u v : Value} (e : Instr.sameNow d u v = some true) : v = u := by
  unfold Instr.sameNow at e
  split at e
  · split at e
    · rename_i hk; subst hk; simp at e; rw [e]
    · cases e
  · simp only [Option.some.injEq] at e; rw [(bytes_beq' _ _).1 e]
  · simp at e; rw [e]
  · cases e
theorem sameBits_self {d : TypeDesc} {u : Value} (e : Instr.sameNow d u u = some true) : Instr.sameBits 10000 u u = true := by
  unfold Instr.sameNow at e
  split at e <;> first | (simp [Instr.sameBits]; done) | (simp only [Option.some.injEq] at e; simpa [Instr.sameBits] using e) | (simp at e; done)
theorem GE.uncons {e : MapEntry} {es es' : List MapEntry} (h : GE ρ (e :: es) es') : ∃ e' r', es' = e' :: r' ∧ e'.key = e.key ∧ closedB CD e.key = true ∧ e'.born = e.born ∧ G ρ e.val e'.val ∧ GE ρ es r' := by
  cases es' with
  | nil => have := h.1; simp at this
  | cons e' r' =>
    obtain ⟨h1, h2, h3, h4⟩ := h.2 0 e e' rfl rfl
    exact ⟨e', r', rfl, h1, h2, h3, h4, by simpa using h.1, fun i a b ha hb => h.2 (i + 1) a b (by simpa using ha) (by simpa using hb)⟩
theorem GE.cons {e e' : MapEntry} {es es' : List MapEntry} (h1 : e'.key = e.key) (h2 : closedB CD e.key = true) (h3 : e'.born = e.born) (h4 : G ρ e.val e'.val) (h : GE ρ es es') : GE ρ (e :: es) (e' :: es') := by
  refine ⟨by simp [h.1], fun i a b ha hb => ?_⟩
  cases i with
  | zero => simp at ha hb; subst ha hb; exact ⟨h1, h2, h3, h4⟩
  | succ i => simp at ha hb; exact h.2 i a b ha hb
theorem findNow_G {d : TypeDesc} {k : Value} : ∀ {es es' : List MapEntry} {j : Nat} {r : Option (Nat × Value)}, GE ρ es es' → Instr.findNow d k es j = some r →
    (r = none ∧ Instr.findNow d k es' j = some none) ∨ ∃ i v v' e e', r = some (i, v) ∧ Instr.findNow d k es' j = some (some (i, v')) ∧ G ρ v v' ∧ j ≤ i ∧ es[i - j]? = some e ∧ es'[i - j]? = some e' ∧ e'.key = k ∧ e.key = k ∧ e.val = v ∧ Instr.sameBits 10000 k k = true
  | [], es', j, r, hg, hf => by
    have : es' = [] := List.length_eq_zero_iff.1 hg.1.symm
    subst this
    simp [Instr.findNow] at hf
    exact .inl ⟨hf.symm, rfl⟩
  | e :: es, es', j, r, hg, hf => by
    obtain ⟨e', r', rfl, h1, h2, h3, h4, h5⟩ := hg.uncons
    unfold Instr.findNow at hf ⊢
    rw [h1]
    split at hf
    · rename_i hs
      cases hf
      have hk := sameNow_eq hs
      rw [hk] at hs
      exact .inr ⟨j, e.val, e'.val, e, e', rfl, rfl, h4, Nat.le_refl _, by simp, by simp, h1.trans hk, hk, rfl, sameBits_self hs⟩
    · rcases findNow_G h5 hf with ⟨q1, q2⟩ | ⟨i, v, v', f, f', q1, q2, q3, q4, q5, q6, q7⟩
      · exact .inl ⟨q1, q2⟩
      · refine .inr ⟨i, v, v', f, f', q1, q2, q3, by omega, ?_, ?_, q7⟩
        · rw [show i - j = (i - (j + 1)) + 1 by omega]; simpa using q5
        · rw [show i - j = (i - (j + 1)) + 1 by omega]; simpa using q6
    · cases hf
theorem findKey_run {k : TypeId} {d : TypeDesc} (e : keyB P k = some d) {u : Value} {es : List MapEntry} {r : Option (Nat × Value)} (hf : Instr.findNow d u es 0 = some r) : (Instr.findKey k u es).run P w = .ok r w := by
  simp only [Instr.findKey, Sem.run_bind, run_underlying (keyB_spec e).1, Result.andThen_ok, hf, Sem.run_pure]

theorem W.mapHeap {b : Nat} {es : List MapEntry} {k : Nat} {p : Pl} (hw : W P w0 ρ h w) (hb : hget h b = some (.map es k)) (hp : ρ b = some p) {es2 : List MapEntry} {es2' : Array MapEntry} {k2 : Nat} (hg : GE ρ es2 es2'.toList) :
    W P w0 ρ (hset h b (.map es2 k2)) { w with heap := w.heap.setIfInBounds p.blk (.map es2' k2) } := by
  obtain ⟨h1, es', h2, h3⟩ := hw.mapRow hb hp
  have hlt : p.blk < w.heap.size := (Array.getElem?_eq_some_iff.1 h2).1
  refine hw.set hb rfl hp ⟨rfl, rfl, rfl, by simp, fun j hj => ?_⟩ (fun j hj _ => ?_) ⟨h1, es2', ?_, hg⟩
  · have h1' := h1.1
    simp only
    rw [Array.getElem?_setIfInBounds_ne (by omega)]
  · simp only
    rw [Array.getElem?_setIfInBounds_ne (Ne.symm hj)]
  · simp [hlt]
theorem run_getMap {w : World} {b : Nat} {es : Array MapEntry} {k : Nat} (h : w.heap[b]? = some (.map es k)) : (getObj b).run P w = .ok (.map es k) w := by simp [getObj, Sem.run, h]
theorem run_setMap {w : World} {b : Nat} {es : Array MapEntry} {k : Nat} {ob : Obj} (h : w.heap[b]? = some (.map es k)) : (setObj b ob).run P w = .ok () { w with heap := w.heap.setIfInBounds b ob } := by simp [setObj, Sem.run, h]

theorem lookup_run (hw : W P w0 ρ h w) {t : TypeId} {m k m' k' : Value} {ok : Bool} (hm : G ρ m m') (hk : G ρ k k') (e : (lookupA P t m k ok).run n h = some x) : ∃ v', (Instr.lookup t m' k' ok).run P w = .ok v' w ∧ Post P w0 ρ x v' w := by
  unfold lookupA at e
  split at e
  case h_2 => rw [HM.fail_iff] at e; cases e
  rename_i kt et ht hck
  obtain rfl := G.closed_eq _ _ _ hck hk
  split at e
  case h_2 => rw [HM.fail_iff] at e; cases e
  rename_i kd zl i hkb hzl hi
  split at e
  case h_2 => rw [HM.fail_iff] at e; cases e
  rename_i z hz
  rw [HM.bind_iff] at e
  obtain ⟨⟨es, yn, yh, yr, yw⟩, e1, x2, e2, rfl⟩ := e
  simp only at e2
  -- what the map holds
  have hes : yh = h ∧ ∃ es' : Array MapEntry, GE ρ es es'.toList ∧ ((m' = .map none ∧ es' = #[]) ∨ ∃ b k2, m' = .map (some b) ∧ w.heap[b]? = some (.map es' k2)) := by
    split at e1
    · have := HM.pure_iff.1 e1
      cases this
      obtain rfl := G.nil_eq rfl hm
      exact ⟨rfl, #[], ⟨rfl, fun i a b ha => by simp at ha⟩, .inl ⟨rfl, rfl⟩⟩
    · rename_i b
      obtain ⟨p, p1, rfl⟩ := hm.map_inv
      rw [HM.bind_iff] at e1
      obtain ⟨⟨⟨es2, k2⟩, zn, zh, zr, zw⟩, e3, y2, e4, e5⟩ := e1
      have e4' := HM.pure_iff.1 e4
      subst e4'
      cases e5
      obtain ⟨e6, e7⟩ := getM_inv e3
      obtain ⟨_, es', h2, h3⟩ := hw.mapRow e7 p1
      exact ⟨e6, es', h3, .inr ⟨_, _, rfl, h2⟩⟩
    · rw [HM.fail_iff] at e1; cases e1
  obtain ⟨rfl, es', hge, hm'⟩ := hes
  have hrun : ∀ {r : Option (Nat × Value)} (u : Value) (b : Bool), Instr.findNow kd k' es'.toList 0 = some r → ((r = none ∧ u = z ∧ b = false) ∨ ∃ j, r = some (j, u) ∧ b = true) → (Instr.lookup t m' k' ok).run P w = .ok (if ok then .tuple #[u, .bool b] else u) w := fun {r} u b hf hr => by
    have hfk := findKey_run (w := w) hkb hf
    have hc := checkKey_run (w := w) hkb es'.isEmpty k'
    have hzv : (zeroValue et).run P w = .ok z w := by simp [zeroValue, typeInfo, hi, hz]
    rcases hm' with ⟨rfl, rfl⟩ | ⟨b, k2, rfl, hb⟩
    · rcases hr with ⟨rfl, rfl, rfl⟩ | ⟨j, rfl, rfl⟩ <;> simp only [Instr.lookup, Sem.run_bind, run_underlying ht, Result.andThen_ok, Sem.run_pure, hc, hfk, hzv] <;> cases ok <;> rfl
    · rcases hr with ⟨rfl, rfl, rfl⟩ | ⟨j, rfl, rfl⟩ <;> simp only [Instr.lookup, Sem.run_bind, run_underlying ht, Result.andThen_ok, run_getMap hb, Sem.run_pure, hc, hfk, hzv] <;> cases ok <;> rfl
  have hpost : ∀ {u u' : Value} {b : Bool} {r : Nat} {q : Nat}, G ρ u u' → Post P w0 ρ ⟨if ok then .tuple #[u, .bool b] else u, yn, yh, r, q⟩ (if ok then .tuple #[u', .bool b] else u') w := fun {u u' b r q} hu => by
    refine post_same hw ?_
    cases ok
    · exact hu
    · exact (GL.cons hu (GL.cons (.flat rfl) .nil)).tuple
  split at e2
  · rename_i j v hf
    rw [HM.pure_iff] at e2
    subst e2
    rcases findNow_G hge hf with ⟨q1, _⟩ | ⟨i2, u, u', f, f', q1, q2, q3, _⟩
    · cases q1
    · cases q1
      exact ⟨_, hrun u' true q2 (.inr ⟨_, rfl, rfl⟩), hpost q3⟩
  · rename_i hf hcz
    rw [HM.pure_iff] at e2
    subst e2
    rcases findNow_G hge hf with ⟨_, q2⟩ | ⟨i2, u, u', f, f', q1, _⟩
    · exact ⟨_, hrun z false q2 (.inl ⟨rfl, rfl, rfl⟩), hpost (G.of_closed _ _ hcz)⟩
    · cases q1
  · rw [HM.fail_iff] at e2; cases e2

theorem update_run (hw : W P w0 ρ h w) {t : TypeId} {m k v m' k' v' : Value} (hm : G ρ m m') (hk : G ρ k k') (hv : G ρ v v') (e : (updateA P t m k v).run n h = some x) : ∃ w2, (Instr.mapUpdate t m' k' v').run P w = .ok () w2 ∧ Post P w0 ρ x undef w2 := by
  unfold updateA at e
  split at e
  case h_2 => rw [HM.fail_iff] at e; cases e
  rename_i kt et b ht hck
  obtain rfl := G.closed_eq _ _ _ hck hk
  obtain ⟨p, p1, rfl⟩ := hm.map_inv
  split at e
  case h_2 => rw [HM.fail_iff] at e; cases e
  rename_i kd hkb
  rw [HM.bind_iff] at e
  obtain ⟨⟨⟨es, clock⟩, yn, yh, yr, yw⟩, e1, x2, e2, rfl⟩ := e
  obtain ⟨e3, e4⟩ := getM_inv e1
  simp only at e2 e3 e4
  subst e3
  obtain ⟨_, es', h2, h3⟩ := hw.mapRow e4 p1
  have hc := checkKey_run (w := w) hkb false k'
  split at e2
  · rename_i j v0 hf
    split at e2
    · rename_i en hen
      simp only [HM.bind_iff, HM.pure_iff, setO_iff] at e2
      obtain ⟨_, ⟨_, rfl⟩, _, rfl, rfl⟩ := e2
      rcases findNow_G h3 hf with ⟨q1, _⟩ | ⟨i2, u, u', f, f', q1, q2, q3, _, q5, q6, q7, q8, q9, q10⟩
      · cases q1
      · cases q1
        simp only [Nat.sub_zero] at q5 q6
        rw [hen] at q5
        cases q5
        have hge : GE ρ (es.set j { key := k', val := v, born := en.born }) (es'.modify j fun e => { e with key := k', val := v' }).toList := by
          refine ⟨by simp [h3.1], fun i a b ha hb => ?_⟩
          rw [List.getElem?_set] at ha
          rw [Array.getElem?_toList, Array.getElem?_modify] at hb
          split at ha
          · rename_i hij
            subst hij
            split at ha
            · cases ha
              rw [if_pos rfl] at hb
              rw [Array.getElem?_toList] at q6
              rw [q6] at hb
              cases hb
              obtain ⟨z1, z2, z3, z4⟩ := h3.2 j _ _ hen (by rw [Array.getElem?_toList]; exact q6)
              exact ⟨rfl, hck, z3, hv⟩
            · cases ha
          · rename_i hij
            rw [if_neg hij] at hb
            exact h3.2 i a b ha (by rw [Array.getElem?_toList]; exact hb)
        refine ⟨_, ?_, ρ, Pm.le_refl _, hw.mapHeap e4 p1 (k2 := clock) hge, G.of_closed 1 _ rfl⟩
        have hkey : ((es'[j]?).map (·.key)).getD k' = k' := by
          rw [Array.getElem?_toList] at q6
          rw [q6]
          exact q7
        simp only [Instr.mapUpdate, Sem.run_bind, run_underlying ht, Result.andThen_ok, run_getMap h2, hc, findKey_run hkb q2, hkey, Instr.keyThatStays, q10, if_true, Sem.run_pure, run_setMap h2]
    · rw [HM.fail_iff] at e2; cases e2
  · rename_i hf
    simp only [HM.bind_iff, HM.pure_iff, setO_iff] at e2
    obtain ⟨_, ⟨_, rfl⟩, _, rfl, rfl⟩ := e2
    rcases findNow_G h3 hf with ⟨_, q2⟩ | ⟨i2, u, u', f, f', q1, _⟩
    · have hge : GE ρ (es ++ [{ key := k', val := v, born := clock }]) (es'.push { key := k', val := v', born := clock }).toList := by
        refine ⟨by have := h3.1; simp at this; simp [this], fun i a b ha hb => ?_⟩
        rw [Array.toList_push] at hb
        rcases Nat.lt_or_ge i es.length with hi | hi
        · rw [List.getElem?_append_left hi] at ha
          rw [List.getElem?_append_left (h3.1 ▸ hi)] at hb
          exact h3.2 i a b ha hb
        · rw [List.getElem?_append_right hi] at ha
          rw [List.getElem?_append_right (h3.1 ▸ hi), ← h3.1] at hb
          cases hj : i - es.length with
          | zero => rw [hj] at ha hb; simp at ha hb; subst ha hb; exact ⟨rfl, hck, rfl, hv⟩
          | succ q => rw [hj] at ha; simp at ha
      refine ⟨_, ?_, ρ, Pm.le_refl _, hw.mapHeap e4 p1 (k2 := clock + 1) hge, G.of_closed 1 _ rfl⟩
      simp only [Instr.mapUpdate, Sem.run_bind, run_underlying ht, Result.andThen_ok, run_getMap h2, hc, findKey_run hkb q2, run_setMap h2]
    · cases q1
  · rw [HM.fail_iff] at e2; cases e2

theorem delete_run (hw : W P w0 ρ h w) {t t' ty : TypeId} {m k m' k' : Value} (hm : G ρ m m') (hk : G ρ k k') (e : (deleteA P t m k).run n h = some x) : ∃ w2, (Builtin.delete_ #[t, t'] ty #[m', k']).run P w = .ok (.tuple #[]) w2 ∧ Post P w0 ρ x (.tuple #[]) w2 := by
  unfold deleteA at e
  split at e
  case h_2 => rw [HM.fail_iff] at e; cases e
  rename_i kt et b ht hck
  obtain rfl := G.closed_eq _ _ _ hck hk
  obtain ⟨p, p1, rfl⟩ := hm.map_inv
  split at e
  case h_2 => rw [HM.fail_iff] at e; cases e
  rename_i kd hkb
  rw [HM.bind_iff] at e
  obtain ⟨⟨⟨es, clock⟩, yn, yh, yr, yw⟩, e1, x2, e2, rfl⟩ := e
  obtain ⟨e3, e4⟩ := getM_inv e1
  simp only at e2 e3 e4
  subst e3
  obtain ⟨_, es', h2, h3⟩ := hw.mapRow e4 p1
  have hc := checkKey_run (w := w) hkb es'.isEmpty k'
  split at e2
  · rename_i j v0 hf
    simp only [HM.bind_iff, HM.pure_iff, setO_iff] at e2
    obtain ⟨_, ⟨_, rfl⟩, _, rfl, rfl⟩ := e2
    rcases findNow_G h3 hf with ⟨q1, _⟩ | ⟨i2, u, u', f, f', q1, q2, q3, _, q5, q6, _⟩
    · cases q1
    · cases q1
      have hge : GE ρ (es.eraseIdx j) (es'.eraseIdxIfInBounds j).toList := by
        simp only [Nat.sub_zero] at q6
        have hlt : j < es'.size := by have := (List.getElem?_eq_some_iff.1 q6).1; simpa using this
        have he : (es'.eraseIdxIfInBounds j).toList = es'.toList.eraseIdx j := by simp [Array.eraseIdxIfInBounds, hlt]
        rw [he]
        refine ⟨by simp [List.length_eraseIdx, h3.1], fun i a b ha hb => ?_⟩
        rw [List.getElem?_eraseIdx] at ha hb
        split at ha
        · rename_i hij; rw [if_pos hij] at hb; exact h3.2 _ _ _ ha hb
        · rename_i hij; rw [if_neg hij] at hb; exact h3.2 _ _ _ ha hb
      refine ⟨_, ?_, ρ, Pm.le_refl _, hw.mapHeap e4 p1 (k2 := clock) hge, G.of_closed 1 _ rfl⟩
      simp [Builtin.delete_, run_underlying ht, run_getMap h2, hc, findKey_run hkb q2, run_setMap h2]
  · rename_i hf
    rw [HM.pure_iff] at e2
    subst e2
    rcases findNow_G h3 hf with ⟨_, q2⟩ | ⟨i2, u, u', f, f', q1, _⟩
    · refine ⟨{ w with heap := w.heap.setIfInBounds p.blk (.map es' clock) }, ?_, ρ, Pm.le_refl _, ?_, G.of_closed 1 _ rfl⟩
      rotate_left
      · have := hw.mapHeap e4 p1 (k2 := clock) h3
        refine hw.world (w' := { w with heap := w.heap.setIfInBounds p.blk (.map es' clock) }) ⟨⟨rfl, rfl, rfl, by simp, fun j hj => ?_⟩, fun j ob j1 j2 => ?_⟩ fun i o q hi hl hq => ?_
        · simp only
          rw [Array.getElem?_setIfInBounds_ne]
          have := (hw.mapRow e4 p1).1.1
          omega
        · simp only
          rw [Array.getElem?_setIfInBounds_ne]
          · exact j2
          · intro e
            rw [← e, (hw.mapRow e4 p1).1.2] at j1
            cases j1
        · simp only
          by_cases hb : p.blk = q.blk
          · rw [hb, Array.getElem?_setIfInBounds_self_of_lt (by rw [← hb]; exact (Array.getElem?_eq_some_iff.1 h2).1), ← hb, h2]
          · rw [Array.getElem?_setIfInBounds_ne hb]
      · simp [Builtin.delete_, run_underlying ht, run_getMap h2, hc, findKey_run hkb q2, run_setMap h2]
    · cases q1
  · rw [HM.fail_iff] at e2; cases e2
end
end Cl
end Go.Proofs.YtcodjodhacjfeaaGreatDoor
end

/-! What the machine does for an operation is what the operation does (ranges over strings, conversions, unsafe strings). -/
section
namespace Go.Proofs.YtcodjodhacjfeaaGreatDoor
open Go.RowKit
namespace Cl

section
variable {P : Program} {w0 : Bs} {w w' : World} {ρ : Pm} {nt : Nat} {g : Regs} {a : Act} {h : H} {n : Nat} {o : Oper} {x : Res Value} {v' : Value} {post : Value → World → Prop}

theorem range_ok (hr : Reg ρ nt g a) (hw : W P w0 ρ h w) {t : TypeId} {y : Operand} (ho : o.op = .range t y) (e : (rangeA P t (evA g y)).run n h = some x) : effAt P o a w (Post P w0 ρ x) := by
  unfold rangeA at e
  split at e
  · rename_i s ht hy
    obtain ⟨h4, h5, h6⟩ := fresh_then e
    have hle := hw.le_up h4 ⟨w.heap.size, 0, 0⟩
    have hw' := hw.new (o := .siter s 0) (ob := .stringIter s 0) (slack := 0) h4 ⟨hw.fresh, rfl, heap_alloc_new w _⟩
    have hv := G.nil_eq rfl (hr.ev hy)
    refine eff_v (v' := .pointer (some ⟨w.heap.size, 0, none⟩)) (w' := w.alloc (.stringIter s 0)) (s := Instr.range t (a.eval y)) (by unfold execOp; simp only [ho]) ?_ (.mk h5 h6 hle hw' (.ptr (upP_same _ _ _)))
    simp [Instr.range, run_underlying ht, hv]
  · rw [HM.fail_iff] at e; cases e
theorem next_ok (hr : Reg ρ nt g a) (hw : W P w0 ρ h w) {y : Operand} {str : Bool} (ho : o.op = .next y str) (e : (nextA (evA g y) str).run n h = some x) : effAt P o a w (Post P w0 ρ x) := by
  unfold nextA at e
  split at e
  · rename_i b hy
    obtain ⟨p, p1, p2⟩ := (hr.ev hy).ptr_inv
    rw [HM.bind_iff] at e
    obtain ⟨_, e1, x2, e2, rfl⟩ := e
    obtain ⟨ob, e3, rfl⟩ := getO_iff.1 e1
    simp only at e2
    split at e2
    · rename_i s pos
      obtain ⟨q, q1, q2, q3, q4⟩ := hw.obj b _ e3
      rw [p1] at q1
      cases q1
      have hget : (getObj p.blk).run P w = .ok (.stringIter s pos) w := by simp [getObj, Sem.run, q4]
      split at e2
      · rename_i hlt
        rw [Nat.blt_eq] at hlt
        simp only [HM.bind_iff, setO_iff, HM.pure_iff] at e2
        obtain ⟨_, ⟨_, rfl⟩, _, rfl, rfl⟩ := e2
        have hbl : p.blk < w.heap.size := (Array.getElem?_eq_some_iff.1 q4).1
        have hset : (setObj p.blk (.stringIter s (pos + (Utf8.decode s pos).2))).run P w = .ok () { w with heap := w.heap.setIfInBounds p.blk (.stringIter s (pos + (Utf8.decode s pos).2)) } := by simp [setObj, Sem.run, q4]
        refine eff_v (v' := .tuple #[.bool true, .int .i64 pos, .int .i32 (Utf8.decode s pos).1]) (w' := { w with heap := w.heap.setIfInBounds p.blk (.stringIter s (pos + (Utf8.decode s pos).2)) }) (s := Instr.next (a.eval y) true o.type) (by unfold execOp; simp only [ho]) ?_ ⟨ρ, Pm.le_refl _, ?_, G.of_closed 2 _ rfl⟩
        · rw [p2]
          simp only [q3, Nat.zero_add, Instr.next, Sem.run_bind, hget, Result.andThen_ok, hlt, if_true, hset, Sem.run_pure, goInt]
        · refine hw.set e3 rfl p1 ⟨rfl, rfl, rfl, by simp, fun j hj => ?_⟩ (fun j hj _ => ?_) ⟨q2, q3, by simp [hbl]⟩
          · have q2' := q2.1
            simp only
            rw [Array.getElem?_setIfInBounds_ne (by omega)]
          · simp only
            rw [Array.getElem?_setIfInBounds_ne (Ne.symm hj)]
      · rename_i hlt
        have hlt' : ¬ pos < s.size := fun hh => by rw [← Nat.blt_eq, hlt] at hh; cases hh
        have := HM.pure_iff.1 e2
        subst this
        refine eff_v (v' := .tuple #[.bool false]) (w' := w) (s := Instr.next (a.eval y) true o.type) (by unfold execOp; simp only [ho]) ?_ ⟨ρ, Pm.le_refl _, hw, G.of_closed 2 _ rfl⟩
        rw [p2]
        simp only [q3, Nat.zero_add, Instr.next, Sem.run_bind, hget, Result.andThen_ok, hlt', if_false, Sem.run_pure]
    · rw [HM.fail_iff] at e2; cases e2
  · rw [HM.fail_iff] at e; cases e

/-! bytes -/
theorem bytesA_spec : ∀ {l : List Value} {r : List UInt8}, bytesA l = some r → ∃ ns : List Int, l = ns.map (Value.int .u8) ∧ r = ns.map fun z => UInt8.ofNat z.toNat
  | [], r, e => by
    simp [bytesA] at e
    subst e
    exact ⟨[], rfl, rfl⟩
  | v :: l, r, e => by
    unfold bytesA at e
    split at e
    · rename_i he; cases he
    · rename_i z l3 he
      cases he
      split at e
      · rename_i r2 hr2
        cases e
        obtain ⟨ns, h1, h2⟩ := bytesA_spec hr2
        exact ⟨z :: ns, by simp [h1], by simp [h2]⟩
      · cases e
    · cases e
theorem ints_G {ns : List Int} {l' : List Value} (hg : GL ρ (ns.map (Value.int .u8)) l') : l' = ns.map (Value.int .u8) := hg.eq_of fun u hu u' g => by
  obtain ⟨z, _, rfl⟩ := List.mem_map.1 hu
  exact g.int_eq
theorem foldl_push : ∀ (ns : List Int) (s : ByteArray), ns.foldl (fun r n => r.push (UInt8.ofNat n.toNat)) s = ⟨⟨s.data.toList ++ ns.map fun z => UInt8.ofNat z.toNat⟩⟩
  | [], s => by obtain ⟨⟨d⟩⟩ := s; simp
  | z :: ns, s => by
    rw [List.foldl_cons, foldl_push ns]
    obtain ⟨⟨d⟩⟩ := s
    simp [ByteArray.push]
theorem loadBytes_run {k : Nat} : ∀ (ns : List Int) (off : Nat) (acc : ByteArray), w.rangeAt k off (ns.map (Value.int .u8)) → (loadBytes ⟨k, off, none⟩ acc ns.length).run P w = .ok (ns.foldl (fun r n => r.push (UInt8.ofNat n.toNat)) acc) w
  | [], off, acc, _ => by simp [loadBytes]
  | z :: ns, off, acc, hl => by
    have h0 : w.cell? ⟨k, off, none⟩ = some (.int .u8 z) := by simpa using hl 0 _ rfl
    have ih := loadBytes_run ns (off + 1) (acc.push (UInt8.ofNat z.toNat)) (fun j u hu => by have := hl (j + 1) u (by simpa using hu); rwa [show off + (j + 1) = off + 1 + j by omega] at this)
    rw [List.length_cons, loadBytes]
    simp only [Sem.run_bind, run_load, h0, Result.andThen_ok, Addr.add_mid]
    rw [List.foldl_cons]
    exact ih
theorem liesAt_off {e : TypeId} (hc : P.cellsOf e = 1) (count off n : Nat) (hn : off + n ≤ count) : liesAt P P.depth e count off e n = true := by
  have hd : P.depth = (2 * (P.types.size + Made.depth) + 1) + 1 := rfl
  rw [hd]
  simp only [liesAt, Bool.or_eq_true]
  left
  rw [hd]
  simp [rowAt, hc, hn, sameLayout, Nat.mod_one]

theorem conv_ok (hr : Reg ρ nt g a) (hw : W P w0 ρ h w) {src dst : TypeId} {y : Operand} (ho : o.op = .convert src dst y) (e : (convA P (evA g) o src dst y).run n h = some x) : effAt P o a w (Post P w0 ρ x) := by
  unfold convA at e
  split at e
  · rename_i b off hy
    obtain ⟨p, p1, p2⟩ := (hr.ev hy).ptr_inv
    split at e
    · rename_i t hs hd
      rw [HM.bind_iff] at e
      obtain ⟨⟨⟨c, et, vec⟩, n1, h1, r1, q1⟩, e1, x2, e2, rfl⟩ := e
      obtain ⟨e3, e4⟩ := getC_inv e1
      simp only at e2 e3 e4
      subst e3
      split at e2
      · rename_i r m hk hlt
        rw [Nat.blt_eq] at hlt
        have := HM.pure_iff.1 e2
        subst this
        obtain ⟨d, i, t1, t2, t3, t4⟩ := tk_spec hk
        obtain ⟨_, _, C, c1, c2, _⟩ := hw.row e4 p1
        have hoff : ¬ (C.size ≤ p.base + off) := by omega
        refine eff_v (v' := .pointer (some ⟨p.blk, p.base + off, none⟩)) (w' := w) (s := convert src dst (a.eval y)) (by unfold execOp; simp only [ho]) ?_ ⟨ρ, Pm.le_refl _, hw, .ptr p1⟩
        rw [p2]
        simp [convert, run_underlying hs, run_underlying hd, Conv.unsafePointer, Conv.seenAt, viewAt, World.shape?, c1, cellsIn, sizeOf, typeInfo, t2, t3, hoff]
      · rw [HM.fail_iff] at e2; cases e2
    · rename_i u hs hd
      rw [HM.bind_iff] at e
      obtain ⟨⟨⟨c, et, vec⟩, n1, h1, r1, q1⟩, e1, x2, e2, rfl⟩ := e
      obtain ⟨e3, e4⟩ := getC_inv e1
      simp only at e2 e3 e4
      subst e3
      split at e2
      · rename_i rk hku hlies
        obtain ⟨rk, sk⟩ := rk
        have := HM.pure_iff.1 e2
        subst this
        obtain ⟨_, c0, C, c1, c2, _⟩ := hw.row e4 p1
        obtain ⟨s0, b0⟩ := c0 rfl
        rw [s0, b0] at c2
        simp only [Nat.zero_mul, Nat.zero_add, Nat.add_zero] at c2
        rw [← c2] at hlies
        refine eff_v (v' := .pointer (some ⟨p.blk, p.base + off, none⟩)) (w' := w) (s := convert src dst (a.eval y)) (by unfold execOp; simp only [ho]) ?_ ⟨ρ, Pm.le_refl _, hw, .ptr p1⟩
        rw [p2, b0, Nat.zero_add]
        have hvar : (variablesAt ⟨p.blk, off, none⟩ u 1).run P w = .ok true w := by simp [variablesAt, World.shape?, c1, hlies]
        obtain ⟨d, i, t1, t2, t3, t4⟩ := tk_spec hku
        simp [convert, run_underlying hs, run_underlying hd, Conv.unsafePointer, Conv.seenAt, viewAt, World.shape?, c1, sizeOf, typeInfo, t2, hvar]
      · rw [HM.fail_iff] at e2; cases e2
    · rw [HM.fail_iff] at e; cases e
  · rename_i b off sp m c hy
    obtain ⟨p, c', p1, p2, _⟩ := (hr.ev hy).slice_inv
    split at e
    · rename_i et hs hd
      split at e
      · rename_i he
        rw [HM.bind_iff] at e
        obtain ⟨⟨⟨c, et', vec⟩, n1, h1, r1, q1⟩, e1, x2, e2, rfl⟩ := e
        obtain ⟨e3, e4⟩ := getC_inv e1
        simp only at e2 e3 e4
        subst e3
        simp only [HM.bind_iff, HM.opt_iff, HM.pure_iff] at e2
        obtain ⟨_, ⟨l, hl, rfl⟩, _, ⟨_, ⟨r, hrr, rfl⟩, _, rfl, rfl⟩, rfl⟩ := e2
        obtain ⟨l', g1, g2, g3⟩ := hw.range e4 p1 hl
        obtain ⟨ns, rfl, rfl⟩ := bytesA_spec hrr
        obtain rfl := ints_G g1
        have hc : (loadCells ⟨p.blk, p.base + off, none⟩ m).run P w = .ok (ns.map (Value.int .u8)).toArray w := by
          rw [← g2]
          exact run_loadCells_list (P := P) w ⟨p.blk, p.base + off, none⟩ _ (fun j v hv => by rw [Addr.add_mid]; exact g3 j v hv)
        have hrun := run_bytesToString (P := P) w ⟨p.blk, p.base + off, none⟩ m c' ns hc
        rw [foldl_push] at hrun
        refine eff_v (v' := .string ⟨⟨ns.map fun z => UInt8.ofNat z.toNat⟩⟩) (w' := w) (s := convert src dst (a.eval y)) (by unfold execOp; simp only [ho]) ?_ ⟨ρ, Pm.le_refl _, hw, .flat rfl⟩
        rw [p2]
        simp only [convert, Sem.run_bind, run_underlying hs, run_underlying hd, Result.andThen_ok, run_underlying he, hrun]
        rfl
      · rw [HM.fail_iff] at e; cases e
    · rw [HM.fail_iff] at e; cases e
  · exact clo_ok hr hw (fun cs b => by rw [ho]; simp) e
theorem unsafeString_run (hw : W P w0 ρ h w) {pt it ty : TypeId} {u v u' v' : Value} (hu : G ρ u u') (hv : G ρ v v') (e : (unsafeStringA P pt (some u) (some v)).run n h = some x) : ∃ v2 w2, (Builtin.unsafeString_ #[pt, it] ty #[u', v']).run P w = .ok v2 w2 ∧ Post P w0 ρ x v2 w2 := by
  unfold unsafeStringA at e
  split at e
  · rename_i b off k m et hu' hv' hpt
    cases hu'
    cases hv'
    obtain ⟨p, p1, rfl⟩ := hu.ptr_inv
    have hv2 := hv.int_eq
    subst hv2
    split at e
    · rename_i m hc1 hm
      have hc1' := Nat.eq_of_beq_eq_true hc1
      rw [Nat.ble_eq] at hm
      rw [HM.bind_iff] at e
      obtain ⟨⟨⟨c, et', vec⟩, n1, h1, r1, q1⟩, e1, x2, e2, rfl⟩ := e
      obtain ⟨e3, e4⟩ := getC_inv e1
      simp only at e2 e3 e4
      subst e3
      split at e2
      · rename_i hte
        obtain rfl := Nat.eq_of_beq_eq_true hte
        simp only [HM.bind_iff, HM.opt_iff, HM.pure_iff, setO_iff] at e2
        obtain ⟨_, ⟨l, hl, rfl⟩, _, ⟨_, ⟨r, hrr, rfl⟩, _, ⟨_, ⟨_, rfl⟩, _, rfl, rfl⟩, rfl⟩, rfl⟩ := e2
        obtain ⟨l', g1, g2, g3⟩ := hw.range e4 p1 hl
        obtain ⟨ns, rfl, rfl⟩ := bytesA_spec hrr
        obtain rfl := ints_G g1
        obtain ⟨k1, k2, C, k3, k4, k5⟩ := hw.row e4 p1
        have hlen : ns.length = m + 1 := by simpa using g2
        rcases takeA_iff.1 hl with ⟨hle, _⟩ | ⟨h0, _⟩
        · have hlb := loadBytes_run (P := P) ns (p.base + off) .empty g3
          rw [foldl_push, hlen] at hlb
          have hlies := liesAt_off (P := P) hc1' (C.size / P.cellsOf et) (p.base + off) (m + 1) (by rw [hc1', Nat.div_one]; omega)
          have h63 : ¬ (9223372036854775807 : Int) < ((m : Int) + 1) := by omega
          have hdef : Builtin.unsafeString_ #[pt, it] ty #[.pointer (some ⟨p.blk, p.base + off, none⟩), .int k ((m + 1 : Nat) : Int)] =
              (do
                let n ← asInt (.int k ((m + 1 : Nat) : Int))
                if n < 0 then runtimePanic (.error "unsafe.String: len out of range")
                if n > IntKind.i64.max then unsupported (.unsafePointer "String: a length above the largest int")
                if n = 0 then pure (.string .empty)
                else if ← variablesAt ⟨p.blk, p.base + off, none⟩ (← elemOf pt) n.toNat then do
                  let s ← loadBytes ⟨p.blk, p.base + off, none⟩ .empty n.toNat
                  freeze ⟨p.blk, p.base + off, none⟩ n.toNat
                  pure (.string s)
                else unsupported (.unsafePointer "String: not so many bytes at ptr")) := rfl
          refine ⟨.string ⟨⟨ns.map fun z => UInt8.ofNat z.toNat⟩⟩, w.freeze ⟨p.blk, p.base + off, none⟩ (m + 1), ?_, ρ, Pm.le_refl _, ?_, .flat rfl⟩
          · have hmax : IntKind.i64.max = 9223372036854775807 := rfl
            have hneg : ¬ ((m : Int) + 1 < 0) := by omega
            have hne : ¬ ((m : Int) + 1 = 0) := by omega
            have htn : ((m : Int) + 1).toNat = m + 1 := by omega
            have := hdef
            simp only [Int.natCast_add, Int.cast_ofNat_Int] at this
            show (Builtin.unsafeString_ #[pt, it] ty #[.pointer (some ⟨p.blk, p.base + off, none⟩), .int k ((m + 1 : Nat) : Int)]).run P w = _
            rw [hdef]
            simp [asInt, asIntOf, hmax, hneg, h63, hne, htn, variablesAt, World.shape?, k3, elemOf, run_underlying hpt, hlies, hlb]
          · have hg := hw.setGone e4
            refine hg.world ⟨Lib.below_freeze (Below.refl _ _) k1.1 _, fun k ob e1 e2 => ?_⟩ fun j oj q hj hl2 hq => ?_
            · have hbl : k ≠ p.blk := fun e => by rw [e, k1.2] at e1; cases e1
              unfold World.freeze
              rw [if_neg (by omega)]
              simp only
              rw [Array.getElem?_modify, if_neg (Ne.symm hbl)]
              exact e2
            · rw [hget_set] at hj
              split at hj
              · cases hj; cases hl2
              · rename_i hne
                have hbl := hw.inj j b oj _ q p hne hj e4 hq p1 hl2 rfl
                unfold World.freeze
                rw [if_neg (by omega)]
                simp only
                rw [Array.getElem?_modify, if_neg (Ne.symm hbl)]
        · omega
      · rw [HM.fail_iff] at e2; cases e2
    · rw [HM.fail_iff] at e; cases e
  · rw [HM.fail_iff] at e; cases e
end
end Cl
end Go.Proofs.YtcodjodhacjfeaaGreatDoor
end

/-! What the machine does for an operation is what the operation does: all operations. -/
section
namespace Go.Proofs.YtcodjodhacjfeaaGreatDoor
open Go.RowKit
namespace Cl

/-- what is asked of the calls -/
def CallOk (P : Program) (w0 : Bs) (call : FuncId → List Value → HM Value) : Prop := ∀ f args n h x, (call f args).run n h = some x → ∀ ρ w args', W P w0 ρ h w → GL ρ args args' → effUpon P (Post P w0 ρ x) ((callFunc f args'.toArray).run P w)

section
variable {P : Program} {w0 : Bs} {w w' : World} {ρ : Pm} {nt : Nat} {g : Regs} {a : Act} {h : H} {n : Nat} {o : Oper} {x : Res Value} {v' : Value} {post : Value → World → Prop}

theorem fieldPlaces_run : ∀ {fs : List Field} {l : List (Nat × Nat)}, fieldPlaces P fs = some l → (fs.mapM fun f => (do pure (f.offset, ← sizeOf f.type) : Sem (Nat × Nat))).run P w = .ok l w
  | [], l, e => by simp [fieldPlaces] at e; subst e; rfl
  | f :: fs, l, e => by
    simp only [fieldPlaces] at e
    split at e
    · rename_i i l2 hi hl
      cases e
      rw [List.mapM_cons, Sem.run_bind]
      have h1 : (do pure (f.offset, ← sizeOf f.type) : Sem (Nat × Nat)).run P w = .ok (f.offset, i.size) w := by simp [sizeOf, typeInfo, hi]
      rw [h1, Result.andThen_ok, Sem.run_bind, fieldPlaces_run hl]
      rfl
    · cases e
theorem build_ok (hr : Reg ρ nt g a) (hw : W P w0 ρ h w) {t : TypeId} {parts : Array (Nat × Operand)} (ho : o.op = .build t parts) (e : (HM.opt (buildA P (evA g) t parts.toList)).run n h = some x) : effAt P o a w (Post P w0 ρ x) := by
  refine opt_ok hw e fun v hv => ?_
  have hparts : (parts.map fun p => (p.1, a.eval p.2)).toList = parts.toList.map fun p => (p.1, a.eval p.2) := by simp
  unfold buildA at hv
  split at hv
  · rename_i fs z ht hz
    obtain ⟨i, z0, z1, z2, rfl, z4⟩ := zeroL_spec hz
    split at hv
    · rename_i l hl
      split at hv
      · rename_i c hc
        cases hv
        obtain ⟨C2, c1, c2⟩ := fill_ok _ hr parts.toList _ c z0.cells (GL.same fun u hu => G.of_closed _ _ (z4 u hu)) hc
        refine ⟨.agg C2, ?_, by have := c2.agg; simpa using this⟩
        have hm : (fs.mapM fun f => (do pure (f.offset, ← sizeOf f.type) : Sem (Nat × Nat))).run P w = .ok l.toArray w := by
          have := fieldPlaces_run (P := P) (w := w) hl
          obtain ⟨fs⟩ := fs
          rw [List.mapM_toArray, Sem.run_map, this]
          rfl
        have hf : Instr.fill (l.toArray[·]?) z0.cells (parts.map fun p => (p.1, a.eval p.2)).toList = some C2 := by
          rw [hparts, ← c1]
          congr 1
          funext j
          simp
        have hs : (Instr.build t (parts.map fun p => (p.1, a.eval p.2))).run P w = .ok (.agg C2) w := by
          simp only [Instr.build, Sem.run_bind, zeroValue, typeInfo, run_program, z1, z2, Result.andThen_ok, Sem.run_pure, run_underlying ht]
          erw [hm]
          simp only [Result.andThen_ok, hf, Sem.run_pure]
        unfold execOp
        simp only [ho]
        rw [Sem.run_bind]
        erw [hs]
        rfl
      · cases hv
    · cases hv
  · rename_i m et z ht hz
    obtain ⟨i, z0, z1, z2, rfl, z4⟩ := zeroL_spec hz
    split at hv
    · rename_i ie hie
      split at hv
      · rename_i c hc
        cases hv
        obtain ⟨C2, c1, c2⟩ := fill_ok _ hr parts.toList _ c z0.cells (GL.same fun u hu => G.of_closed _ _ (z4 u hu)) hc
        refine ⟨.agg C2, ?_, by have := c2.agg; simpa using this⟩
        have hf : Instr.fill (fun i => some (i * ie.size, ie.size)) z0.cells (parts.map fun p => (p.1, a.eval p.2)).toList = some C2 := by
          rw [hparts]
          exact c1
        have hs : (Instr.build t (parts.map fun p => (p.1, a.eval p.2))).run P w = .ok (.agg C2) w := by
          simp only [Instr.build, Sem.run_bind, zeroValue, typeInfo, run_program, z1, z2, Result.andThen_ok, Sem.run_pure, run_underlying ht, sizeOf, hie, hf]
        unfold execOp
        simp only [ho]
        rw [Sem.run_bind]
        erw [hs]
        rfl
      · cases hv
    · cases hv
  · cases hv
theorem buildSlice_ok (hr : Reg ρ nt g a) (hw : W P w0 ρ h w) {t et : TypeId} {len : Nat} {parts : Array (Nat × Operand)} (ho : o.op = .buildSlice t len parts) {z c : List Value} {i : TypeInfo} (ht : P.underlying t = some (.slice et)) (hz : zeroL P et = some z) (hi : P.info? et = some i)
    (k1 : len * i.size ≤ 2 ^ 24) (k2 : z.length = i.size) (hc : fillA (rowPlace i.size) (parts.toList.map fun p => (p.1, evA g p.2)) (rowA z len) = some c) (e : (do let b ← fresh (.cells c et false); pure (.slice (some ⟨b, 0, none⟩) len len) : HM Value).run n h = some x) : effAt P o a w (Post P w0 ρ x) := by
  obtain ⟨i', z0, z1, z2, rfl, z4⟩ := zeroL_spec hz
  rw [hi] at z1
  cases z1
  have hsz : z0.cells.size = i.size := by simpa using k2
  have hrow := made_row z0 len i.size hsz
  obtain ⟨h4, h5, h6⟩ := fresh_then (f := fun b => .slice (some ⟨b, 0, none⟩) len len) e
  have hparts : (parts.map fun p => (p.1, a.eval p.2)).toList = parts.toList.map fun p => (p.1, a.eval p.2) := by simp
  obtain ⟨C2, c1, c2⟩ := fill_ok _ hr parts.toList _ c ((Array.range (len * i.size)).map (z0.cells[· % z0.cells.size]!)) (by rw [hrow]; exact GL.same fun u hu => G.of_closed _ _ (rowA_closed z4 len u hu)) hc
  obtain ⟨q1, q2⟩ := hw.newRow0 (t := et) (c := c) (C := C2) h4 c2
  have hf : Instr.fill (fun j => some (j * i.size, i.size)) ((Array.range (len * i.size)).map (z0.cells[· % z0.cells.size]!)) (parts.map fun p => (p.1, a.eval p.2)).toList = some C2 := by
    rw [hparts]
    exact c1
  have hs : (Instr.buildSlice t len (parts.map fun p => (p.1, a.eval p.2))).run P w = .ok (.slice (some ⟨w.heap.size, 0, none⟩) len len) (w.alloc (.cells C2 et)) := by
    have hn : ¬ (len * i.size > 2 ^ 24) := by omega
    by_cases h0 : len * i.size = 0
    · rw [h0] at hf
      simp only [Instr.buildSlice, Sem.run_bind, zeroValue, typeInfo, run_program, hi, Result.andThen_ok, Sem.run_pure, run_underlying ht, sizeOf, h0, if_true]
      simp only [Array.range_zero', Array.map_empty] at hf ⊢
      rw [hparts] at hf ⊢
      simp [hf, newRow]
    · simp only [Instr.buildSlice, Sem.run_bind, zeroValue, typeInfo, run_program, hi, z2, Result.andThen_ok, Sem.run_pure, run_underlying ht, sizeOf, hn, if_false, h0, hf]
      simp [newRow]
  refine effAt_value (v := .slice (some ⟨w.heap.size, 0, none⟩) len len) (w' := w.alloc (.cells C2 et)) ?_ (.mk h5 h6 q1 q2 ?_)
  · unfold execOp
    simp only [ho]
    rw [Sem.run_bind]
    erw [hs]
    rfl
  · have := G.slc (ρ := upP ρ n ⟨w.heap.size, 0, 0⟩) (b := n) (off := 0) (n := len) (c := len) (upP_same _ _ _)
    simpa using this

/-! builtins -/
theorem copySrc (hw : W P w0 ρ h w) {size : Nat} {v v' : Value} {y : Res (List Value × Nat)} (hv : G ρ v v') (e : (srcA size v).run n h = some y) :
    ∃ l', (∀ w2, (Builtin.lenOf v').run P w2 = .ok y.a.2 w2) ∧ (∀ q, q ≤ y.a.2 → (Builtin.firstCells size q v').run P w = .ok (l'.take (q * size)).toArray w) ∧ GL ρ y.a.1 l' ∧ y.h = h ∧ l'.length = y.a.2 * size := by
  unfold srcA at e
  split at e
  · rename_i c
    rw [HM.pure_iff] at e
    subst e
    obtain rfl := G.nil_eq rfl hv
    exact ⟨[], fun _ => rfl, fun q _ => by simp [Builtin.firstCells], .nil, rfl, by simp⟩
  · rename_i b off sp m c
    obtain ⟨p, c', p1, rfl, _⟩ := hv.slice_inv
    split at e
    · rw [HM.pure_iff] at e
      subst e
      exact ⟨[], fun _ => rfl, fun q hq => by
        have : q = 0 := by simpa using hq
        subst this
        simpa using run_firstCells_some (P := P) w size 0 ⟨p.blk, p.base + off, none⟩ 0 c' [] (by simp) (fun j u hu => by simp at hu), .nil, rfl, by simp⟩
    · rename_i mm
      simp only [HM.bind_iff, HM.opt_iff] at e
      obtain ⟨z, e1, z2, ⟨_, ⟨l, e2, rfl⟩, z3, e3, rfl⟩, rfl⟩ := e
      obtain ⟨e4, e5⟩ := getC_inv e1
      simp only at e3
      split at e3
      · rw [HM.pure_iff] at e3
        subst e3
        obtain ⟨l', g1, g2, g3⟩ := hw.range e5 p1 e2
        refine ⟨l', fun _ => rfl, fun q hq => ?_, g1, e4, g2⟩
        have hqs : q * size ≤ (mm + 1) * size := Nat.mul_le_mul_right _ hq
        exact run_firstCells_some w size q _ _ c' _ (by rw [List.length_take, g2]; exact Nat.min_eq_left hqs) fun j u hu => by
          rw [Addr.add_mid]
          refine g3 j u ?_
          rw [List.getElem?_take] at hu
          split at hu
          · exact hu
          · cases hu
      · rw [HM.fail_iff] at e3; cases e3
  · rw [HM.fail_iff] at e; cases e
theorem eff_b {b : Builtin} {args : Array Operand} {argTypes : Array TypeId} {s : Sem Value} (ho : o.op = .call { callee := .builtin b, args, argTypes }) (hb : ∀ cs, builtin b argTypes o.type cs (args.toList.map a.eval).toArray = (do pure (.value (← s)))) {v2 : Value} {w2 : World} (hr : s.run P w = .ok v2 w2) (hp : post v2 w2) : effAt P o a w post := by
  refine effAt_value (v := v2) (w' := w2) ?_ hp
  have hargs : args.map a.eval = (args.toList.map a.eval).toArray := by apply Array.ext'; simp
  unfold execOp
  simp only [ho, resolve, Sem.run_bind, Sem.run_pure, Result.andThen_ok, invoke, hargs, hb, hr]
theorem builtin_ok (hr : Reg ρ nt g a) (hw : W P w0 ρ h w) {c : Call} (ho : o.op = .call c) {b : Builtin} (hcb : c.callee = .builtin b) (e : (builtinA P (evA g) o b c.argTypes.toList c.args.toList).run n h = some x) : effAt P o a w (Post P w0 ρ x) := by
  obtain ⟨callee, args, argTypes⟩ := c
  simp only at hcb e
  subst hcb
  obtain ⟨args⟩ := args
  obtain ⟨argTypes⟩ := argTypes
  simp only at e
  have hclo : (cloV P (evA g) o).run n h = some x → effAt P o a w (Post P w0 ρ x) := clo_ok hr hw fun cs b => by rw [ho]; simp
  unfold builtinA at e
  split at e
  · -- len
    rename_i y t
    split at e
    · rename_i et ad m c ht hy
      rw [HM.pure_iff] at e
      subst e
      obtain ⟨b, off, sp⟩ := ad
      obtain ⟨p, c', p1, p2, _⟩ := (hr.ev hy).slice_inv
      refine eff_b ho (s := Builtin.len_ #[t] default #[a.eval y]) (fun _ => rfl) (v2 := .int .i64 m) (w2 := w) ?_ (post_same hw (.flat rfl))
      simp [Builtin.len_, run_underlying ht, p2, goInt]
    · rename_i kt et b ht hy
      rw [HM.bind_iff] at e
      obtain ⟨⟨⟨es, k2⟩, zn, zh, zr, zw⟩, e3, y2, e4, rfl⟩ := e
      have := HM.pure_iff.1 e4
      subst this
      obtain ⟨e6, e7⟩ := getM_inv e3
      simp only at e6 e7
      subst e6
      obtain ⟨p, p1, p2⟩ := (hr.ev hy).map_inv
      obtain ⟨_, es', h2, h3⟩ := hw.mapRow e7 p1
      refine eff_b ho (s := Builtin.len_ #[t] default #[a.eval y]) (fun _ => rfl) (v2 := .int .i64 es.length) (w2 := w) ?_ (post_same hw (.flat rfl))
      have := h3.1
      simp at this
      simp [Builtin.len_, run_underlying ht, p2, goInt, run_getMap h2, this]
    · exact hclo e
  · -- cap
    rename_i y t
    split at e
    · rename_i et b off sp m c ht hy
      obtain ⟨p, c', p1, p2, p3⟩ := (hr.ev hy).slice_inv
      have fin : c' = c → x.a = .int .i64 c → x.h = h → effAt P o a w (Post P w0 ρ x) := fun hc ha hh => by
        refine eff_b ho (s := Builtin.cap_ #[t] default #[a.eval y]) (fun _ => rfl) (v2 := .int .i64 c) (w2 := w) ?_ ⟨ρ, Pm.le_refl _, hh ▸ hw, by rw [ha]; exact .flat rfl⟩
        simp [Builtin.cap_, run_underlying ht, p2, goInt, hc]
      split at e
      · rename_i s
        rw [HM.pure_iff] at e
        subst e
        refine fin ?_ rfl rfl
        rcases p3 with ⟨h1, _⟩ | ⟨_, h2⟩
        · cases h1
        · exact h2
      · rw [HM.bind_iff] at e
        obtain ⟨⟨⟨cc, et2, vec⟩, zn, zh, zr, zw⟩, e3, y2, e4, rfl⟩ := e
        obtain ⟨e6, e7⟩ := getC_inv e3
        simp only at e4 e6 e7
        split at e4
        · have := HM.pure_iff.1 e4
          subst this
          subst e6
          refine fin ?_ rfl rfl
          obtain ⟨_, q2, _⟩ := hw.row e7 p1
          rcases p3 with ⟨_, h1⟩ | ⟨_, h2⟩
          · rw [h1, (q2 rfl).1]; rfl
          · exact h2
        · rw [HM.fail_iff] at e4; cases e4
    · exact hclo e
  · -- append
    rename_i s y t t'
    split at e
    · rename_i u v hu hv
      split at e
      · rename_i e' ad m c ht'
        obtain ⟨v2, w2, h1, h2⟩ := append_run (ty := default) hw (t := t) (t' := t') (.inl ⟨_, _, _, _, ht', rfl⟩) (hr.ev hu) (hr.ev hv) e
        exact eff_b ho (s := Builtin.append_ #[t, t'] default #[a.eval s, a.eval y]) (fun _ => rfl) h1 h2
      · rename_i st ht'
        obtain ⟨v2, w2, h1, h2⟩ := append_run (ty := default) hw (t := t) (t' := t') (.inr ⟨ht', _, rfl⟩) (hr.ev hu) (hr.ev hv) e
        exact eff_b ho (s := Builtin.append_ #[t, t'] default #[a.eval s, a.eval y]) (fun _ => rfl) h1 h2
      · rw [HM.fail_iff] at e; cases e
    · rw [HM.fail_iff] at e; cases e
  · -- copy
    rename_i d y t t'
    split at e
    · rename_i et b off sp m c v ht hd hv
      obtain ⟨p, c', p1, p2, p3⟩ := (hr.ev hd).slice_inv
      split at e
      · rename_i r size hk
        obtain ⟨dd, i, t1, t2, t3, t4⟩ := tk_spec hk
        rw [HM.bind_iff] at e
        obtain ⟨⟨⟨l, k⟩, zn, zh, zr, zw⟩, e3, y2, e4, rfl⟩ := e
        obtain ⟨l', s1, s1', s2, s3, s4⟩ := copySrc hw (hr.ev hv) e3
        simp only at e4 s1 s1' s2 s3 s4
        subst s3
        have fin : ∀ (q : Nat) (vs vs' : List Value), Nat.min k m = q → GL ρ vs vs' → (Builtin.firstCells size q (a.eval y)).run P w = .ok vs'.toArray w → (do putA b off vs; pure (.int .i64 q) : HM Value).run zn zh = some y2 → effAt P o a w (Post P w0 ρ ⟨y2.a, y2.n, y2.h, zr ||| y2.r, zw ||| y2.w⟩) := fun q vs vs' hq hg hf ee => by
          simp only [HM.bind_iff, HM.pure_iff] at ee
          obtain ⟨y3, e5, _, rfl, rfl⟩ := ee
          obtain ⟨k1, k2, _, _⟩ := hw.put p1 hg e5
          refine eff_b ho (s := Builtin.copy_ #[t, t'] default #[a.eval d, a.eval y]) (fun _ => rfl) (v2 := .int .i64 q) (w2 := w.setCells p.blk (p.base + off) vs') ?_ ⟨ρ, Pm.le_refl _, k2, .flat rfl⟩
          simp [Builtin.copy_, run_underlying ht, p2, s1, hq, sizeOf, typeInfo, t2, t3, hf, k1, goInt]
        split at e4
        · rename_i hle
          rw [Nat.ble_eq] at hle
          exact fin k l l' (Nat.min_eq_left hle) s2 (by have := s1' k (Nat.le_refl _); rwa [List.take_of_length_le (by omega)] at this) e4
        · rename_i hle
          have hle' : m ≤ k := by
            rcases Nat.le_total k m with h1 | h1
            · have := Nat.ble_eq.mpr h1; rw [hle] at this; cases this
            · exact h1
          exact fin m _ _ (Nat.min_eq_right hle') (s2.take (m * size)) (s1' m hle') e4
      · rw [HM.fail_iff] at e; cases e
    · rw [HM.fail_iff] at e; cases e
  · -- delete
    rename_i m k t t'
    split at e
    · rename_i u v hu hv
      obtain ⟨w2, h1, h2⟩ := delete_run (t' := t') (ty := default) hw (hr.ev hu) (hr.ev hv) e
      exact eff_b ho (s := Builtin.delete_ #[t, t'] default #[a.eval m, a.eval k]) (fun _ => rfl) h1 h2
    · rw [HM.fail_iff] at e; cases e
  · -- clear
    rename_i m t
    split at e
    · rename_i kt et b ht hm
      rw [HM.bind_iff] at e
      obtain ⟨⟨⟨es, k2⟩, zn, zh, zr, zw⟩, e3, y2, e4, rfl⟩ := e
      obtain ⟨e6, e7⟩ := getM_inv e3
      simp only at e4 e6 e7
      subst e6
      simp only [HM.bind_iff, HM.pure_iff, setO_iff] at e4
      obtain ⟨_, ⟨_, rfl⟩, _, rfl, rfl⟩ := e4
      obtain ⟨p, p1, p2⟩ := (hr.ev hm).map_inv
      obtain ⟨_, es', h2, h3⟩ := hw.mapRow e7 p1
      refine eff_b ho (s := Builtin.clear_ #[t] default #[a.eval m]) (fun _ => rfl) (v2 := .tuple #[]) (w2 := { w with heap := w.heap.setIfInBounds p.blk (.map #[] k2) }) ?_ ⟨ρ, Pm.le_refl _, hw.mapHeap e7 p1 (es2 := []) (es2' := #[]) ⟨rfl, fun i a b ha => by simp at ha⟩, G.of_closed 1 _ rfl⟩
      simp [Builtin.clear_, run_underlying ht, p2, run_getMap h2, run_setMap h2]
    · rw [HM.fail_iff] at e; cases e
  · exact hclo e
  · exact hclo e
  · -- unsafe.SliceData
    rename_i y t
    split at e
    · rename_i b off sp m c hy
      have := HM.pure_iff.1 e
      subst this
      obtain ⟨p, c', p1, p2, p3⟩ := (hr.ev hy).slice_inv
      refine eff_b ho (s := Builtin.unsafeSliceData_ #[t] o.type #[a.eval y]) (fun _ => rfl) (v2 := .pointer (some ⟨p.blk, p.base + off, none⟩)) (w2 := w) ?_ (post_same hw (.ptr p1))
      rw [p2]
      refine Lib.run_unsafeSliceData_row w #[t] o.type _ m c' ?_
      rcases p3 with ⟨_, rfl⟩ | ⟨_, rfl⟩ <;> omega
    · rw [HM.fail_iff] at e; cases e
  · -- unsafe.String
    rename_i y z t t'
    cases hy : evA g y with
    | none => rw [hy] at e; unfold unsafeStringA at e; simp only at e; rw [HM.fail_iff] at e; cases e
    | some u =>
      cases hz : evA g z with
      | none => rw [hy, hz] at e; unfold unsafeStringA at e; simp only at e; rw [HM.fail_iff] at e; cases e
      | some v =>
        rw [hy, hz] at e
        obtain ⟨v2, w2, h1, h2⟩ := unsafeString_run (it := t') (ty := default) hw (hr.ev hy) (hr.ev hz) e
        exact eff_b ho (s := Builtin.unsafeString_ #[t, t'] default #[a.eval y, a.eval z]) (fun _ => rfl) h1 h2
  · rw [HM.fail_iff] at e; cases e

/-! all operations -/
theorem call_ok {call : FuncId → List Value → HM Value} (hC : CallOk P w0 call) (hr : Reg ρ nt g a) (hw : W P w0 ρ h w) {c : Call} {y : Operand} (ho : o.op = .call c) (hc : c.callee = .value y) {f : FuncId} {fi cp : Array Value} {args : List Value} (hy : evA g y = some (.func (.func f) fi cp)) (ha : allSome (c.args.toList.map (evA g)) = some args)
    (e : (call f (fi.toList ++ args ++ cp.toList)).run n h = some x) : effAt P o a w (Post P w0 ρ x) := by
  obtain ⟨k, fi', cp', h1, h2, h3, h4⟩ := (hr.ev hy).func_inv
  cases h1
  have hg := (h3.append (allSome_GL hr ha)).append h4
  have q := hC _ _ _ _ _ e ρ w _ hw hg
  have he : (execOp a.eval o).run P w = (callFunc f (fi'.toList ++ c.args.toList.map a.eval ++ cp'.toList).toArray).run P w := by
    unfold execOp
    simp only [ho, resolve, hc, h2, Deferred.ofValue, Sem.run_bind, Sem.run_pure, Result.andThen_ok, invoke]
    congr 2
    apply Array.ext'
    simp
  unfold effAt
  rw [he]
  exact q

/-! values alone -/
theorem addF_eq (a b : Int) : addF a b = a + b := by cases a <;> cases b <;> rfl
theorem subF_eq (a b : Int) : subF a b = a - b := by
  unfold subF
  split
  · split
    · rename_i x y _ h; rw [Nat.ble_eq] at h; show ((x - y : Nat) : Int) = (x : Int) - (y : Int); omega
    · rename_i x y _ h
      have : ¬ y ≤ x := fun h2 => by rw [← Nat.ble_eq, h] at h2; cases h2
      show Int.negSucc (y - x - 1) = (x : Int) - (y : Int)
      omega
  · rfl
theorem mulF_eq (a b : Int) : mulF a b = a * b := by cases a <;> cases b <;> rfl
theorem ltF_eq (a b : Int) : ltF a b = decide (a < b) := by
  have key : ∀ x y : Nat, Nat.blt x y = decide (x < y) := fun x y => by
    cases h : Nat.blt x y with
    | true => rw [Nat.blt_eq] at h; simp [h]
    | false => have : ¬ x < y := fun h2 => by rw [← Nat.blt_eq, h] at h2; cases h2
               simp [this]
  unfold ltF
  split
  · rename_i x y; rw [key]; simp
  · rename_i x y; symm; simp only [decide_eq_true_eq, Int.ofNat_eq_natCast]; have := Int.negSucc_lt_zero x; omega
  · rename_i x y; symm; simp only [decide_eq_false_iff_not, Int.ofNat_eq_natCast]; have := Int.negSucc_lt_zero y; omega
  · rename_i x y; rw [key]; simp only [decide_eq_decide, Int.negSucc_eq]; omega
theorem eqF_eq (a b : Int) : eqF a b = (a == b) := by
  unfold eqF
  split
  · rename_i x y; rw [beq_dec, Bool.eq_iff_iff]; simp only [decide_eq_true_eq, beq_iff_eq, Int.ofNat_eq_natCast]; omega
  · rename_i x y; rw [beq_dec, Bool.eq_iff_iff]; simp only [decide_eq_true_eq, beq_iff_eq]; omega
  · rename_i h1 h2
    cases a <;> cases b
    · exact (h1 _ _ rfl rfl).elim
    · rfl
    · rfl
    · exact (h2 _ _ rfl rfl).elim
theorem wrapF_eq (k : IntKind) (m : Int) : wrapF k m = k.wrap m := by
  unfold wrapF
  split
  · split
    · rename_i x h; rw [Nat.blt_eq] at h; rw [IntKind.wrap_i64]; simp only [Int.ofNat_eq_natCast]; omega
    · rfl
  · split
    · rename_i x h; rw [Nat.blt_eq] at h; rw [IntKind.wrap_i64]; omega
    · rfl
  · rfl
theorem ikN_inj {k k' : IntKind} (h : Nat.beq (ikN k) (ikN k') = true) : k' = k := by
  have := Nat.eq_of_beq_eq_true h
  cases k <;> cases k' <;> first | rfl | (simp [ikN] at this)
theorem binI_run {op : BinOp} {k : IntKind} {p q : Int} {v : Value} (e : binI op k p q = some v) (t : TypeId) (y z : Operand) : flat v = true ∧ (do eqGuard op t y z (.int k p) (.int k q); binOp op t (.int k p) (.int k q) : Sem Value).run P w = .ok v w := by
  have hg : (eqGuard op t y z (.int k p) (.int k q)).run P w = .ok () w := by cases op <;> rfl
  rw [Sem.run_bind, hg]
  have hcmp : ∀ b : Bool, (∀ u, binOp op t (.int k p) (.int k q) = u → u.run P w = .ok (.bool b) w) → some (Value.bool b) = some v → flat v = true ∧ (binOp op t (.int k p) (.int k q)).run P w = .ok v w := fun b hb hv => by
    cases hv
    exact ⟨rfl, hb _ rfl⟩
  show flat v = true ∧ (binOp op t (.int k p) (.int k q)).run P w = .ok v w
  cases op <;> simp only [binI] at e
  case add => cases e; exact ⟨rfl, by simp [binOp, Op.intArith, addF_eq, wrapF_eq]⟩
  case sub => cases e; exact ⟨rfl, by simp [binOp, Op.intArith, subF_eq, wrapF_eq]⟩
  case mul => cases e; exact ⟨rfl, by simp [binOp, Op.intArith, mulF_eq, wrapF_eq]⟩
  case quo =>
    split at e
    · rename_i x y
      cases e
      refine ⟨rfl, ?_⟩
      have h0 : ¬ ((Int.ofNat (y + 1)) = 0) := by simp only [Int.ofNat_eq_natCast]; omega
      have h1 : (Int.ofNat x).tdiv (Int.ofNat (y + 1)) = Int.ofNat (x / (y + 1)) := by simp [Int.ofNat_eq_natCast]
      simp only [binOp, ne_eq, not_true_eq_false, if_false, Op.intDiv, if_neg h0, h1, wrapF_eq, Sem.run_pure]
    · cases e
  case rem =>
    split at e
    · rename_i x y
      cases e
      refine ⟨rfl, ?_⟩
      have h0 : ¬ ((Int.ofNat (y + 1)) = 0) := by simp only [Int.ofNat_eq_natCast]; omega
      have h1 : (Int.ofNat x).tmod (Int.ofNat (y + 1)) = Int.ofNat (x % (y + 1)) := rfl
      simp only [binOp, ne_eq, not_true_eq_false, if_false, Op.intDiv, if_neg h0, h1, Sem.run_pure]
    · cases e
  case eql => exact hcmp _ (fun u hu => by subst hu; simp [binOp, Op.intCmp, eqF_eq]) e
  case neq => exact hcmp _ (fun u hu => by subst hu; simp [binOp, Op.intCmp, eqF_eq, bne]) e
  case lss => exact hcmp _ (fun u hu => by subst hu; simp [binOp, Op.intCmp, ltF_eq]) e
  case gtr => exact hcmp _ (fun u hu => by subst hu; simp [binOp, Op.intCmp, ltF_eq]) e
  case leq =>
    refine hcmp _ (fun u hu => ?_) e
    subst hu
    have : (!ltF q p) = decide (p ≤ q) := by rw [ltF_eq, ← decide_not, decide_eq_decide]; omega
    rw [this]
    simp [binOp, Op.intCmp]
  case geq =>
    refine hcmp _ (fun u hu => ?_) e
    subst hu
    have : (!ltF p q) = decide (p ≥ q) := by rw [ltF_eq, ← decide_not, decide_eq_decide]; omega
    rw [this]
    simp [binOp, Op.intCmp]
  all_goals cases e

theorem flat_G {v : Value} (hf : flat v = true) : G ρ v v := .flat hf
theorem bin_ok (hr : Reg ρ nt g a) (hw : W P w0 ρ h w) {op : BinOp} {t yt : TypeId} {y z : Operand} (ho : o.op = .binOp op t y z yt) {v : Value} (hv : binP op (evA g y) (evA g z) = some v) (e : (HM.pure v).run n h = some x) : effAt P o a w (Post P w0 ρ x) := by
  unfold binP at hv
  split at hv
  · rename_i k p k' q hy hz
    split at hv
    · rename_i hk
      obtain rfl := ikN_inj hk
      obtain ⟨h1, h2⟩ := binI_run (P := P) (w := w) hv t y z
      refine pure_ok' hw e (v' := v) ?_ (flat_G h1)
      unfold execOp
      simp only [ho, (hr.ev hy).int_eq, (hr.ev hz).int_eq]
      rw [Sem.run_bind, h2]
      rfl
    · cases hv
  · cases hv
theorem un_ok (hr : Reg ρ nt g a) (hw : W P w0 ρ h w) {op : UnOp} {t : TypeId} {y : Operand} (ho : o.op = .unOp op t y) {v : Value} (hv : unP op (evA g y) = some v) (e : (HM.pure v).run n h = some x) : effAt P o a w (Post P w0 ρ x) := by
  unfold unP at hv
  split at hv
  · rename_i b hy
    cases hv
    refine pure_ok' hw e (v' := .bool !b) ?_ (.flat rfl)
    unfold execOp
    simp only [ho, (hr.ev hy).bool_eq]
    simp [Op.unary]
  · cases hv
theorem convI_ok (hr : Reg ρ nt g a) (hw : W P w0 ρ h w) {src dst : TypeId} {y : Operand} (ho : o.op = .convert src dst y) {v : Value} (hv : convP P src dst (evA g y) = some v) (e : (HM.pure v).run n h = some x) : effAt P o a w (Post P w0 ρ x) := by
  unfold convP at hv
  split at hv
  · rename_i k m hy
    split at hv
    · rename_i d k' hs hd
      cases hv
      refine pure_ok' hw e (v' := .int k' (wrapF k' m)) ?_ (.flat rfl)
      unfold execOp
      simp only [ho, (hr.ev hy).int_eq]
      simp [convert, run_underlying hs, run_underlying hd, Conv.intToInt, wrapF_eq]
    · cases hv
  · cases hv
theorem assertN_ok (hr : Reg ρ nt g a) (hw : W P w0 ρ h w) {xt t u : TypeId} {y : Operand} (ho : o.op = .typeAssert y xt t true) {d : TypeDesc} {v z : Value} {i : TypeInfo} (ht : P.underlying t = some d) (hd : ∀ m, d ≠ .interface m) (hy : evA g y = some (.iface u v)) (hne : u ≠ t) (hi : P.info? t = some i) (hz : i.zero = some z) (hc : closedB CD z = true)
    (e : (HM.pure (.tuple #[z, .bool false])).run n h = some x) : effAt P o a w (Post P w0 ρ x) := by
  obtain ⟨u', k1, k2⟩ := (hr.ev hy).iface_inv
  refine pure_ok' hw e (v' := .tuple #[z, .bool false]) ?_ ((GL.cons (G.of_closed _ _ hc) (GL.cons (.flat rfl) .nil)).tuple)
  unfold execOp
  simp only [ho, Instr.typeAssert, Sem.run_bind, run_underlying ht, Result.andThen_ok, k1]
  cases d <;> first | (exact absurd rfl (hd _)) | simp [hne, zeroValue, typeInfo, hi, hz]
theorem len_ok (hr : Reg ρ nt g a) (hw : W P w0 ρ h w) {c : Call} (ho : o.op = .call c) {v : Value} (hv : pureC P (evA g) c = some v) (e : (HM.pure v).run n h = some x) : effAt P o a w (Post P w0 ρ x) := by
  unfold pureC at hv
  split at hv
  · rename_i b hb
    obtain ⟨callee, args, argTypes⟩ := c
    simp only at hb hv
    subst hb
    obtain ⟨args⟩ := args
    obtain ⟨argTypes⟩ := argTypes
    simp only at hv
    unfold lenP at hv
    split at hv
    · rename_i y t
      split at hv
      · rename_i et ad m c ht hy
        cases hv
        have := HM.pure_iff.1 e
        subst this
        obtain ⟨b, off, sp⟩ := ad
        obtain ⟨p, c', p1, p2, _⟩ := (hr.ev hy).slice_inv
        refine eff_b ho (s := Builtin.len_ #[t] default #[a.eval y]) (fun _ => rfl) (v2 := .int .i64 m) (w2 := w) ?_ (post_same hw (.flat rfl))
        simp [Builtin.len_, run_underlying ht, p2, goInt]
      · cases hv
    · cases hv
  · cases hv

theorem okOf_spec (op : Op) : match okOf op with
    | .mv x => op = .move x ∨ op = .assign x
    | .pk c a b => op = .pick c a b
    | .bin b x y => ∃ t yt, op = .binOp b t x y yt
    | .fa t x f => op = .fieldAddr t x f
    | .ia t x i => op = .indexAddr t x i
    | .no => True
    | .rest => True := by cases op <;> simp [okOf]
theorem fa_ok (hr : Reg ρ nt g a) (hw : W P w0 ρ h w) {t : TypeId} {y : Operand} {f : Nat} (ho : o.op = .fieldAddr t y f) {v : Value} (hv : faP P t (evA g y) f = some v) (e : (HM.pure v).run n h = some x) : effAt P o a w (Post P w0 ρ x) := by
  unfold faP at hv
  split at hv
  · rename_i fs b off ht hy
    split at hv
    · rename_i fd hf
      split at hv
      · rename_i r m hk; cases hv; exact fieldAddr_ok hr hw ho ht hy hf hk e
      · cases hv
    · cases hv
  · cases hv
theorem ia_ok (hr : Reg ρ nt g a) (hw : W P w0 ρ h w) {t : TypeId} {y z : Operand} (ho : o.op = .indexAddr t y z) {v : Value} (hv : iaP P t (evA g y) (natV (evA g z)) = some v) (e : (HM.pure v).run n h = some x) : effAt P o a w (Post P w0 ρ x) := by
  unfold iaP at hv
  split at hv
  · rename_i m et b off i ht hy hz
    split at hv
    · rename_i r size hk hi; rw [Nat.blt_eq] at hi; cases hv; exact indexArr_ok hr hw ho ht hy hz hk hi e
    · cases hv
  · rename_i et b off sp m c i ht hy hz
    split at hv
    · rename_i r size hk hi; rw [Nat.blt_eq] at hi; cases hv; exact indexSl_ok hr hw ho ht hy hz hk hi e
    · cases hv
  · cases hv
theorem mv_ok (hr : Reg ρ nt g a) (hw : W P w0 ρ h w) {y : Operand} (ho : o.op = .move y ∨ o.op = .assign y) {v : Value} (hv : evA g y = some v) (e : (HM.pure v).run n h = some x) : effAt P o a w (Post P w0 ρ x) :=
  move_ok hr hw ho (by rw [hv]; exact e)
theorem pk_ok (hr : Reg ρ nt g a) (hw : W P w0 ρ h w) {c y z : Operand} (ho : o.op = .pick c y z) {v : Value} (hv : pickP (evA g c) (evA g y) (evA g z) = some v) (e : (HM.pure v).run n h = some x) : effAt P o a w (Post P w0 ρ x) := by
  unfold pickP at hv
  split at hv
  · rename_i hc; exact pick_ok hr hw ho (b := true) hc (by rw [if_pos rfl, hv]; exact e)
  · rename_i hc; exact pick_ok hr hw ho (b := false) hc (by rw [if_neg (by simp), hv]; exact e)
  · cases hv
theorem pureR_ok (hr : Reg ρ nt g a) (hw : W P w0 ρ h w) {v : Value} (hv : pureR P (evA g) o.op = some v) (e : (HM.pure v).run n h = some x) : effAt P o a w (Post P w0 ρ x) := by
  unfold pureR at hv
  split at hv
  · rename_i y ho; exact mv_ok hr hw (.inl ho) hv e
  · rename_i y ho; exact mv_ok hr hw (.inr ho) hv e
  · rename_i c y z ho; exact pk_ok hr hw ho hv e
  · rename_i op t y z yt ho; exact bin_ok hr hw ho hv e
  · rename_i op t y ho; exact un_ok hr hw ho hv e
  · rename_i s d y ho; exact convI_ok hr hw ho hv e
  · rename_i t y f ho; exact fa_ok hr hw ho hv e
  · rename_i t y z ho; exact ia_ok hr hw ho hv e
  · rename_i t y f ho
    unfold fieldP at hv
    split at hv
    · rename_i fs cs ht hy
      split at hv
      · rename_i fd hf; exact field_ok hr hw ho ht hy hf (by rw [hv]; exact e)
      · cases hv
    · cases hv
  · rename_i t y z ho
    unfold indexP at hv
    split at hv
    · rename_i m et cs i ht hy hz
      split at hv
      · rename_i r size hk hi; rw [Nat.blt_eq] at hi; exact index_ok hr hw ho ht hy hz hk hi (by rw [hv]; exact e)
      · cases hv
    · cases hv
  · rename_i y i ho
    unfold extractP at hv
    split at hv
    · rename_i vs hy; exact extract_ok hr hw ho hy (by rw [hv]; exact e)
    · cases hv
  · rename_i t y ho
    unfold ifaceP at hv
    split at hv
    · cases hv
    · rename_i d u hd ht hy; cases hv; exact iface_ok hr hw ho ht (fun m h => hd m h) hy e
    · cases hv
  · rename_i y xt t ok ho
    unfold assertP at hv
    split at hv
    · cases hv
    · rename_i d u v hd ht hy
      split at hv
      · rename_i hu
        obtain rfl := Nat.eq_of_beq_eq_true hu
        cases hv
        exact assert_ok hr hw ho ht (fun m h => hd m h) hy e
      · rename_i hu
        split at hv
        · rename_i i hi
          split at hv
          · rename_i z hz
            split at hv
            · rename_i hc
              cases hv
              exact assertN_ok hr hw ho ht (fun m h => hd m h) hy (Nat.ne_of_beq_eq_false hu) hi hz hc e
            · cases hv
          · cases hv
        · cases hv
    · cases hv
  · rename_i f fi cp ho
    unfold funcP at hv
    split at hv
    · rename_i f b c h1 h2; cases hv; exact func_ok hr hw ho h1 h2 e
    · cases hv
  · rename_i y ho
    unfold nilP at hv
    split at hv
    · cases hv
    · cases hv
    · cases hv
    · rename_i f c d hy
      cases hv
      exact nilCheck_ok hr hw ho hy (by simp) (by simp) (by simp) (fun f c d h => by cases h; exact ⟨_, rfl⟩) (by simp) e
    · cases hv
    · cases hv
    · rename_i u h1 h2 h3 h4 h5 h6 hy
      cases hv
      exact nilCheck_ok hr hw ho hy (fun h => h1 h) (fun h => h2 h) (fun h => h3 h) (fun f c d h => (h5 f c d h).elim) (fun i h => h6 i h) e
    · cases hv
  · rename_i t parts ho; exact build_ok hr hw ho (by rw [hv]; exact e)
  · rename_i c ho; exact len_ok hr hw ho hv e
  · cases hv
theorem pureO_ok (hr : Reg ρ nt g a) (hw : W P w0 ρ h w) {v : Value} (hv : pureO P (evA g) o.op = some v) (e : (HM.pure v).run n h = some x) : effAt P o a w (Post P w0 ρ x) := by
  have hs := okOf_spec o.op
  unfold pureO at hv
  split at hv <;> rename_i hok <;> rw [hok] at hs <;> simp only at hs
  · exact mv_ok hr hw hs hv e
  · exact pk_ok hr hw hs hv e
  · obtain ⟨t, yt, ho⟩ := hs; exact bin_ok hr hw ho hv e
  · exact fa_ok hr hw hs hv e
  · exact ia_ok hr hw hs hv e
  · cases hv
  · exact pureR_ok hr hw hv e

theorem opM_ok {call : FuncId → List Value → HM Value} (hC : CallOk P w0 call) (hr : Reg ρ nt g a) (hw : W P w0 ρ h w) (e : (opM P call (evA g) o).run n h = some x) : effAt P o a w (Post P w0 ρ x) := by
  unfold opM at e
  split at e
  · rename_i t ho
    unfold allocA at e
    split at e
    · rename_i hz; exact alloc_ok hw ho hz e
    · rw [HM.fail_iff] at e; cases e
  · rename_i t y ho
    unfold boxA at e
    split at e
    · rename_i v hv; exact box_ok hr hw ho hv e
    · rw [HM.fail_iff] at e; cases e
  · rename_i t y ho; exact load_ok hr hw ho e
  · rename_i t y z ho
    unfold storeA at e
    split at e
    · rename_i b off v r m hy hz hk
      split at e
      · rename_i hl; exact store_ok hr hw ho hy hz hk (Nat.eq_of_beq_eq_true hl) e
      · rw [HM.fail_iff] at e; cases e
    · rw [HM.fail_iff] at e; cases e
  · rename_i op t y z yt ho
    unfold binA at e
    split at e
    · exact eq_ok (neg := false) hr hw ho e
    · exact eq_ok (neg := true) hr hw ho e
    · exact clo_ok hr hw (fun cs b => by rw [ho]; simp) e
  · rename_i ho; exact clo_ok hr hw (fun cs b => by rw [ho]; simp) e
  · rename_i s d y ho; exact conv_ok hr hw ho e
  · rename_i ho; exact clo_ok hr hw (fun cs b => by rw [ho]; simp) e
  · rename_i t y z ho
    unfold globA at e
    split at e
    · rename_i k
      split at e
      · rename_i m et i ht hz
        split at e
        · rename_i r size hk hi
          rw [Nat.blt_eq] at hi
          rw [HM.bind_iff] at e
          obtain ⟨z1, e1, x2, e2, rfl⟩ := e
          have := HM.pure_iff.1 e2
          subst this
          obtain ⟨e3, e4⟩ := getG_inv e1
          obtain ⟨q, q1, q2, _⟩ := hw.obj _ _ e4
          obtain ⟨kd, k3⟩ := ev_nat hr hz
          obtain ⟨d, ii, t1, t2, t3, t4⟩ := tk_spec hk
          have hg := G.ptr (ρ := ρ) (off := i * size) q1
          rw [q2] at hg
          refine effAt_value (v := .pointer (some ⟨k, i * size, none⟩)) (w' := w) ?_ ⟨ρ, Pm.le_refl _, by rw [e3]; exact hw, by unfold ptr; simpa using hg⟩
          have hx : a.eval (.global k) = .pointer (some ⟨k, 0, none⟩) := rfl
          unfold execOp
          simp [ho, k3, hx, Instr.indexAt, asIntOf, run_underlying ht, Instr.sureAddr, sizeOf, typeInfo, t2, t3, hi, Addr.add_mid]
        · rw [HM.fail_iff] at e; cases e
      · rw [HM.fail_iff] at e; cases e
    · rw [HM.fail_iff] at e; cases e
  · rename_i t y lo hi mx ho; exact slice_ok hr hw ho e
  · rename_i t r ho
    unfold makeMapA at e
    split at e
    · rename_i kt et ht hn
      refine makeMap_ok hr hw ho ht (fun y hy => ?_) e
      subst hy
      unfold intO at hn
      simp only at hn
      split at hn
      · rename_i k i hy; exact ⟨k, i, hy⟩
      · cases hn
    · rw [HM.fail_iff] at e; cases e
  · rename_i t y z ho
    unfold makeSliceA at e
    split at e
    · rename_i et l c ht hy hz
      split at e
      · rename_i zl i hzl hi
        split at e
        · rename_i hb
          simp only [Bool.and_eq_true, Nat.ble_eq] at hb
          exact makeSlice_ok hr hw ho ht hy hz hzl hi hb.1.1.1 hb.1.1.2 hb.1.2 (Nat.eq_of_beq_eq_true hb.2) e
        · rw [HM.fail_iff] at e; cases e
      · rw [HM.fail_iff] at e; cases e
    · rw [HM.fail_iff] at e; cases e
  · rename_i t len parts ho
    unfold buildSliceA at e
    split at e
    · rename_i et ht
      split at e
      · rename_i z i hz hi
        split at e
        · rename_i c hb hc
          simp only [Bool.and_eq_true, Nat.ble_eq] at hb
          exact buildSlice_ok hr hw ho ht hz hi hb.1 (Nat.eq_of_beq_eq_true hb.2) hc e
        · rw [HM.fail_iff] at e; cases e
      · rw [HM.fail_iff] at e; cases e
    · rw [HM.fail_iff] at e; cases e
  · rename_i t m k ok ho
    unfold lookupO at e
    split at e
    · rename_i m' k' hm hk
      obtain ⟨v', h1, h2⟩ := lookup_run hw (hr.ev hm) (hr.ev hk) e
      exact eff_v (s := Instr.lookup t (a.eval m) (a.eval k) ok) (by unfold execOp; simp only [ho]) h1 h2
    · rw [HM.fail_iff] at e; cases e
  · rename_i t m k y ho
    unfold updateO at e
    split at e
    · rename_i m' k' y' hm hk hy
      obtain ⟨w2, h1, h2⟩ := update_run hw (hr.ev hm) (hr.ev hk) (hr.ev hy) e
      exact eff_u (s := Instr.mapUpdate t (a.eval m) (a.eval k) (a.eval y)) (by unfold execOp; simp only [ho]) h1 h2
    · rw [HM.fail_iff] at e; cases e
  · rename_i t y ho; exact range_ok hr hw ho e
  · rename_i y str ho; exact next_ok hr hw ho e
  · rename_i c ho
    unfold callO at e
    split at e
    · rename_i y hc
      split at e
      · rename_i f fi cp args hy ha; exact call_ok hC hr hw ho hc hy ha e
      · rw [HM.fail_iff] at e; cases e
    · rename_i b hc; exact builtin_ok hr hw ho hc e
    · rw [HM.fail_iff] at e; cases e
  · rw [HM.fail_iff] at e; cases e
theorem opV_ok {call : FuncId → List Value → HM Value} (hC : CallOk P w0 call) (hr : Reg ρ nt g a) (hw : W P w0 ρ h w) (e : (opV P call (evA g) o).run n h = some x) : effAt P o a w (Post P w0 ρ x) := by
  unfold opV at e
  split at e
  · rename_i v hv; exact pureO_ok hr hw hv e
  · exact opM_ok hC hr hw e
end
end Cl
end Go.Proofs.YtcodjodhacjfeaaGreatDoor
end

/-! Regions of operations: in the order of the text, and in whatever order. -/
section
namespace Go.Proofs.YtcodjodhacjfeaaGreatDoor
open Go.RowKit
namespace Cl

section
variable {P : Program} {w0 : Bs} {w w' : World} {ρ : Pm} {nt : Nat} {g : Regs} {a : Act} {h : H} {n : Nat} {o : Oper} {x : Res Value} {v' : Value} {post : Value → World → Prop}
variable {call : FuncId → List Value → HM Value} {ops : Array Oper} {Q : Exit → Act → World → Prop}

theorem want_ok (hr : Reg ρ nt g a) {b : Bool} (e : wantA ops.toList g o = some b) : Region.wanted o (yielded ops a.tmps) = b := by
  unfold wantA at e
  unfold Region.wanted
  cases hg : o.guard with
  | none => simp only [hg] at e; cases e; rfl
  | some jw =>
    obtain ⟨j, want⟩ := jw
    simp only [hg] at e ⊢
    rw [Array.getElem?_toList] at e
    cases hj : ops[j]? with
    | none => simp only [hj] at e; cases e; simp [yielded, hj]
    | some oj =>
      simp only [hj] at e
      cases hd : oj.dst with
      | none => simp only [hd] at e; cases e; simp [yielded, hj, hd]
      | some d =>
        simp only [hd] at e
        cases hv : rget g d with
        | none => simp only [hv] at e; cases e
        | some v =>
          obtain ⟨v', e1, e2⟩ := hr.tmp d v hv
          simp only [hv] at e
          split at e <;> first | (cases e; done) | skip
          · rename_i hb; cases hb; cases e; rw [e2.bool_eq] at e1; simp [yielded, hj, hd, e1]
          · rename_i hb; cases hb; cases e; rw [e2.bool_eq] at e1; simp [yielded, hj, hd, e1]
          · rename_i vs hb; cases hb; cases e; obtain ⟨c', rfl, _⟩ := e2.tuple_inv; simp [yielded, hj, hd, e1]

theorem step_wp (hC : CallOk P w0 call) (hr : Reg ρ nt g a) (hw : W P w0 ρ h w) (e : (stepV P call ops.toList g o).run n h = some x) {K : Act → World → Prop} (hK : ∀ v' w', Post P w0 ρ x v' w' → K (a.put o.dst v') w') :
    if Region.wanted o (yielded ops a.tmps) then o.wp P a w K Q ∨ (o.asks P a w ∧ LetsOut Q) else K (a.put o.dst undef) w := by
  unfold stepV at e
  split at e
  · rename_i hwant
    rw [want_ok hr hwant, if_pos rfl]
    exact .inl (effUpon_wp hK (opV_ok hC hr hw e))
  · rename_i hwant
    rw [want_ok hr hwant, if_neg (by simp)]
    rw [HM.pure_iff] at e
    subst e
    exact hK undef w (post_same hw (G.of_closed 1 _ rfl))
  · rw [HM.fail_iff] at e; cases e

theorem goT_ok (hC : CallOk P w0 call) : ∀ (rest : List Oper) (g : Regs) (n : Nat) (h : H) (y : Res Regs) (ρ : Pm) (a : Act) (w : World), Reg ρ nt g a → W P w0 ρ h w → (goT P call nt ops.toList rest g).run n h = some y →
    (∀ ρ' a' w', ρ.le ρ' → Reg ρ' nt y.a a' → W P w0 ρ' y.h w' → Q .normal a' w') → wpList P ops Q rest a w
  | [], g, n, h, y, ρ, a, w, hr, hw, e, hQ => by
    have := HM.pure_iff.1 e
    subst this
    exact hQ ρ a w (Pm.le_refl _) hr hw
  | o :: rest, g, n, h, y, ρ, a, w, hr, hw, e, hQ => by
    have ih := goT_ok hC rest
    have e' : (goT1 P call nt ops.toList o (goT P call nt ops.toList rest) g).run n h = some y := e
    unfold goT1 at e'
    unfold wpList
    split at e'
    · rename_i hwant
      rw [want_ok hr hwant, if_pos rfl]
      refine .inl ?_
      split at e'
      · rename_i v hv
        split at e'
        · rename_i g' hg'
          have e1 : (HM.pure v).run n h = some (⟨v, n, h, 0, 0⟩ : Res Value) := rfl
          exact effUpon_wp (fun v' w' ⟨ρ', l1, l2, l3⟩ => ih g' _ _ y ρ' _ w' ((hr.mono l1).put hg' l3) l2 e' fun ρ'' a' w'' l4 => hQ ρ'' a' w'' (Pm.le_trans l1 l4)) (pureO_ok hr hw hv e1)
        · rw [HM.fail_iff] at e'; cases e'
      · rw [HM.bind_iff] at e'
        obtain ⟨x, e1, y1, e2, rfl⟩ := e'
        rw [HM.bind_iff] at e2
        obtain ⟨_, e3, y2, e4, rfl⟩ := e2
        obtain ⟨g', e5, rfl⟩ := HM.opt_iff.1 e3
        exact effUpon_wp (fun v' w' ⟨ρ', l1, l2, l3⟩ => ih g' _ _ y2 ρ' _ w' ((hr.mono l1).put e5 l3) l2 e4 fun ρ'' a' w'' l4 => hQ ρ'' a' w'' (Pm.le_trans l1 l4)) (opM_ok hC hr hw e1)
    · rename_i hwant
      rw [want_ok hr hwant, if_neg (by simp)]
      split at e'
      · rename_i g' hg'
        exact ih g' _ _ y ρ _ w (hr.put hg' (G.of_closed 1 _ rfl)) hw e' hQ
      · rw [HM.fail_iff] at e'; cases e'
    · rw [HM.fail_iff] at e'; cases e'

/-! whatever order -/
theorem cloV_congr {ev ev' : Operand → Option Value} (hs : ∀ cs b, o.op ≠ .select cs b) (he : ∀ x ∈ o.op.operands, ev x = ev' x) : cloV P ev o = cloV P ev' o := by
  unfold cloV
  have h1 : (o.op.operands.toList.all fun x => cloB (ev x)) = (o.op.operands.toList.all fun x => cloB (ev' x)) := by
    rw [Bool.eq_iff_iff, List.all_eq_true, List.all_eq_true]
    constructor
    · intro k y hy; rw [← he y (by simpa using hy)]; exact k y hy
    · intro k y hy; rw [he y (by simpa using hy)]; exact k y hy
  have h2 : execOp (fun x => (ev x).getD undef) o = execOp (fun x => (ev' x).getD undef) o := execOp_congr o hs fun y hy => by rw [he y hy]
  rw [h1, h2]
theorem allSome_congr {ev ev' : Operand → Option Value} {l : List Operand} (he : ∀ x ∈ l, ev x = ev' x) : l.map ev = l.map ev' := List.map_congr_left he
theorem pureR_congr {ev ev' : Operand → Option Value} (he : ∀ x ∈ o.op.operands, ev x = ev' x) : pureR P ev o.op = pureR P ev' o.op := by
  obtain ⟨dst, op, type, pos, after, guard⟩ := o
  cases op <;> simp only [Op.operands] at he <;> simp only [pureR]
  case move y => rw [he y (by simp)]
  case assign y => rw [he y (by simp)]
  case pick c y z => rw [he c (by simp), he y (by simp), he z (by simp)]
  case binOp op t y z yt => rw [he y (by simp), he z (by simp)]
  case unOp op t y => rw [he y (by simp)]
  case convert s d y => rw [he y (by simp)]
  case build t ps =>
    have : (ps.toList.map fun p => (p.1, ev p.2)) = ps.toList.map fun p => (p.1, ev' p.2) := List.map_congr_left fun p hp => by rw [he p.2 (by simp; exact ⟨p.1, by simpa using hp⟩)]
    unfold buildA
    rw [this]
  case makeInterface t y => rw [he y (by simp)]
  case field t y f => rw [he y (by simp)]
  case index t y z => rw [he y (by simp), he z (by simp)]
  case extract y i => rw [he y (by simp)]
  case typeAssert y xt t ok => rw [he y (by simp)]
  case makeFunc f fi cp =>
    rw [allSome_congr (l := fi.toList) fun y hy => he y (by simp at hy; simp [hy]), allSome_congr (l := cp.toList) fun y hy => he y (by simp at hy; simp [hy])]
  case fieldAddr t y f => rw [he y (by simp)]
  case indexAddr t y z => rw [he y (by simp), he z (by simp)]
  case nilCheck y => rw [he y (by simp)]
  case call c =>
    unfold pureC
    cases hc : c.callee with
    | builtin b =>
      simp only [Call.operands, hc] at he ⊢
      have he' : ∀ y ∈ c.args.toList, ev y = ev' y := fun y hy => he y (by simp at hy; simp [hy])
      generalize c.args.toList = args at he'
      generalize c.argTypes.toList = ts
      unfold lenP
      split
      · rw [he' _ (List.mem_cons_self ..)]
      · rfl
    | _ => rfl
theorem pureO_congr {ev ev' : Operand → Option Value} (he : ∀ x ∈ o.op.operands, ev x = ev' x) : pureO P ev o.op = pureO P ev' o.op := by
  have hR := pureR_congr (P := P) he
  have hs := okOf_spec o.op
  unfold pureO
  split <;> rename_i hok <;> rw [hok] at hs <;> simp only at hs
  · rcases hs with hs | hs <;> rw [hs] at he <;> exact he _ (by simp [Op.operands])
  · rw [hs] at he; rw [he _ (by simp [Op.operands]), he _ (by simp [Op.operands]), he _ (by simp [Op.operands])]
  · obtain ⟨t, yt, ho⟩ := hs
    rw [ho] at he; rw [he _ (by simp [Op.operands]), he _ (by simp [Op.operands])]
  · rw [hs] at he; rw [he _ (by simp [Op.operands])]
  · rw [hs] at he; rw [he _ (by simp [Op.operands]), he _ (by simp [Op.operands])]
  · exact hR
theorem opM_congr {ev ev' : Operand → Option Value} (he : ∀ x ∈ o.op.operands, ev x = ev' x) : opM P call ev o = opM P call ev' o := by
  have hclo : (∀ cs b, o.op ≠ .select cs b) → cloV P ev o = cloV P ev' o := fun hs => cloV_congr hs he
  obtain ⟨dst, op, type, pos, after, guard⟩ := o
  cases op <;> simp only [Op.operands] at he <;> simp only [opM]
  case box t y => rw [he y (by simp)]
  case load t y =>
    unfold loadO
    cases y with
    | global k => rfl
    | _ => simp only; rw [he _ (by simp)]
  case store t y z => rw [he y (by simp), he z (by simp)]
  case binOp op t y z yt =>
    unfold binA eqOp
    rw [he y (by simp), he z (by simp), hclo (by simp)]
  case unOp => exact hclo (by simp)
  case convert s d y => unfold convA; rw [he y (by simp), hclo (by simp)]
  case index => exact hclo (by simp)
  case indexAddr t y z => rw [he z (by simp)]
  case buildSlice t len ps =>
    have : (ps.toList.map fun p => (p.1, ev p.2)) = ps.toList.map fun p => (p.1, ev' p.2) := List.map_congr_left fun p hp => by rw [he p.2 (by simp; exact ⟨p.1, by simpa using hp⟩)]
    unfold buildSliceA
    rw [this]
  case slice t y lo hi mx =>
    unfold sliceOp
    have b1 : boundA ev lo = boundA ev' lo := by cases lo <;> simp only [boundA]; rw [he _ (by simp)]
    have b2 : boundA ev hi = boundA ev' hi := by cases hi <;> simp only [boundA]; rw [he _ (by simp)]
    have b3 : boundA ev mx = boundA ev' mx := by cases mx <;> simp only [boundA]; rw [he _ (by simp)]
    rw [he y (by simp), b1, b2, b3, hclo (by simp)]
  case makeMap t r =>
    have : intO ev r = intO ev' r := by cases r <;> simp only [intO]; rw [he _ (by simp)]
    rw [this]
  case makeSlice t y z => rw [he y (by simp), he z (by simp)]
  case lookup t y z ok => rw [he y (by simp), he z (by simp)]
  case mapUpdate t y z u => rw [he y (by simp), he z (by simp), he u (by simp)]
  case range t y => rw [he y (by simp)]
  case next y b => rw [he y (by simp)]
  case call c =>
    unfold callO
    cases hc : c.callee with
    | value f =>
      simp only [Call.operands, hc] at he ⊢
      rw [he f (by simp), allSome_congr (l := c.args.toList) fun y hy => he y (by simp at hy; simp [hy])]
    | invoke r m => rfl
    | builtin b =>
      simp only [Call.operands, hc] at he ⊢
      have he' : ∀ y ∈ c.args.toList, ev y = ev' y := fun y hy => he y (by simp at hy; simp [hy])
      have hc' := hclo (by simp)
      generalize c.args.toList = args at he'
      generalize c.argTypes.toList = ts
      unfold builtinA
      rw [hc']
      split <;> (try simp only [List.mem_cons, List.not_mem_nil, or_false, forall_eq_or_imp, forall_eq] at he') <;> first | rfl | simp only [he'.1, he'.2] | simp only [he'] | skip
theorem opV_congr {ev ev' : Operand → Option Value} (he : ∀ x ∈ o.op.operands, ev x = ev' x) : opV P call ev o = opV P call ev' o := by
  unfold opV
  rw [pureO_congr he, opM_congr he]

theorem wantA_congr {g g' : Regs} (hg : ∀ t ∈ o.looksAt ops, rget g' t = rget g t) : wantA ops.toList g' o = wantA ops.toList g o := by
  unfold wantA
  cases hgd : o.guard with
  | none => rfl
  | some jw =>
    obtain ⟨j, want⟩ := jw
    simp only
    cases hj : ops.toList[j]? with
    | none => rfl
    | some oj =>
      simp only
      cases hd : oj.dst with
      | none => rfl
      | some d =>
        simp only
        rw [hg d (by rw [Array.getElem?_toList] at hj; simp [Oper.looksAt, hgd, hj, hd])]
theorem stepV_congr {g g' : Regs} (hg : ∀ t ∈ o.looksAt ops, rget g' t = rget g t) : stepV P call ops.toList g' o = stepV P call ops.toList g o := by
  unfold stepV
  rw [wantA_congr hg]
  have : opV P call (evA g') o = opV P call (evA g) o := opV_congr fun y hy => by
    cases y with
    | tmp t => exact hg t (by unfold Oper.looksAt; exact List.mem_append_left _ (List.mem_filterMap.2 ⟨.tmp t, by simpa using hy, rfl⟩))
    | _ => rfl
  rw [this]
theorem rput_other {g g' : Regs} {d : Option Tmp} {v : Value} (e : rput nt g d v = some g') {t : Nat} (ht : ∀ s, d = some s → t ≠ s) : rget g' t = rget g t := by
  rcases rput_iff e with ⟨rfl, rfl⟩ | ⟨s, rfl, _, h2⟩
  · rfl
  · rw [h2, if_neg (ht s rfl)]
theorem rput_any {g g' : Regs} {d : Option Tmp} {v : Value} (e : rput nt g d v = some g') (g2 : Regs) : ∃ g2', rput nt g2 d v = some g2' := by
  unfold rput at e ⊢
  cases d with
  | none => exact ⟨_, rfl⟩
  | some t =>
    simp only at e ⊢
    split at e
    · exact ⟨_, fV_eq _ _⟩
    · cases e
theorem rput_same {g g' g2 g2' : Regs} {d : Option Tmp} {v : Value} (e : rput nt g d v = some g') (e2 : rput nt g2 d v = some g2') {t : Nat} (ht : (∃ s, d = some s ∧ t = s) ∨ rget g2 t = rget g t) : rget g2' t = rget g' t := by
  rcases rput_iff e with ⟨rfl, rfl⟩ | ⟨s, rfl, _, h2⟩
  · rcases rput_iff e2 with ⟨_, rfl⟩ | ⟨s, h, _⟩
    · rcases ht with ⟨s, h, _⟩ | h
      · cases h
      · exact h
    · cases h
  · rcases rput_iff e2 with ⟨h, _⟩ | ⟨s', h, _, h3⟩
    · cases h
    · cases h
      rw [h2, h3]
      split
      · rfl
      · rename_i hne
        rcases ht with ⟨_, h, rfl⟩ | h
        · cases h; exact absurd rfl hne
        · exact h

abbrev Ent := Nat × Oper × Foot
/-- operations that do what they did, one behind the other, and end so -/
def Runs (P : Program) (call : FuncId → List Value → HM Value) (nt : Nat) (ops : Array Oper) (gF : Regs) (hF : H) : List Ent → Regs → H → Prop
  | [], g, h => (∀ t, rget g t = rget gF t) ∧ ∀ i, hget h i = hget hF i
  | (_, o, y) :: L, g, h => ∃ h' g', (stepV P call ops.toList g o).run y.n h = some ⟨y.v, y.n', h', y.r, y.w⟩ ∧ rput nt g o.dst y.v = some g' ∧ Runs P call nt ops gF hF L g' h'
variable {gF : Regs} {hF : H}
theorem Runs.congr : ∀ {L : List Ent} {g g2 : Regs} {h h2 : H}, (∀ t, rget g2 t = rget g t) → (∀ i, hget h2 i = hget h i) → Runs P call nt ops gF hF L g h → Runs P call nt ops gF hF L g2 h2
  | [], g, g2, h, h2, hg, hh, ⟨k1, k2⟩ => ⟨fun t => (hg t).trans (k1 t), fun i => (hh i).trans (k2 i)⟩
  | (j, o, y) :: L, g, g2, h, h2, hg, hh, ⟨h', g', k1, k2, k3⟩ => by
    have hs : stepV P call ops.toList g2 o = stepV P call ops.toList g o := stepV_congr fun t _ => hg t
    obtain ⟨f1, f2⟩ := (stepV P call ops.toList g o).ok _ _ _ k1
    obtain ⟨h2', e1, e2⟩ := f2 h2 fun i _ => hh i
    have f3 := ((stepV P call ops.toList g o).ok _ _ _ e1).1
    obtain ⟨g2', e3⟩ := rput_any k2 g2
    refine ⟨h2', g2', by rw [hs]; exact e1, e3, Runs.congr (fun t => rput_same k2 e3 (.inr (hg t))) (fun i => ?_) k3⟩
    cases hw : y.w.testBit i with
    | true => exact e2 i hw
    | false => rw [f3 i hw, f1 i hw, hh i]
theorem apartM_eq (a b : Foot) : apartM a b = (Nat.beq (a.w &&& (b.r ||| b.w)) 0 && Nat.beq (a.r &&& b.w) 0) := by
  unfold apartM
  show (match Nat.beq (a.w &&& (b.r ||| b.w)) 0 with | true => Nat.beq (a.r &&& b.w) 0 | false => false) = _
  cases Nat.beq (a.w &&& (b.r ||| b.w)) 0 <;> rfl
theorem apartM_spec {a b : Foot} (e : apartM a b = true) (i : Nat) : (a.w.testBit i = true → b.r.testBit i = false ∧ b.w.testBit i = false) ∧ (a.r.testBit i = true → b.w.testBit i = false) := by
  rw [apartM_eq, Bool.and_eq_true] at e
  have h1 := Nat.eq_of_beq_eq_true e.1
  have h2 := Nat.eq_of_beq_eq_true e.2
  have h3 : (a.w &&& (b.r ||| b.w)).testBit i = false := by rw [h1]; exact Nat.zero_testBit i
  have h4 : (a.r &&& b.w).testBit i = false := by rw [h2]; exact Nat.zero_testBit i
  simp only [Nat.testBit_and, Nat.testBit_or] at h3 h4
  refine ⟨fun k => ?_, fun k => ?_⟩
  · rw [k] at h3; simpa using h3
  · rw [k] at h4; simpa using h4
/-- two that are apart change places -/
theorem Runs.swap {p q : Ent} {L : List Ent} {g : Regs} {h : H} (hap : apartM p.2.2 q.2.2 = true) (hop : p.2.1.apart ops q.2.1 = true) (k : Runs P call nt ops gF hF (p :: q :: L) g h) : Runs P call nt ops gF hF (q :: p :: L) g h := by
  obtain ⟨jp, op, yp⟩ := p
  obtain ⟨jq, oq, yq⟩ := q
  simp only at hap hop
  obtain ⟨h1, g1, k1, k2, h2, g2, k3, k4, k5⟩ := k
  obtain ⟨p1, p2, p3⟩ := Oper.apart_spec hop
  have hs1 : stepV P call ops.toList g1 oq = stepV P call ops.toList g oq := stepV_congr fun t ht => rput_other k2 fun s hs e => p1 s hs (e ▸ ht)
  rw [hs1] at k3
  obtain ⟨f1, f2⟩ := (stepV P call ops.toList g op).ok _ _ _ k1
  obtain ⟨f3, f4⟩ := (stepV P call ops.toList g oq).ok _ _ _ k3
  simp only at f1 f2 f3 f4
  -- q at once
  obtain ⟨h1', e1, e2⟩ := f4 h fun i hi => by
    refine (f1 i ?_).symm
    cases hw : yp.w.testBit i with
    | false => rfl
    | true =>
      obtain ⟨z1, z2⟩ := (apartM_spec hap i).1 hw
      rw [z1, z2] at hi; cases hi
  have f5 := ((stepV P call ops.toList g oq).ok _ _ _ e1).1
  simp only at f5
  -- p behind it
  obtain ⟨h2', e3, e4⟩ := f2 h1' fun i hi => by
    refine f5 i ?_
    cases hw : yq.w.testBit i with
    | false => rfl
    | true =>
      obtain ⟨z1, z2⟩ := apartM_spec hap i
      rcases Bool.or_eq_true_iff.1 hi with hr | hr
      · rw [z2 hr] at hw; cases hw
      · rw [(z1 hr).2] at hw; cases hw
  have f6 := ((stepV P call ops.toList g op).ok _ _ _ e3).1
  simp only at f6
  obtain ⟨g1', e5⟩ := rput_any k4 g
  have hs2 : stepV P call ops.toList g1' op = stepV P call ops.toList g op := stepV_congr fun t ht => rput_other e5 fun s hs e => p3 s hs (e ▸ ht)
  obtain ⟨g2', e6⟩ := rput_any k2 g1'
  refine ⟨h1', g1', e1, e5, h2', g2', by rw [hs2]; exact e3, e6, Runs.congr (fun t => ?_) (fun i => ?_) k5⟩
  · by_cases hq : oq.dst = some t
    · have hpne : ∀ s, op.dst = some s → t ≠ s := fun s hs e => p2 s hs (e ▸ hq)
      rw [rput_other e6 hpne]
      exact rput_same k4 e5 (.inl ⟨t, hq, rfl⟩)
    · have hq' : ∀ s, oq.dst = some s → t ≠ s := fun s hs e => hq (e ▸ hs)
      rw [rput_other k4 hq']
      exact rput_same k2 e6 (.inr (rput_other e5 hq'))
  · cases hwp : yp.w.testBit i with
    | true =>
      rw [e4 i hwp]
      refine (f3 i ?_).symm
      exact ((apartM_spec hap i).1 hwp).2
    | false =>
      rw [f6 i hwp]
      cases hwq : yq.w.testBit i with
      | true => exact e2 i hwq
      | false => rw [f5 i hwq, f3 i hwq, f1 i hwp]
theorem Runs.front : ∀ {L1 : List Ent} {q : Ent} {L2 : List Ent} {g : Regs} {h : H}, (∀ p ∈ L1, apartM p.2.2 q.2.2 = true ∧ p.2.1.apart ops q.2.1 = true) → Runs P call nt ops gF hF (L1 ++ q :: L2) g h → Runs P call nt ops gF hF (q :: (L1 ++ L2)) g h
  | [], q, L2, g, h, _, k => k
  | p :: L1, q, L2, g, h, hap, k => by
    obtain ⟨h1, g1, k1, k2, k3⟩ := k
    have := Runs.front (fun p hp => hap p (List.mem_cons_of_mem _ hp)) k3
    exact Runs.swap (hap p (List.mem_cons_self ..)).1 (hap p (List.mem_cons_self ..)).2 ⟨h1, g1, k1, k2, this⟩

theorem waits_listed {listed : Array Bool} (hcl : Closed .any ops listed) : ∀ (f j i : Nat), waitsA ops.toList f j i = true → (listed.getD j false = true ∨ j ∈ Region.ready .any ops listed) → listed.getD i false = true
  | 0, j, i, hw, _ => by simp [waitsA] at hw
  | f + 1, j, i, hw, hj => by
    unfold waitsA at hw
    split at hw
    · rename_i o ho
      rw [Array.getElem?_toList] at ho
      rw [List.any_eq_true] at hw
      obtain ⟨e, he, h2⟩ := hw
      rw [Bool.and_eq_true, Bool.or_eq_true] at h2
      obtain ⟨hb, h2⟩ := h2
      have h1 : listed.getD e.on false = true := by
        rcases hj with hj | hj
        · exact hcl j o hj ho e (by simpa using he) hb
        · obtain ⟨_, o', ho', hall⟩ := mem_ready.1 hj
          rw [ho] at ho'
          cases ho'
          exact hall e (by simpa using he) hb
      rcases h2 with h2 | h2
      · rw [← Nat.eq_of_beq_eq_true h2]; exact h1
      · exact waits_listed hcl f e.on i h2 (.inl h1)
    · cases hw

/-- is the later one apart from the earlier one, or does it wait for it -/
def FreeE (ops : Array Oper) (p q : Ent) : Prop := (apartM p.2.2 q.2.2 = true ∧ p.2.1.apart ops q.2.1 = true) ∨ waitsA ops.toList 4 q.1 p.1 = true
theorem any_ok (hC : CallOk P w0 call) {ρ0 : Pm} (hQ : ∀ ρ' a' w', ρ0.le ρ' → Reg ρ' nt gF a' → W P w0 ρ' hF w' → Q .normal a' w') : ∀ (m : Nat) (L : List Ent) (listed : Array Bool) (g : Regs) (h : H) (ρ : Pm) (a : Act) (w : World), L.length = m → listed.size = ops.size →
    (∀ q ∈ L, ops[q.1]? = some q.2.1) → (∀ q ∈ L, ∀ e ∈ q.2.1.after, Region.binds .any e = true → e.on < q.1) → L.Pairwise (fun p q => p.1 < q.1 ∧ FreeE ops p q) → (∀ j, j < ops.size → (listed.getD j true = false ↔ ∃ q ∈ L, q.1 = j)) → Closed .any ops listed →
    ρ0.le ρ → Reg ρ nt g a → W P w0 ρ h w → Runs P call nt ops gF hF L g h → wpAny P .any ops Q m listed a w := by
  intro m
  induction m with
  | zero =>
    intro L listed g h ρ a w hlen hsz hop hback hpw hun hcl hle hr hw hruns
    obtain rfl := List.length_eq_zero_iff.1 hlen
    refine ⟨?_, ?_⟩
    · refine List.eq_nil_iff_forall_not_mem.2 fun j hj => ?_
      obtain ⟨h1, o, h2, _⟩ := mem_ready.1 hj
      obtain ⟨q, hq, _⟩ := (hun j (Array.getElem?_eq_some_iff.1 h2).1).1 h1
      cases hq
    · obtain ⟨k1, k2⟩ := hruns
      exact hQ ρ a w hle ⟨hr.size, hr.defers, fun t v e => hr.tmp t v ((k1 t).trans e)⟩ (hw.ext fun i => (k2 i).symm)
  | succ m ih =>
    intro L listed g h ρ a w hlen hsz hop hback hpw hun hcl hle hr hw hruns
    refine ⟨fun hnil => ?_, fun i hi => ?_⟩
    · exfalso
      cases L with
      | nil => simp at hlen
      | cons q L =>
        have hq := hop q (List.mem_cons_self ..)
        have hlt := (Array.getElem?_eq_some_iff.1 hq).1
        have : q.1 ∈ Region.ready .any ops listed := mem_ready.2 ⟨(hun q.1 hlt).2 ⟨q, List.mem_cons_self .., rfl⟩, q.2.1, hq, fun e he hb => by
          have hlt2 := hback q (List.mem_cons_self ..) e he hb
          have hne : ¬ (listed.getD e.on true = false) := fun hc => by
            obtain ⟨q', hq', h1⟩ := (hun e.on (by omega)).1 hc
            rcases List.mem_cons.1 hq' with rfl | hq'
            · omega
            · have := ((List.pairwise_cons.1 hpw).1 q' hq').1
              omega
          have hin : e.on < listed.size := by omega
          simp only [Array.getD_eq_getD_getElem?, Array.getElem?_eq_getElem hin, Option.getD_some] at hne ⊢
          simpa using hne⟩
        rw [hnil] at this
        cases this
    · obtain ⟨hiun, oi, hoi, hall⟩ := mem_ready.1 hi
      have hilt := (Array.getElem?_eq_some_iff.1 hoi).1
      obtain ⟨q, hq, rfl⟩ := (hun i hilt).1 hiun
      obtain ⟨L1, L2, rfl⟩ := List.append_of_mem hq
      have hoq := hop q hq
      rw [hoi] at hoq
      cases hoq
      have hpw' := List.pairwise_append.1 hpw
      have hpw2 := List.pairwise_cons.1 hpw'.2.1
      have hap : ∀ p ∈ L1, apartM p.2.2 q.2.2 = true ∧ p.2.1.apart ops q.2.1 = true := fun p hp => by
        rcases (hpw'.2.2 p hp q (List.mem_cons_self ..)).2 with h1 | h1
        · exact h1
        · exfalso
          have h2 := waits_listed hcl 4 _ _ h1 (.inr hi)
          have hp1 := (hop p (List.mem_append_left _ hp))
          have h3 := (hun p.1 (Array.getElem?_eq_some_iff.1 hp1).1).2 ⟨p, List.mem_append_left _ hp, rfl⟩
          rw [(getD_true_false h3).1] at h2
          cases h2
      obtain ⟨h1, g1, k1, k2, k3⟩ := hruns.front hap
      have hne : ∀ p ∈ L1 ++ L2, p.1 ≠ q.1 := fun p hp => by
        rcases List.mem_append.1 hp with hp | hp
        · have := (hpw'.2.2 p hp q (List.mem_cons_self ..)).1; omega
        · have := (hpw2.1 p hp).1; omega
      have sub : ∀ p ∈ L1 ++ L2, p ∈ L1 ++ q :: L2 := fun p hp => by
        rcases List.mem_append.1 hp with hp | hp
        · exact List.mem_append_left _ hp
        · exact List.mem_append_right _ (List.mem_cons_of_mem _ hp)
      unfold wpOp
      simp only [hoi]
      refine step_wp hC hr hw k1 fun v' w' ⟨ρ', l1, l2, l3⟩ => ?_
      refine ih (L1 ++ L2) (listed.setIfInBounds q.1 true) g1 h1 ρ' _ w' (by simp at hlen ⊢; omega) (by simpa using hsz) (fun p hp => hop p (sub p hp)) (fun p hp => hback p (sub p hp)) ?_ (fun j hj => ?_) (hcl.set hi) (Pm.le_trans hle l1) ((hr.mono l1).put k2 l3) l2 k3
      · refine List.pairwise_append.2 ⟨hpw'.1, hpw2.2, fun p hp p' hp' => hpw'.2.2 p hp p' (List.mem_cons_of_mem _ hp')⟩
      · by_cases hji : j = q.1
        · subst hji
          constructor
          · intro h
            have : q.1 < listed.size := by omega
            simp [this] at h
          · rintro ⟨p, hp, h⟩
            exact absurd h (hne p hp)
        · rw [getD_set_ne true (Ne.symm hji), hun j hj]
          constructor
          · rintro ⟨p, hp, rfl⟩
            refine ⟨p, ?_, rfl⟩
            rcases List.mem_append.1 hp with hp | hp
            · exact List.mem_append_left _ hp
            · rcases List.mem_cons.1 hp with rfl | hp
              · exact absurd rfl hji
              · exact List.mem_append_right _ hp
          · rintro ⟨p, hp, rfl⟩
            exact ⟨p, sub p hp, rfl⟩

theorem rowB_spec {k : Nat} {o : Oper} : ∀ {E : List (Nat × Oper)} {bs : List Bool}, rowB ops k o E = some bs → bs.length = E.length ∧ ∀ (j : Nat) (p : Nat × Oper) (b : Bool), E[j]? = some p → bs[j]? = some b → (b = true ∧ p.2.apart ops o = true) ∨ (waitsA ops.toList 4 k p.1 = true)
  | [], bs, e => by simp [rowB] at e; subst e; exact ⟨rfl, fun j p b hp => by simp at hp⟩
  | (i, oi) :: E, bs, e => by
    unfold rowB at e
    split at e
    · cases e
    · rename_i r hr
      obtain ⟨h1, h2⟩ := rowB_spec hr
      split at e
      · rename_i hw
        cases e
        refine ⟨by simp [h1], fun j p b hp hb => ?_⟩
        cases j with
        | zero => simp at hp; subst hp; exact .inr hw
        | succ j => exact h2 j p b (by simpa using hp) (by simpa using hb)
      · split at e
        · rename_i hap
          cases e
          refine ⟨by simp [h1], fun j p b hp hb => ?_⟩
          cases j with
          | zero => simp at hp hb; subst hp hb; exact .inl ⟨rfl, hap⟩
          | succ j => exact h2 j p b (by simpa using hp) (by simpa using hb)
        · cases e
theorem chkA_spec {x : Foot} : ∀ {bs : List Bool} {acc : List Ent}, chkA x bs acc = true → bs.length = acc.length ∧ ∀ (j : Nat) (p : Ent), acc[j]? = some p → bs[j]? = some true → apartM p.2.2 x = true
  | [], [], _ => ⟨rfl, fun j p hp => by simp at hp⟩
  | [], _ :: _, e => by simp [chkA] at e
  | true :: bs, [], e => by simp [chkA] at e
  | false :: bs, [], e => by simp [chkA] at e
  | false :: bs, q :: acc, e => by
    unfold chkA at e
    obtain ⟨h1, h2⟩ := chkA_spec e
    refine ⟨by simp [h1], fun j p hp hb => ?_⟩
    cases j with
    | zero => simp at hb
    | succ j => exact h2 j p (by simpa using hp) (by simpa using hb)
  | true :: bs, (i, oi, y) :: acc, e => by
    unfold chkA at e
    split at e
    · rename_i hap
      obtain ⟨h1, h2⟩ := chkA_spec e
      refine ⟨by simp [h1], fun j p hp hb => ?_⟩
      cases j with
      | zero => simp at hp; subst hp; exact hap
      | succ j => exact h2 j p (by simpa using hp) (by simpa using hb)
    · cases e
theorem chkF_spec {x : Foot} {bs : List Bool} {acc : List Ent} (e : chkF x bs acc = true) : ∀ (j : Nat) (p : Ent), acc[j]? = some p → bs[j]? = some true → apartM p.2.2 x = true := by
  unfold chkF at e
  split at e
  · rename_i h0
    have h1 : x.r ||| x.w = 0 := Nat.eq_of_beq_eq_true h0
    have hr : x.r = 0 := by apply Nat.eq_of_testBit_eq; intro i; have := congrArg (Nat.testBit · i) h1; simp only [Nat.testBit_or, Nat.zero_testBit, Bool.or_eq_false_iff] at this ⊢; exact this.1
    have hw : x.w = 0 := by apply Nat.eq_of_testBit_eq; intro i; have := congrArg (Nat.testBit · i) h1; simp only [Nat.testBit_or, Nat.zero_testBit, Bool.or_eq_false_iff] at this ⊢; exact this.2
    intro j p _ _
    unfold apartM
    rw [hr, hw]
    have e1 : Nat.land p.2.2.w (Nat.lor 0 0) = 0 := Nat.and_zero _
    have e2 : Nat.land p.2.2.r 0 = 0 := Nat.and_zero _
    rw [e1, e2]
    rfl
  · exact (chkA_spec e).2
theorem goD_spec : ∀ (rest : List Oper) (k : Nat) (tab : List (List Bool)) (g : Regs) (acc : List Ent) (n : Nat) (h : H) (y : Res Regs), tableB ops k rest (acc.map fun p => (p.1, p.2.1)) = some tab → (goD P call nt ops k rest tab g acc).run n h = some y →
    ∃ L : List Ent, L.map (·.2.1) = rest ∧ L.map (·.1) = List.range' k rest.length ∧ Runs P call nt ops y.a y.h L g h ∧ (∀ q ∈ L, ∀ p ∈ acc, FreeE ops p q) ∧ L.Pairwise (FreeE ops) ∧ ∀ q ∈ L, ∀ e ∈ q.2.1.after, Region.binds .any e = true → e.on < q.1
  | [], k, tab, g, acc, n, h, y, ht, e => by
    have := HM.pure_iff.1 (show (HM.pure g).run n h = some y by unfold goD at e; exact e)
    subst this
    exact ⟨[], rfl, rfl, ⟨fun _ => rfl, fun _ => rfl⟩, fun q hq => (by cases hq), .nil, fun q hq => (by cases hq)⟩
  | o :: rest, k, tab, g, acc, n, h, y, ht, e => by
    unfold tableB at ht
    split at ht
    · rename_i bs t hbk hrow htab
      cases ht
      unfold goD at e
      rw [HM.bind_iff] at e
      obtain ⟨_, e1, y1, e2, rfl⟩ := e
      obtain ⟨x, e3, rfl⟩ := foot_iff.1 e1
      simp only at e2
      split at e2
      · rename_i hf
        rw [HM.bind_iff] at e2
        obtain ⟨_, e4, y2, e5, rfl⟩ := e2
        obtain ⟨g', e6, rfl⟩ := HM.opt_iff.1 e4
        simp only at e5
        obtain ⟨L, l1, l2, l3, l4, l5, l6⟩ := goD_spec rest (k + 1) t g' ((k, o, ⟨x.a, n, x.n, x.r, x.w⟩) :: acc) _ _ y2 (by simpa using htab) e5
        obtain ⟨r1, r2⟩ := rowB_spec hrow
        have hfree : ∀ p ∈ acc, FreeE ops p (k, o, ⟨x.a, n, x.n, x.r, x.w⟩) := fun p hp => by
          obtain ⟨j, hj, rfl⟩ := List.getElem_of_mem hp
          have hb : j < bs.length := by rw [r1]; simpa using hj
          rcases r2 j (acc[j].1, acc[j].2.1) bs[j] (by simp [hj]) (List.getElem?_eq_getElem hb) with ⟨h1, h2⟩ | h1
          · exact .inl ⟨chkF_spec hf j acc[j] (List.getElem?_eq_getElem hj) (by rw [List.getElem?_eq_getElem hb, h1]), h2⟩
          · exact .inr h1
        refine ⟨(k, o, ⟨x.a, n, x.n, x.r, x.w⟩) :: L, by simp [l1], ?_, ⟨x.h, g', e3, e6, l3⟩, fun q hq p hp => ?_, ?_, fun q hq e he hb => ?_⟩
        · rw [List.map_cons, l2, List.length_cons, List.range'_succ]
        · rcases List.mem_cons.1 hq with rfl | hq
          · exact hfree p hp
          · exact l4 q hq p (List.mem_cons_of_mem _ hp)
        · exact List.pairwise_cons.2 ⟨fun q hq => l4 q hq _ (List.mem_cons_self ..), l5⟩
        · rcases List.mem_cons.1 hq with rfl | hq
          · have := List.all_eq_true.1 hbk e (by simpa using he)
            rw [hb] at this
            simp only [Bool.not_true, Bool.false_or, Nat.ble_eq] at this
            exact this
          · exact l6 q hq e he hb
      · rw [HM.fail_iff] at e2; cases e2
    · cases ht
theorem goD_ok (hC : CallOk P w0 call) {id : Nat} {n : Nat} {y : Res Regs} (hm : P.follows .mixedOrders = true) (hr : Reg ρ nt g a) (hw : W P w0 ρ h w) (e : (goDs P call nt ops g).run n h = some y)
    (hQ : ∀ ρ' a' w', ρ.le ρ' → Reg ρ' nt y.a a' → W P w0 ρ' y.h w' → Q .normal a' w') : (Code.region id ops true).wp P Q a w := by
  refine wp_region_any hm ?_
  unfold goDs at e
  split at e
  case h_2 => rw [HM.fail_iff] at e; cases e
  rename_i tab htab
  obtain ⟨L, l1, l2, l3, _, l5, l6⟩ := goD_spec _ _ tab _ [] _ _ _ htab e
  have hlen : L.length = ops.size := by have := congrArg List.length l1; simpa using this
  have hidx : ∀ j, (hj : j < L.length) → (L[j]).1 = j := fun j hj => by
    have : (L.map (·.1))[j]? = (List.range' 0 ops.toList.length)[j]? := by rw [l2]
    rw [List.getElem?_map, List.getElem?_eq_getElem hj, List.getElem?_range' (by simp; omega)] at this
    simpa using this
  have hops : ∀ j, (hj : j < L.length) → ops[j]? = some (L[j]).2.1 := fun j hj => by
    have : (L.map (·.2.1))[j]? = ops.toList[j]? := by rw [l1]
    rw [List.getElem?_map, List.getElem?_eq_getElem hj, Array.getElem?_toList] at this
    exact this.symm
  refine any_ok hC hQ ops.size L _ g h ρ a _ hlen (by simp) (fun q hq => ?_) l6 ?_ (fun j hj => ?_) Closed.start (Pm.le_refl _) hr hw.drew l3
  · obtain ⟨j, hj, rfl⟩ := List.getElem_of_mem hq
    rw [hidx j hj]
    exact hops j hj
  · refine List.pairwise_iff_getElem.2 fun i j hi hj hij => ⟨?_, List.pairwise_iff_getElem.1 l5 i j hi hj hij⟩
    rw [hidx i hi, hidx j hj]
    exact hij
  · constructor
    · intro _
      exact ⟨L[j]'(by omega), List.getElem_mem _, hidx j (by omega)⟩
    · intro _
      simp [hj]
end
end Cl
end Go.Proofs.YtcodjodhacjfeaaGreatDoor
end

/-! Code and calls: what the machine finds, the program does, on whatever tape. -/
section
namespace Go.Proofs.YtcodjodhacjfeaaGreatDoor
open Go.RowKit
namespace Cl

def Ex.to : Ex → Exit
  | .normal => .normal
  | .exit id => .exit id
  | .ret => .ret

section
variable {P : Program} {w0 : Bs} {nt : Nat} {call : FuncId → List Value → HM Value}

/-- what is said of code -/
def CodeOk (P : Program) (w0 : Bs) (nt : Nat) (f : Regs → HM (Ex × Regs)) (c : Code) : Prop := ∀ (g : Regs) (n : Nat) (h : H) (y : Res (Ex × Regs)) (ρ : Pm) (a : Act) (w : World) (Q : Exit → Act → World → Prop), Reg ρ nt g a → W P w0 ρ h w → (f g).run n h = some y →
  (∀ ρ' a' w', ρ.le ρ' → Reg ρ' nt y.a.2 a' → W P w0 ρ' y.h w' → Q y.a.1.to a' w') → c.wp P Q a w

theorem iter_ok {body : Regs → HM (Ex × Regs)} {c : Code} (hb : CodeOk P w0 nt body c) : ∀ (m : Nat) (g : Regs) (n : Nat) (h : H) (y : Res (Ex × Regs)) (ρ : Pm) (a : Act) (w : World) (Q : Exit → Act → World → Prop), Reg ρ nt g a → W P w0 ρ h w → (iterA body m g).run n h = some y →
    (∀ ρ' a' w', ρ.le ρ' → Reg ρ' nt y.a.2 a' → W P w0 ρ' y.h w' → Q y.a.1.to a' w') → Code.rounds P c Q m a w
  | 0, g, n, h, y, ρ, a, w, Q, hr, hw, e, hQ => by unfold iterA at e; rw [HM.fail_iff] at e; cases e
  | m + 1, g, n, h, y, ρ, a, w, Q, hr, hw, e, hQ => by
    unfold iterA at e
    rw [HM.bind_iff] at e
    obtain ⟨⟨⟨ex, g1⟩, n1, h1, r1, q1⟩, e1, y2, e2, rfl⟩ := e
    rw [rounds_succ]
    refine hb g n h _ ρ a w _ hr hw e1 fun ρ' a' w' l1 l2 l3 => ?_
    simp only at e2 l2 l3 ⊢
    cases ex with
    | normal =>
      simp only at e2
      obtain ⟨r, c1, c2⟩ := compK_spec g1 0 (fun g1 => iterA body m g1)
      rw [c1] at e2
      have l2' : Reg ρ' nt r a' := ⟨l2.size, l2.defers, fun t v ht => l2.tmp t v (by have := c2 t; rw [Nat.zero_testBit, if_neg (by simp)] at this; exact this.symm.trans ht)⟩
      exact iter_ok hb m r _ _ y2 ρ' a' w' Q l2' l3 e2 fun ρ'' a'' w'' k1 => hQ ρ'' a'' w'' (Pm.le_trans l1 k1)
    | exit id => have := HM.pure_iff.1 e2; subst this; exact hQ ρ' a' w' l1 l2 l3
    | ret => have := HM.pure_iff.1 e2; subst this; exact hQ ρ' a' w' l1 l2 l3

theorem exec_ok (hm : P.follows .mixedOrders = true) (hC : CallOk P w0 call) (L : Nat) : ∀ c, CodeOk P w0 nt (exec P call nt L c) c := by
  intro c
  induction c with
  | skip =>
    intro g n h y ρ a w Q hr hw e hQ
    have := HM.pure_iff.1 e
    subst this
    exact wp_skip (hQ ρ a w (Pm.le_refl _) hr hw)
  | region id ops draw =>
    intro g n h y ρ a w Q hr hw e hQ
    unfold exec at e
    cases draw with
    | true =>
      simp only at e
      rw [HM.bind_iff] at e
      obtain ⟨y1, e1, y2, e2, rfl⟩ := e
      have := HM.pure_iff.1 e2
      subst this
      exact goD_ok hC hm hr hw e1 fun ρ' a' w' l1 l2 l3 => hQ ρ' a' w' l1 l2 l3
    | false =>
      simp only at e
      rw [HM.bind_iff] at e
      obtain ⟨y1, e1, y2, e2, rfl⟩ := e
      have := HM.pure_iff.1 e2
      subst this
      exact wp_region_list (goT_ok hC _ g n h y1 ρ a w hr hw e1 fun ρ' a' w' l1 l2 l3 => hQ ρ' a' w' l1 l2 l3)
  | seq c d ihc ihd =>
    intro g n h y ρ a w Q hr hw e hQ
    unfold exec at e
    rw [HM.bind_iff] at e
    obtain ⟨⟨⟨ex, g1⟩, n1, h1, r1, q1⟩, e1, y2, e2, rfl⟩ := e
    refine wp_seq (ihc g n h _ ρ a w _ hr hw e1 fun ρ' a' w' l1 l2 l3 => ?_)
    simp only at e2 l2 l3 ⊢
    cases ex with
    | normal => exact ihd g1 _ _ y2 ρ' a' w' Q l2 l3 e2 fun ρ'' a'' w'' k1 => hQ ρ'' a'' w'' (Pm.le_trans l1 k1)
    | exit id => have := HM.pure_iff.1 e2; subst this; exact hQ ρ' a' w' l1 l2 l3
    | ret => have := HM.pure_iff.1 e2; subst this; exact hQ ρ' a' w' l1 l2 l3
  | cond x c d ihc ihd =>
    intro g n h y ρ a w Q hr hw e hQ
    unfold exec at e
    split at e
    · rename_i hx
      exact wp_cond_true (hr.ev hx).bool_eq (ihc g n h y ρ a w Q hr hw e hQ)
    · rename_i hx
      exact wp_cond_false (hr.ev hx).bool_eq (ihd g n h y ρ a w Q hr hw e hQ)
    · rw [HM.fail_iff] at e; cases e
  | block id c ih =>
    intro g n h y ρ a w Q hr hw e hQ
    unfold exec at e
    rw [HM.bind_iff] at e
    obtain ⟨⟨⟨ex, g1⟩, n1, h1, r1, q1⟩, e1, y2, e2, rfl⟩ := e
    refine wp_block (ih g n h _ ρ a w _ hr hw e1 fun ρ' a' w' l1 l2 l3 => ?_)
    simp only at e2 l2 l3 ⊢
    cases ex with
    | normal => have := HM.pure_iff.1 e2; subst this; exact hQ ρ' a' w' l1 l2 l3
    | ret => have := HM.pure_iff.1 e2; subst this; exact hQ ρ' a' w' l1 l2 l3
    | exit i =>
      simp only at e2
      show (if i = id then Q .normal a' w' else Q (.exit i) a' w')
      split at e2
      · rename_i hi
        have := HM.pure_iff.1 e2
        subst this
        rw [if_pos (Nat.eq_of_beq_eq_true hi)]
        exact hQ ρ' a' w' l1 l2 l3
      · rename_i hi
        have := HM.pure_iff.1 e2
        subst this
        rw [if_neg (Nat.ne_of_beq_eq_false hi)]
        exact hQ ρ' a' w' l1 l2 l3
  | loop c ih =>
    intro g n h y ρ a w Q hr hw e hQ
    unfold exec at e
    exact wp_loop_rounds L (iter_ok ih L g n h y ρ a w Q hr hw e hQ)
  | exit id =>
    intro g n h y ρ a w Q hr hw e hQ
    have := HM.pure_iff.1 e
    subst this
    exact wp_exit (hQ ρ a w (Pm.le_refl _) hr hw)
  | ret =>
    intro g n h y ρ a w Q hr hw e hQ
    have := HM.pure_iff.1 e
    subst this
    exact wp_ret (hQ ρ a w (Pm.le_refl _) hr hw)
  | _ =>
    intro g n h y ρ a w Q hr hw e hQ
    unfold exec at e
    rw [HM.fail_iff] at e
    cases e

/-! calls -/
theorem rget_nil (s : Nat) : rget [] s = none := rfl
theorem initA_spec : ∀ (vs : List Value) (t : Nat) (g g' : Regs), initA nt t vs g = some g' → ∀ s, rget g' s = if t ≤ s ∧ s < t + vs.length then vs[s - t]? else rget g s
  | [], t, g, g', e, s => by
    simp only [initA, Option.some.injEq] at e
    subst e
    rw [if_neg (by simp)]
  | v :: vs, t, g, g', e, s => by
    unfold initA at e
    split at e
    · rename_i g1 h1
      rw [initA_spec vs (t + 1) g1 g' e s]
      rcases rput_iff h1 with ⟨h, _⟩ | ⟨s', h, _, h2⟩
      · cases h
      · cases h
        rw [h2]
        by_cases hs : s = t
        · subst hs
          rw [if_neg (by omega), if_pos rfl, if_pos ⟨Nat.le_refl _, by simp⟩]
          simp
        · rw [if_neg hs]
          by_cases h3 : t + 1 ≤ s ∧ s < t + 1 + vs.length
          · rw [if_pos h3, if_pos ⟨by omega, by simp; omega⟩]
            obtain ⟨m, rfl⟩ : ∃ m, s = t + 1 + m := ⟨s - (t + 1), by omega⟩
            rw [show t + 1 + m - (t + 1) = m by omega, show t + 1 + m - t = m + 1 by omega]
            simp
          · rw [if_neg h3, if_neg (by simp; omega)]
    · cases e
theorem init_reg {ρ : Pm} {vs vs' : List Value} {g : Regs} (hv : GL ρ vs vs') (hl : vs.length ≤ nt) (e : initA nt 0 vs [] = some g) : Reg ρ nt g { tmps := vs'.toArray ++ Array.replicate (nt - vs'.toArray.size) undef, defers := [] } := by
  refine ⟨by have := hv.1; simp; omega, rfl, fun t v ht => ?_⟩
  rw [initA_spec _ _ _ _ e, rget_nil] at ht
  split at ht
  · rename_i hlt
    obtain ⟨u', e1, e2⟩ := hv.get ht
    simp only [Nat.sub_zero] at e1
    have : t < vs'.length := (List.getElem?_eq_some_iff.1 e1).1
    exact ⟨u', by simp [Array.getElem?_append, this]; simpa [this] using e1, e2⟩
  · cases ht

def resF (tmps : Array Value) : ResultVar → Sem Value
  | .tmp t => pure (tmps.getD t undef)
  | .cell a t => do loadVar t (← asAddr (tmps.getD a undef))
theorem resA_run {ρ : Pm} {g : Regs} {a : Act} {h : H} {w : World} (hr : Reg ρ nt g a) (hw : W P w0 ρ h w) : ∀ (rs : List ResultVar) (n : Nat) (y : Res (List Value)), (resA P g rs).run n h = some y → ∃ vs', (rs.mapM (resF a.tmps)).run P w = .ok vs' w ∧ GL ρ y.a vs' ∧ y.h = h
  | [], n, y, e => by
    have := HM.pure_iff.1 e
    subst this
    exact ⟨[], rfl, .nil, rfl⟩
  | .tmp t :: rs, n, y, e => by
    unfold resA at e
    rw [HM.bind_iff] at e
    obtain ⟨_, e1, y1, e2, rfl⟩ := e
    obtain ⟨v, e3, rfl⟩ := HM.opt_iff.1 e1
    rw [HM.bind_iff] at e2
    obtain ⟨y2, e4, y3, e5, rfl⟩ := e2
    have := HM.pure_iff.1 e5
    subst this
    obtain ⟨v', f1, f2⟩ := hr.tmp t v e3
    obtain ⟨vs', k1, k2, k3⟩ := resA_run hr hw rs _ _ e4
    refine ⟨v' :: vs', ?_, .cons f2 k2, k3⟩
    rw [List.mapM_cons, Sem.run_bind]
    simp [resF, f1, k1]
  | .cell c t :: rs, n, y, e => by
    unfold resA at e
    split at e
    · rename_i b off hb
      rw [HM.bind_iff] at e
      obtain ⟨⟨⟨cc, et, vec⟩, n1, h1, r1, q1⟩, e1, y1, e2, rfl⟩ := e
      obtain ⟨e6, e7⟩ := getC_inv e1
      simp only at e2 e6 e7
      subst e6
      rw [HM.bind_iff] at e2
      obtain ⟨_, e3, y2, e4, rfl⟩ := e2
      obtain ⟨v, e8, rfl⟩ := HM.opt_iff.1 e3
      rw [HM.bind_iff] at e4
      obtain ⟨y3, e9, y4, e10, rfl⟩ := e4
      have := HM.pure_iff.1 e10
      subst this
      obtain ⟨u', f1, f2⟩ := hr.tmp c _ (adr_eq hb)
      obtain ⟨p, p1, rfl⟩ := f2.ptr_inv
      obtain ⟨v', r1, r2⟩ := read_run hw e7 p1 e8
      obtain ⟨vs', k1, k2, k3⟩ := resA_run hr hw rs _ _ e9
      refine ⟨v' :: vs', ?_, .cons r2 k2, k3⟩
      rw [List.mapM_cons, Sem.run_bind]
      simp [resF, f1, asAddr, r1, k1]
    · rw [HM.fail_iff] at e; cases e
theorem results_run {ρ : Pm} {g : Regs} {a : Act} {h : H} {w : World} (hr : Reg ρ nt g a) (hw : W P w0 ρ h w) {fn : Func} {n : Nat} {y : Res (List Value)} (e : (resA P g fn.results.toList).run n h = some y) : ∃ v', (results fn a.tmps).run P w = .ok v' w ∧ G ρ (oneRes y.a) v' ∧ y.h = h := by
  obtain ⟨vs', k1, k2, k3⟩ := resA_run hr hw _ _ _ e
  have hmap : (fn.results.mapM (resF a.tmps)).run P w = .ok vs'.toArray w := by
    cases hres : fn.results with
    | mk rs =>
      rw [hres] at k1
      rw [List.mapM_toArray, Sem.run_map, k1]
      rfl
  have hrun : (results fn a.tmps).run P w = .ok (if h : vs'.toArray.size = 1 then vs'.toArray[0] else .tuple vs'.toArray) w := by
    have : results fn a.tmps = (do let vs ← fn.results.mapM (resF a.tmps); pure (if h : vs.size = 1 then vs[0] else .tuple vs)) := rfl
    rw [this, Sem.run_bind, hmap]
    rfl
  refine ⟨_, hrun, ?_, k3⟩
  generalize y.a = vs at k2
  match vs, k2 with
  | [], k2 =>
    obtain rfl := k2.nil_eq
    exact GL.nil.tuple
  | [v], k2 =>
    obtain ⟨u', l', rfl, g1, g2⟩ := k2.uncons
    obtain rfl := g2.nil_eq
    exact g1
  | v :: u :: vs, k2 =>
    have hne : ¬ vs'.toArray.size = 1 := by have := k2.1; simp at this ⊢; omega
    rw [dif_neg hne]
    exact k2.tuple

/-- what is asked of the functions that are not carried out but given -/
def OvOk (P : Program) (w0 : Bs) (ov : FuncId → Option (List Value → HM Value)) : Prop := ∀ f m, ov f = some m → CallOk P w0 (fun f' args => if f' = f then m args else HM.fail)
theorem callA_ok {ov : FuncId → Option (List Value → HM Value)} {L : Nat} (hm : P.follows .mixedOrders = true) (hov : OvOk P w0 ov) (hN : ∀ (f : FuncId) (fn : Func), P.funcs[f]? = some fn → fn.body.isSome = true → (fn.name == "runtime.NumGoroutine") = false) : ∀ d, CallOk P w0 (callA P ov L d)
  | 0 => fun f args n h x e => by unfold callA at e; rw [HM.fail_iff] at e; cases e
  | d + 1 => fun f args n h x e ρ w args' hw hg => by
    have ih := callA_ok (L := L) hm hov hN d
    unfold callA at e
    split at e
    · rename_i m hmv
      exact hov f m hmv f args n h x (by simpa using e) ρ w args' hw hg
    · split at e
      · rename_i fn hfn
        split at e
        · rename_i c hc
          split at e
          · rename_i hle
            rw [Nat.ble_eq] at hle
            rw [HM.bind_iff] at e
            obtain ⟨_, e1, y1, e2, rfl⟩ := e
            obtain ⟨g, e3, rfl⟩ := HM.opt_iff.1 e1
            rw [HM.bind_iff] at e2
            obtain ⟨⟨⟨ex, g1⟩, n1, h1, r1, q1⟩, e4, y2, e5, rfl⟩ := e2
            have hname := hN f fn hfn (by rw [hc]; rfl)
            have hne : ¬ fn.name = "runtime.NumGoroutine" := by simpa using hname
            have hcall : (callFunc f args'.toArray).run P w = .ok (.enter f args'.toArray) w := by
              unfold callFunc
              simp [hfn, hne, hc]
            rw [hcall]
            show Calls P f args'.toArray w _
            · refine calls_of_wp hfn hc ?_
              have hreg := init_reg hg hle e3
              refine exec_ok hm ih L c g _ _ _ ρ _ w _ hreg hw e4 fun ρ' a' w' l1 l2 l3 => ?_
              simp only at e5 l2 l3 ⊢
              have fin : (do let vs ← resA P g1 fn.results.toList; pure (oneRes vs) : HM Value).run n1 h1 = some y2 → a'.defers = [] ∧ ∃ v, (results fn a'.tmps).run P w' = .ok v w' ∧ ∃ v', Ending.returned v = .returned v' ∧ Post P w0 ρ ⟨y2.a, y2.n, y2.h, 0 ||| (r1 ||| y2.r), 0 ||| (q1 ||| y2.w)⟩ v' w' := fun e6 => by
                rw [HM.bind_iff] at e6
                obtain ⟨y3, e7, y4, e8, rfl⟩ := e6
                have := HM.pure_iff.1 e8
                subst this
                obtain ⟨v', k1, k2, k3⟩ := results_run l2 l3 e7
                exact ⟨l2.defers, v', k1, v', rfl, ρ', l1, by simp only [k3]; exact l3, k2⟩
              cases ex with
              | normal => exact fin e5
              | ret => exact fin e5
              | exit id => rw [HM.fail_iff] at e5; cases e5
          · rw [HM.fail_iff] at e; cases e
        · rw [HM.fail_iff] at e; cases e
      · rw [HM.fail_iff] at e; cases e

/-- A CLOSED CALL: what the machine finds, from a memory that holds package's variables alone on, is what the call returns, on whatever tape. -/
theorem closed_call {ov : FuncId → Option (List Value → HM Value)} {L d n0 : Nat} {h0 : H} {f : FuncId} {args : List Value} {p : Value → Bool} (hm : P.follows .mixedOrders = true) (hN : ∀ (f : FuncId) (fn : Func), P.funcs[f]? = some fn → fn.body.isSome = true → (fn.name == "runtime.NumGoroutine") = false) (w : World) (hov : OvOk P ⟨w, HL.none⟩ ov)
    (hh : ∀ i o, hget h0 i = some o → ∃ k c, o = .glob k c ∧ k < w.heap.size ∧ ∀ (j : Nat) (u : Value), c[j]? = some u → closedB CD u = true ∧ w.cell? ⟨k, j, none⟩ = some u)
    (ha : ∀ v ∈ args, closedB CD v = true) (he : (callFunc f args.toArray).run P w = .ok (.enter f args.toArray) w) (e : (callA P ov L d f args).kont Bool n0 h0 0 0 (fun a _ _ _ _ => some (p a)) = some true) :
    Calls P f args.toArray w fun e w' => ∃ v v', p v = true ∧ e = .returned v' ∧ Below w.heap.size w w' ∧ (closedB CD v = true → v' = v) := by
  rw [HM.kok] at e
  cases hrun : (callA P ov L d f args).run n0 h0 with
  | none => rw [hrun] at e; cases e
  | some x =>
    rw [hrun] at e
    have hp : p x.a = true := by simpa [thenK] using e
    have := callA_ok hm hov hN d f args n0 h0 x hrun _ w args (W.start w hh) (GL.same fun u hu => G.of_closed _ _ (ha u hu))
    rw [he] at this
    exact Calls.mono this fun e w' ⟨v', h1, ρ', _, h3, h4⟩ => ⟨x.a, v', hp, h1, h3.below.1, fun hc => G.closed_eq _ _ _ hc h4⟩
/-- the same, with words among the arguments that are not looked at -/
theorem open_call {ov : FuncId → Option (List Value → HM Value)} {L d n0 : Nat} {h0 : H} {f : FuncId} {args args' : List Value} {p : Value → Bool} (hm : P.follows .mixedOrders = true) (hN : ∀ (f : FuncId) (fn : Func), P.funcs[f]? = some fn → fn.body.isSome = true → (fn.name == "runtime.NumGoroutine") = false) (w : World) (hov : OvOk P ⟨w, HL.none⟩ ov)
    (hh : ∀ i o, hget h0 i = some o → ∃ k c, o = .glob k c ∧ k < w.heap.size ∧ ∀ (j : Nat) (u : Value), c[j]? = some u → closedB CD u = true ∧ w.cell? ⟨k, j, none⟩ = some u)
    (ha : ∀ ρ, GL ρ args args') (he : (callFunc f args'.toArray).run P w = .ok (.enter f args'.toArray) w) (e : (callA P ov L d f args).kont Bool n0 h0 0 0 (fun a _ _ _ _ => some (p a)) = some true) :
    Calls P f args'.toArray w fun e w' => ∃ v v', p v = true ∧ e = .returned v' ∧ Below w.heap.size w w' ∧ (closedB CD v = true → v' = v) := by
  rw [HM.kok] at e
  cases hrun : (callA P ov L d f args).run n0 h0 with
  | none => rw [hrun] at e; cases e
  | some x =>
    rw [hrun] at e
    have hp : p x.a = true := by simpa [thenK] using e
    have := callA_ok hm hov hN d f args n0 h0 x hrun _ w args' (W.start w hh) (ha _)
    rw [he] at this
    exact Calls.mono this fun e w' ⟨v', h1, ρ', _, h3, h4⟩ => ⟨x.a, v', hp, h1, h3.below.1, fun hc => G.closed_eq _ _ _ hc h4⟩
end
end Cl
end Go.Proofs.YtcodjodhacjfeaaGreatDoor
end

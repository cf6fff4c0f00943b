/-
  What the machine does for an operation is what the operation does: all operations.
-/
import Derived.Test.YtcihbmifogfdpaaGreatDoorK9b
namespace Go.Proofs.YtcihbmifogfdpaaGreatDoor
open Go.RowKit
namespace Cl

/-- what is asked of the calls -/
def CallOk (P : Program) (w0 : World) (call : FuncId → List Value → HM Value) : Prop := ∀ f args n h x, (call f args).run n h = some x → ∀ ρ w args', W P w0 ρ h w → GL ρ args args' → effUpon P (Post P w0 ρ x) ((callFunc f args'.toArray).run P w)

section
variable {P : Program} {w0 w w' : World} {ρ : Pm} {nt : Nat} {g : Regs} {a : Act} {h : H} {n : Nat} {o : Oper} {x : Res Value} {v' : Value} {post : Value → World → Prop}

theorem fieldPlaces_run : ∀ {fs : List Field} {l : List (Nat × Nat)}, fieldPlaces P fs = some l → (fs.mapM fun f => (do pure (f.offset, ← sizeOf f.type) : Sem (Nat × Nat))).run P w = .ok l w
  | [], l, e => by simp [fieldPlaces] at e; subst e; rfl
  | f :: fs, l, e => by
    simp only [fieldPlaces] at e
    split at e
    · rename_i i l2 hi hl
      cases e
      rw [List.mapM_cons, Sem.run_bind]
      have h1 : (do pure (f.offset, ← sizeOf f.type) : Sem (Nat × Nat)).run P w = .ok (f.offset, i.size) w := by simp [sizeOf, typeInfo, hi]
      rw [h1, Result.andThen_ok, Sem.run_bind, fieldPlaces_run hl]
      rfl
    · cases e
theorem build_ok (hr : Reg ρ nt g a) (hw : W P w0 ρ h w) {t : TypeId} {parts : Array (Nat × Operand)} (ho : o.op = .build t parts) (e : (HM.opt (buildA P (evA g) t parts.toList)).run n h = some x) : effAt P o a w (Post P w0 ρ x) := by
  refine opt_ok hw e fun v hv => ?_
  have hparts : (parts.map fun p => (p.1, a.eval p.2)).toList = parts.toList.map fun p => (p.1, a.eval p.2) := by simp
  unfold buildA at hv
  split at hv
  · rename_i fs z ht hz
    obtain ⟨i, z0, z1, z2, rfl, z4⟩ := zeroL_spec hz
    split at hv
    · rename_i l hl
      split at hv
      · rename_i c hc
        cases hv
        obtain ⟨C2, c1, c2⟩ := fill_ok _ hr parts.toList _ c z0.cells (GL.same fun u hu => G.of_closed _ _ (z4 u hu)) hc
        refine ⟨.agg C2, ?_, by have := c2.agg; simpa using this⟩
        have hm : (fs.mapM fun f => (do pure (f.offset, ← sizeOf f.type) : Sem (Nat × Nat))).run P w = .ok l.toArray w := by
          have := fieldPlaces_run (P := P) (w := w) hl
          obtain ⟨fs⟩ := fs
          rw [List.mapM_toArray, Sem.run_map, this]
          rfl
        have hf : Instr.fill (l.toArray[·]?) z0.cells (parts.map fun p => (p.1, a.eval p.2)).toList = some C2 := by
          rw [hparts, ← c1]
          congr 1
          funext j
          simp
        have hs : (Instr.build t (parts.map fun p => (p.1, a.eval p.2))).run P w = .ok (.agg C2) w := by
          simp only [Instr.build, Sem.run_bind, zeroValue, typeInfo, run_program, z1, z2, Result.andThen_ok, Sem.run_pure, run_underlying ht]
          erw [hm]
          simp only [Result.andThen_ok, hf, Sem.run_pure]
        unfold execOp
        simp only [ho]
        rw [Sem.run_bind]
        erw [hs]
        rfl
      · cases hv
    · cases hv
  · rename_i m et z ht hz
    obtain ⟨i, z0, z1, z2, rfl, z4⟩ := zeroL_spec hz
    split at hv
    · rename_i ie hie
      split at hv
      · rename_i c hc
        cases hv
        obtain ⟨C2, c1, c2⟩ := fill_ok _ hr parts.toList _ c z0.cells (GL.same fun u hu => G.of_closed _ _ (z4 u hu)) hc
        refine ⟨.agg C2, ?_, by have := c2.agg; simpa using this⟩
        have hf : Instr.fill (fun i => some (i * ie.size, ie.size)) z0.cells (parts.map fun p => (p.1, a.eval p.2)).toList = some C2 := by
          rw [hparts]
          exact c1
        have hs : (Instr.build t (parts.map fun p => (p.1, a.eval p.2))).run P w = .ok (.agg C2) w := by
          simp only [Instr.build, Sem.run_bind, zeroValue, typeInfo, run_program, z1, z2, Result.andThen_ok, Sem.run_pure, run_underlying ht, sizeOf, hie, hf]
        unfold execOp
        simp only [ho]
        rw [Sem.run_bind]
        erw [hs]
        rfl
      · cases hv
    · cases hv
  · cases hv
theorem buildSlice_ok (hr : Reg ρ nt g a) (hw : W P w0 ρ h w) {t et : TypeId} {len : Nat} {parts : Array (Nat × Operand)} (ho : o.op = .buildSlice t len parts) {z c : List Value} {i : TypeInfo} (ht : P.underlying t = some (.slice et)) (hz : zeroL P et = some z) (hi : P.info? et = some i)
    (k1 : len * i.size ≤ 2 ^ 24) (k2 : z.length = i.size) (hc : fillA (rowPlace i.size) (parts.toList.map fun p => (p.1, evA g p.2)) (rowA z len) = some c) (e : (do let b ← fresh (.cells c et false); pure (.slice (some ⟨b, 0, none⟩) len len) : HM Value).run n h = some x) : effAt P o a w (Post P w0 ρ x) := by
  obtain ⟨i', z0, z1, z2, rfl, z4⟩ := zeroL_spec hz
  rw [hi] at z1
  cases z1
  have hsz : z0.cells.size = i.size := by simpa using k2
  have hrow := made_row z0 len i.size hsz
  obtain ⟨h4, h5, h6⟩ := fresh_then (f := fun b => .slice (some ⟨b, 0, none⟩) len len) e
  have hparts : (parts.map fun p => (p.1, a.eval p.2)).toList = parts.toList.map fun p => (p.1, a.eval p.2) := by simp
  obtain ⟨C2, c1, c2⟩ := fill_ok _ hr parts.toList _ c ((Array.range (len * i.size)).map (z0.cells[· % z0.cells.size]!)) (by rw [hrow]; exact GL.same fun u hu => G.of_closed _ _ (rowA_closed z4 len u hu)) hc
  obtain ⟨q1, q2⟩ := hw.newRow0 (t := et) (c := c) (C := C2) h4 c2
  have hf : Instr.fill (fun j => some (j * i.size, i.size)) ((Array.range (len * i.size)).map (z0.cells[· % z0.cells.size]!)) (parts.map fun p => (p.1, a.eval p.2)).toList = some C2 := by
    rw [hparts]
    exact c1
  have hs : (Instr.buildSlice t len (parts.map fun p => (p.1, a.eval p.2))).run P w = .ok (.slice (some ⟨w.heap.size, 0, none⟩) len len) (w.alloc (.cells C2 et)) := by
    have hn : ¬ (len * i.size > 2 ^ 24) := by omega
    by_cases h0 : len * i.size = 0
    · rw [h0] at hf
      simp only [Instr.buildSlice, Sem.run_bind, zeroValue, typeInfo, run_program, hi, z2, Result.andThen_ok, Sem.run_pure, run_underlying ht, sizeOf, hn, if_false, h0, if_true]
      simp only [Array.range_zero', Array.map_empty] at hf ⊢
      rw [hparts] at hf ⊢
      simp [hf, newRow]
    · simp only [Instr.buildSlice, Sem.run_bind, zeroValue, typeInfo, run_program, hi, z2, Result.andThen_ok, Sem.run_pure, run_underlying ht, sizeOf, hn, if_false, h0, hf]
      simp [newRow]
  refine effAt_value (v := .slice (some ⟨w.heap.size, 0, none⟩) len len) (w' := w.alloc (.cells C2 et)) ?_ (.mk h5 h6 q1 q2 ?_)
  · unfold execOp
    simp only [ho]
    rw [Sem.run_bind]
    erw [hs]
    rfl
  · have := G.slc (ρ := upP ρ n ⟨w.heap.size, 0, 0⟩) (b := n) (off := 0) (n := len) (c := len) (upP_same _ _ _)
    simpa using this

/-! builtins -/
theorem copySrc (hw : W P w0 ρ h w) {size : Nat} {v v' : Value} {y : Res (List Value × Nat)} (hv : G ρ v v') (e : (srcA size v).run n h = some y) :
    ∃ l', (∀ w2, (Builtin.lenOf v').run P w2 = .ok y.a.2 w2) ∧ (∀ q, q ≤ y.a.2 → (Builtin.firstCells size q v').run P w = .ok (l'.take (q * size)).toArray w) ∧ GL ρ y.a.1 l' ∧ y.h = h ∧ l'.length = y.a.2 * size := by
  unfold srcA at e
  split at e
  · rename_i c
    rw [HM.pure_iff] at e
    subst e
    obtain rfl := G.nil_eq rfl hv
    exact ⟨[], fun _ => rfl, fun q _ => by simp [Builtin.firstCells], .nil, rfl, by simp⟩
  · rename_i b off sp m c
    obtain ⟨p, c', p1, rfl, _⟩ := hv.slice_inv
    split at e
    · rw [HM.pure_iff] at e
      subst e
      exact ⟨[], fun _ => rfl, fun q hq => by
        have : q = 0 := by simpa using hq
        subst this
        simpa using run_firstCells_some (P := P) w size 0 ⟨p.blk, p.base + off, none⟩ 0 c' [] (by simp) (fun j u hu => by simp at hu), .nil, rfl, by simp⟩
    · rename_i mm
      simp only [HM.bind_iff, HM.opt_iff] at e
      obtain ⟨z, e1, z2, ⟨_, ⟨l, e2, rfl⟩, z3, e3, rfl⟩, rfl⟩ := e
      obtain ⟨e4, e5⟩ := getC_inv e1
      simp only at e3
      split at e3
      · rw [HM.pure_iff] at e3
        subst e3
        obtain ⟨l', g1, g2, g3⟩ := hw.range e5 p1 e2
        refine ⟨l', fun _ => rfl, fun q hq => ?_, g1, e4, g2⟩
        have hqs : q * size ≤ (mm + 1) * size := Nat.mul_le_mul_right _ hq
        exact run_firstCells_some w size q _ _ c' _ (by rw [List.length_take, g2]; exact Nat.min_eq_left hqs) fun j u hu => by
          rw [Addr.add_mid]
          refine g3 j u ?_
          rw [List.getElem?_take] at hu
          split at hu
          · exact hu
          · cases hu
      · rw [HM.fail_iff] at e3; cases e3
  · rw [HM.fail_iff] at e; cases e
theorem eff_b {b : Builtin} {args : Array Operand} {argTypes : Array TypeId} {s : Sem Value} (ho : o.op = .call { callee := .builtin b, args, argTypes }) (hb : ∀ cs, builtin b argTypes o.type cs (args.toList.map a.eval).toArray = (do pure (.value (← s)))) {v2 : Value} {w2 : World} (hr : s.run P w = .ok v2 w2) (hp : post v2 w2) : effAt P o a w post := by
  refine effAt_value (v := v2) (w' := w2) ?_ hp
  have hargs : args.map a.eval = (args.toList.map a.eval).toArray := by apply Array.ext'; simp
  unfold execOp
  simp only [ho, resolve, Sem.run_bind, Sem.run_pure, Result.andThen_ok, invoke, hargs, hb, hr]
theorem builtin_ok (hr : Reg ρ nt g a) (hw : W P w0 ρ h w) {c : Call} (ho : o.op = .call c) {b : Builtin} (hcb : c.callee = .builtin b) (e : (builtinA P (evA g) o b c.argTypes.toList c.args.toList).run n h = some x) : effAt P o a w (Post P w0 ρ x) := by
  obtain ⟨callee, args, argTypes⟩ := c
  simp only at hcb e
  subst hcb
  obtain ⟨args⟩ := args
  obtain ⟨argTypes⟩ := argTypes
  simp only at e
  have hclo : (cloV P (evA g) o).run n h = some x → effAt P o a w (Post P w0 ρ x) := clo_ok hr hw fun cs b => by rw [ho]; simp
  unfold builtinA at e
  split at e
  · -- len
    rename_i y t
    split at e
    · rename_i et ad m c ht hy
      rw [HM.pure_iff] at e
      subst e
      obtain ⟨b, off, sp⟩ := ad
      obtain ⟨p, c', p1, p2, _⟩ := (hr.ev hy).slice_inv
      refine eff_b ho (s := Builtin.len_ #[t] default #[a.eval y]) (fun _ => rfl) (v2 := .int .i64 m) (w2 := w) ?_ (post_same hw (.flat rfl))
      simp [Builtin.len_, run_underlying ht, p2, goInt]
    · rename_i kt et b ht hy
      rw [HM.bind_iff] at e
      obtain ⟨⟨⟨es, k2⟩, zn, zh, zr, zw⟩, e3, y2, e4, rfl⟩ := e
      have := HM.pure_iff.1 e4
      subst this
      obtain ⟨e6, e7⟩ := getM_inv e3
      simp only at e6 e7
      subst e6
      obtain ⟨p, p1, p2⟩ := (hr.ev hy).map_inv
      obtain ⟨_, es', h2, h3⟩ := hw.mapRow e7 p1
      refine eff_b ho (s := Builtin.len_ #[t] default #[a.eval y]) (fun _ => rfl) (v2 := .int .i64 es.length) (w2 := w) ?_ (post_same hw (.flat rfl))
      have := h3.1
      simp at this
      simp [Builtin.len_, run_underlying ht, p2, goInt, run_getMap h2, this]
    · exact hclo e
  · -- cap
    rename_i y t
    split at e
    · rename_i et b off sp m c ht hy
      obtain ⟨p, c', p1, p2, p3⟩ := (hr.ev hy).slice_inv
      have fin : c' = c → x.a = .int .i64 c → x.h = h → effAt P o a w (Post P w0 ρ x) := fun hc ha hh => by
        refine eff_b ho (s := Builtin.cap_ #[t] default #[a.eval y]) (fun _ => rfl) (v2 := .int .i64 c) (w2 := w) ?_ ⟨ρ, Pm.le_refl _, hh ▸ hw, by rw [ha]; exact .flat rfl⟩
        simp [Builtin.cap_, run_underlying ht, p2, goInt, hc]
      split at e
      · rename_i s
        rw [HM.pure_iff] at e
        subst e
        refine fin ?_ rfl rfl
        rcases p3 with ⟨h1, _⟩ | ⟨_, h2⟩
        · cases h1
        · exact h2
      · rw [HM.bind_iff] at e
        obtain ⟨⟨⟨cc, et2, vec⟩, zn, zh, zr, zw⟩, e3, y2, e4, rfl⟩ := e
        obtain ⟨e6, e7⟩ := getC_inv e3
        simp only at e4 e6 e7
        split at e4
        · have := HM.pure_iff.1 e4
          subst this
          subst e6
          refine fin ?_ rfl rfl
          obtain ⟨_, q2, _⟩ := hw.row e7 p1
          rcases p3 with ⟨_, h1⟩ | ⟨_, h2⟩
          · rw [h1, (q2 rfl).1]; rfl
          · exact h2
        · rw [HM.fail_iff] at e4; cases e4
    · exact hclo e
  · -- append
    rename_i s y t t'
    split at e
    · rename_i u v hu hv
      split at e
      · rename_i e' ad m c ht'
        obtain ⟨v2, w2, h1, h2⟩ := append_run (ty := default) hw (t := t) (t' := t') (.inl ⟨_, _, _, _, ht', rfl⟩) (hr.ev hu) (hr.ev hv) e
        exact eff_b ho (s := Builtin.append_ #[t, t'] default #[a.eval s, a.eval y]) (fun _ => rfl) h1 h2
      · rename_i st ht'
        obtain ⟨v2, w2, h1, h2⟩ := append_run (ty := default) hw (t := t) (t' := t') (.inr ⟨ht', _, rfl⟩) (hr.ev hu) (hr.ev hv) e
        exact eff_b ho (s := Builtin.append_ #[t, t'] default #[a.eval s, a.eval y]) (fun _ => rfl) h1 h2
      · rw [HM.fail_iff] at e; cases e
    · rw [HM.fail_iff] at e; cases e
  · -- copy
    rename_i d y t t'
    split at e
    · rename_i et b off sp m c v ht hd hv
      obtain ⟨p, c', p1, p2, p3⟩ := (hr.ev hd).slice_inv
      split at e
      · rename_i r size hk
        obtain ⟨dd, i, t1, t2, t3, t4⟩ := tk_spec hk
        rw [HM.bind_iff] at e
        obtain ⟨⟨⟨l, k⟩, zn, zh, zr, zw⟩, e3, y2, e4, rfl⟩ := e
        obtain ⟨l', s1, s1', s2, s3, s4⟩ := copySrc hw (hr.ev hv) e3
        simp only at e4 s1 s1' s2 s3 s4
        subst s3
        have fin : ∀ (q : Nat) (vs vs' : List Value), Nat.min k m = q → GL ρ vs vs' → (Builtin.firstCells size q (a.eval y)).run P w = .ok vs'.toArray w → (do putA b off vs; pure (.int .i64 q) : HM Value).run zn zh = some y2 → effAt P o a w (Post P w0 ρ ⟨y2.a, y2.n, y2.h, zr ||| y2.r, zw ||| y2.w⟩) := fun q vs vs' hq hg hf ee => by
          simp only [HM.bind_iff, HM.pure_iff] at ee
          obtain ⟨y3, e5, _, rfl, rfl⟩ := ee
          obtain ⟨k1, k2, _, _⟩ := hw.put p1 hg e5
          refine eff_b ho (s := Builtin.copy_ #[t, t'] default #[a.eval d, a.eval y]) (fun _ => rfl) (v2 := .int .i64 q) (w2 := w.setCells p.blk (p.base + off) vs') ?_ ⟨ρ, Pm.le_refl _, k2, .flat rfl⟩
          simp [Builtin.copy_, run_underlying ht, p2, s1, hq, sizeOf, typeInfo, t2, t3, hf, k1, goInt]
        split at e4
        · rename_i hle
          rw [Nat.ble_eq] at hle
          exact fin k l l' (Nat.min_eq_left hle) s2 (by have := s1' k (Nat.le_refl _); rwa [List.take_of_length_le (by omega)] at this) e4
        · rename_i hle
          have hle' : m ≤ k := by
            rcases Nat.le_total k m with h1 | h1
            · have := Nat.ble_eq.mpr h1; rw [hle] at this; cases this
            · exact h1
          exact fin m _ _ (Nat.min_eq_right hle') (s2.take (m * size)) (s1' m hle') e4
      · rw [HM.fail_iff] at e; cases e
    · rw [HM.fail_iff] at e; cases e
  · -- delete
    rename_i m k t t'
    split at e
    · rename_i u v hu hv
      obtain ⟨w2, h1, h2⟩ := delete_run (t' := t') (ty := default) hw (hr.ev hu) (hr.ev hv) e
      exact eff_b ho (s := Builtin.delete_ #[t, t'] default #[a.eval m, a.eval k]) (fun _ => rfl) h1 h2
    · rw [HM.fail_iff] at e; cases e
  · -- clear
    rename_i m t
    split at e
    · rename_i kt et b ht hm
      rw [HM.bind_iff] at e
      obtain ⟨⟨⟨es, k2⟩, zn, zh, zr, zw⟩, e3, y2, e4, rfl⟩ := e
      obtain ⟨e6, e7⟩ := getM_inv e3
      simp only at e4 e6 e7
      subst e6
      simp only [HM.bind_iff, HM.pure_iff, setO_iff] at e4
      obtain ⟨_, ⟨_, rfl⟩, _, rfl, rfl⟩ := e4
      obtain ⟨p, p1, p2⟩ := (hr.ev hm).map_inv
      obtain ⟨_, es', h2, h3⟩ := hw.mapRow e7 p1
      refine eff_b ho (s := Builtin.clear_ #[t] default #[a.eval m]) (fun _ => rfl) (v2 := .tuple #[]) (w2 := { w with heap := w.heap.setIfInBounds p.blk (.map #[] k2) }) ?_ ⟨ρ, Pm.le_refl _, hw.mapHeap e7 p1 (es2 := []) (es2' := #[]) ⟨rfl, fun i a b ha => by simp at ha⟩, G.of_closed 1 _ rfl⟩
      simp [Builtin.clear_, run_underlying ht, p2, run_getMap h2, run_setMap h2]
    · rw [HM.fail_iff] at e; cases e
  · exact hclo e
  · exact hclo e
  · -- unsafe.SliceData
    rename_i y t
    split at e
    · rename_i b off sp m c hy
      have := HM.pure_iff.1 e
      subst this
      obtain ⟨p, c', p1, p2, p3⟩ := (hr.ev hy).slice_inv
      refine eff_b ho (s := Builtin.unsafeSliceData_ #[t] o.type #[a.eval y]) (fun _ => rfl) (v2 := .pointer (some ⟨p.blk, p.base + off, none⟩)) (w2 := w) ?_ (post_same hw (.ptr p1))
      rw [p2]
      refine Lib.run_unsafeSliceData_row w #[t] o.type _ m c' ?_
      rcases p3 with ⟨_, rfl⟩ | ⟨_, rfl⟩ <;> omega
    · rw [HM.fail_iff] at e; cases e
  · -- unsafe.String
    rename_i y z t t'
    cases hy : evA g y with
    | none => rw [hy] at e; unfold unsafeStringA at e; simp only at e; rw [HM.fail_iff] at e; cases e
    | some u =>
      cases hz : evA g z with
      | none => rw [hy, hz] at e; unfold unsafeStringA at e; simp only at e; rw [HM.fail_iff] at e; cases e
      | some v =>
        rw [hy, hz] at e
        obtain ⟨v2, w2, h1, h2⟩ := unsafeString_run (it := t') (ty := default) hw (hr.ev hy) (hr.ev hz) e
        exact eff_b ho (s := Builtin.unsafeString_ #[t, t'] default #[a.eval y, a.eval z]) (fun _ => rfl) h1 h2
  · rw [HM.fail_iff] at e; cases e

/-! all operations -/
theorem call_ok {call : FuncId → List Value → HM Value} (hC : CallOk P w0 call) (hr : Reg ρ nt g a) (hw : W P w0 ρ h w) {c : Call} {y : Operand} (ho : o.op = .call c) (hc : c.callee = .value y) {f : FuncId} {fi cp : Array Value} {args : List Value} (hy : evA g y = some (.func (.func f) fi cp)) (ha : allSome (c.args.toList.map (evA g)) = some args)
    (e : (call f (fi.toList ++ args ++ cp.toList)).run n h = some x) : effAt P o a w (Post P w0 ρ x) := by
  obtain ⟨k, fi', cp', h1, h2, h3, h4⟩ := (hr.ev hy).func_inv
  cases h1
  have hg := (h3.append (allSome_GL hr ha)).append h4
  have q := hC _ _ _ _ _ e ρ w _ hw hg
  have he : (execOp a.eval o).run P w = (callFunc f (fi'.toList ++ c.args.toList.map a.eval ++ cp'.toList).toArray).run P w := by
    unfold execOp
    simp only [ho, resolve, hc, h2, Deferred.ofValue, Sem.run_bind, Sem.run_pure, Result.andThen_ok, invoke]
    congr 2
    apply Array.ext'
    simp
  unfold effAt
  rw [he]
  exact q

/-! values alone -/
theorem addF_eq (a b : Int) : addF a b = a + b := by cases a <;> cases b <;> rfl
theorem subF_eq (a b : Int) : subF a b = a - b := by
  unfold subF
  split
  · split
    · rename_i x y _ h; rw [Nat.ble_eq] at h; show ((x - y : Nat) : Int) = (x : Int) - (y : Int); omega
    · rename_i x y _ h
      have : ¬ y ≤ x := fun h2 => by rw [← Nat.ble_eq, h] at h2; cases h2
      show Int.negSucc (y - x - 1) = (x : Int) - (y : Int)
      omega
  · rfl
theorem mulF_eq (a b : Int) : mulF a b = a * b := by cases a <;> cases b <;> rfl
theorem ltF_eq (a b : Int) : ltF a b = decide (a < b) := by
  have key : ∀ x y : Nat, Nat.blt x y = decide (x < y) := fun x y => by
    cases h : Nat.blt x y with
    | true => rw [Nat.blt_eq] at h; simp [h]
    | false => have : ¬ x < y := fun h2 => by rw [← Nat.blt_eq, h] at h2; cases h2
               simp [this]
  unfold ltF
  split
  · rename_i x y; rw [key]; simp
  · rename_i x y; symm; simp only [decide_eq_true_eq, Int.ofNat_eq_natCast]; have := Int.negSucc_lt_zero x; omega
  · rename_i x y; symm; simp only [decide_eq_false_iff_not, Int.ofNat_eq_natCast]; have := Int.negSucc_lt_zero y; omega
  · rename_i x y; rw [key]; simp only [decide_eq_decide, Int.negSucc_eq]; omega
theorem eqF_eq (a b : Int) : eqF a b = (a == b) := by
  unfold eqF
  split
  · rename_i x y; rw [beq_dec, Bool.eq_iff_iff]; simp only [decide_eq_true_eq, beq_iff_eq, Int.ofNat_eq_natCast]; omega
  · rename_i x y; rw [beq_dec, Bool.eq_iff_iff]; simp only [decide_eq_true_eq, beq_iff_eq]; omega
  · rename_i h1 h2
    cases a <;> cases b
    · exact (h1 _ _ rfl rfl).elim
    · rfl
    · rfl
    · exact (h2 _ _ rfl rfl).elim
theorem wrapF_eq (k : IntKind) (m : Int) : wrapF k m = k.wrap m := by
  unfold wrapF
  split
  · split
    · rename_i x h; rw [Nat.blt_eq] at h; rw [IntKind.wrap_i64]; simp only [Int.ofNat_eq_natCast]; omega
    · rfl
  · split
    · rename_i x h; rw [Nat.blt_eq] at h; rw [IntKind.wrap_i64]; omega
    · rfl
  · rfl
theorem ikN_inj {k k' : IntKind} (h : Nat.beq (ikN k) (ikN k') = true) : k' = k := by
  have := Nat.eq_of_beq_eq_true h
  cases k <;> cases k' <;> first | rfl | (simp [ikN] at this)
theorem binI_run {op : BinOp} {k : IntKind} {p q : Int} {v : Value} (e : binI op k p q = some v) (t : TypeId) (y z : Operand) : flat v = true ∧ (do eqGuard op t y z (.int k p) (.int k q); binOp op t (.int k p) (.int k q) : Sem Value).run P w = .ok v w := by
  have hg : (eqGuard op t y z (.int k p) (.int k q)).run P w = .ok () w := by cases op <;> rfl
  rw [Sem.run_bind, hg]
  have hcmp : ∀ b : Bool, (∀ u, binOp op t (.int k p) (.int k q) = u → u.run P w = .ok (.bool b) w) → some (Value.bool b) = some v → flat v = true ∧ (binOp op t (.int k p) (.int k q)).run P w = .ok v w := fun b hb hv => by
    cases hv
    exact ⟨rfl, hb _ rfl⟩
  show flat v = true ∧ (binOp op t (.int k p) (.int k q)).run P w = .ok v w
  cases op <;> simp only [binI] at e
  case add => cases e; exact ⟨rfl, by simp [binOp, Op.intArith, addF_eq, wrapF_eq]⟩
  case sub => cases e; exact ⟨rfl, by simp [binOp, Op.intArith, subF_eq, wrapF_eq]⟩
  case mul => cases e; exact ⟨rfl, by simp [binOp, Op.intArith, mulF_eq, wrapF_eq]⟩
  case quo =>
    split at e
    · rename_i x y
      cases e
      refine ⟨rfl, ?_⟩
      have h0 : ¬ ((Int.ofNat (y + 1)) = 0) := by simp only [Int.ofNat_eq_natCast]; omega
      have h1 : (Int.ofNat x).tdiv (Int.ofNat (y + 1)) = Int.ofNat (x / (y + 1)) := by simp [Int.ofNat_eq_natCast]
      simp only [binOp, ne_eq, not_true_eq_false, if_false, Op.intDiv, if_neg h0, h1, wrapF_eq, Sem.run_pure]
    · cases e
  case rem =>
    split at e
    · rename_i x y
      cases e
      refine ⟨rfl, ?_⟩
      have h0 : ¬ ((Int.ofNat (y + 1)) = 0) := by simp only [Int.ofNat_eq_natCast]; omega
      have h1 : (Int.ofNat x).tmod (Int.ofNat (y + 1)) = Int.ofNat (x % (y + 1)) := rfl
      simp only [binOp, ne_eq, not_true_eq_false, if_false, Op.intDiv, if_neg h0, h1, Sem.run_pure]
    · cases e
  case eql => exact hcmp _ (fun u hu => by subst hu; simp [binOp, Op.intCmp, eqF_eq]) e
  case neq => exact hcmp _ (fun u hu => by subst hu; simp [binOp, Op.intCmp, eqF_eq, bne]) e
  case lss => exact hcmp _ (fun u hu => by subst hu; simp [binOp, Op.intCmp, ltF_eq]) e
  case gtr => exact hcmp _ (fun u hu => by subst hu; simp [binOp, Op.intCmp, ltF_eq]) e
  case leq =>
    refine hcmp _ (fun u hu => ?_) e
    subst hu
    have : (!ltF q p) = decide (p ≤ q) := by rw [ltF_eq, ← decide_not, decide_eq_decide]; omega
    rw [this]
    simp [binOp, Op.intCmp]
  case geq =>
    refine hcmp _ (fun u hu => ?_) e
    subst hu
    have : (!ltF p q) = decide (p ≥ q) := by rw [ltF_eq, ← decide_not, decide_eq_decide]; omega
    rw [this]
    simp [binOp, Op.intCmp]
  all_goals cases e

theorem flat_G {v : Value} (hf : flat v = true) : G ρ v v := .flat hf
theorem bin_ok (hr : Reg ρ nt g a) (hw : W P w0 ρ h w) {op : BinOp} {t yt : TypeId} {y z : Operand} (ho : o.op = .binOp op t y z yt) {v : Value} (hv : binP op (evA g y) (evA g z) = some v) (e : (HM.pure v).run n h = some x) : effAt P o a w (Post P w0 ρ x) := by
  unfold binP at hv
  split at hv
  · rename_i k p k' q hy hz
    split at hv
    · rename_i hk
      obtain rfl := ikN_inj hk
      obtain ⟨h1, h2⟩ := binI_run (P := P) (w := w) hv t y z
      refine pure_ok' hw e (v' := v) ?_ (flat_G h1)
      unfold execOp
      simp only [ho, (hr.ev hy).int_eq, (hr.ev hz).int_eq]
      rw [Sem.run_bind, h2]
      rfl
    · cases hv
  · cases hv
theorem un_ok (hr : Reg ρ nt g a) (hw : W P w0 ρ h w) {op : UnOp} {t : TypeId} {y : Operand} (ho : o.op = .unOp op t y) {v : Value} (hv : unP op (evA g y) = some v) (e : (HM.pure v).run n h = some x) : effAt P o a w (Post P w0 ρ x) := by
  unfold unP at hv
  split at hv
  · rename_i b hy
    cases hv
    refine pure_ok' hw e (v' := .bool !b) ?_ (.flat rfl)
    unfold execOp
    simp only [ho, (hr.ev hy).bool_eq]
    simp [Op.unary]
  · cases hv
theorem convI_ok (hr : Reg ρ nt g a) (hw : W P w0 ρ h w) {src dst : TypeId} {y : Operand} (ho : o.op = .convert src dst y) {v : Value} (hv : convP P src dst (evA g y) = some v) (e : (HM.pure v).run n h = some x) : effAt P o a w (Post P w0 ρ x) := by
  unfold convP at hv
  split at hv
  · rename_i k m hy
    split at hv
    · rename_i d k' hs hd
      cases hv
      refine pure_ok' hw e (v' := .int k' (wrapF k' m)) ?_ (.flat rfl)
      unfold execOp
      simp only [ho, (hr.ev hy).int_eq]
      simp [convert, run_underlying hs, run_underlying hd, Conv.intToInt, wrapF_eq]
    · cases hv
  · cases hv
theorem assertN_ok (hr : Reg ρ nt g a) (hw : W P w0 ρ h w) {xt t u : TypeId} {y : Operand} (ho : o.op = .typeAssert y xt t true) {d : TypeDesc} {v z : Value} {i : TypeInfo} (ht : P.underlying t = some d) (hd : ∀ m, d ≠ .interface m) (hy : evA g y = some (.iface u v)) (hne : u ≠ t) (hi : P.info? t = some i) (hz : i.zero = some z) (hc : closedB CD z = true)
    (e : (HM.pure (.tuple #[z, .bool false])).run n h = some x) : effAt P o a w (Post P w0 ρ x) := by
  obtain ⟨u', k1, k2⟩ := (hr.ev hy).iface_inv
  refine pure_ok' hw e (v' := .tuple #[z, .bool false]) ?_ ((GL.cons (G.of_closed _ _ hc) (GL.cons (.flat rfl) .nil)).tuple)
  unfold execOp
  simp only [ho, Instr.typeAssert, Sem.run_bind, run_underlying ht, Result.andThen_ok, k1]
  cases d <;> first | (exact absurd rfl (hd _)) | simp [hne, zeroValue, typeInfo, hi, hz]
theorem len_ok (hr : Reg ρ nt g a) (hw : W P w0 ρ h w) {c : Call} (ho : o.op = .call c) {v : Value} (hv : pureC P (evA g) c = some v) (e : (HM.pure v).run n h = some x) : effAt P o a w (Post P w0 ρ x) := by
  unfold pureC at hv
  split at hv
  · rename_i b hb
    obtain ⟨callee, args, argTypes⟩ := c
    simp only at hb hv
    subst hb
    obtain ⟨args⟩ := args
    obtain ⟨argTypes⟩ := argTypes
    simp only at hv
    unfold lenP at hv
    split at hv
    · rename_i y t
      split at hv
      · rename_i et ad m c ht hy
        cases hv
        have := HM.pure_iff.1 e
        subst this
        obtain ⟨b, off, sp⟩ := ad
        obtain ⟨p, c', p1, p2, _⟩ := (hr.ev hy).slice_inv
        refine eff_b ho (s := Builtin.len_ #[t] default #[a.eval y]) (fun _ => rfl) (v2 := .int .i64 m) (w2 := w) ?_ (post_same hw (.flat rfl))
        simp [Builtin.len_, run_underlying ht, p2, goInt]
      · cases hv
    · cases hv
  · cases hv

theorem okOf_spec (op : Op) : match okOf op with
    | .mv x => op = .move x ∨ op = .assign x
    | .pk c a b => op = .pick c a b
    | .bin b x y => ∃ t yt, op = .binOp b t x y yt
    | .fa t x f => op = .fieldAddr t x f
    | .ia t x i => op = .indexAddr t x i
    | .no => True
    | .rest => True := by cases op <;> simp [okOf]
theorem fa_ok (hr : Reg ρ nt g a) (hw : W P w0 ρ h w) {t : TypeId} {y : Operand} {f : Nat} (ho : o.op = .fieldAddr t y f) {v : Value} (hv : faP P t (evA g y) f = some v) (e : (HM.pure v).run n h = some x) : effAt P o a w (Post P w0 ρ x) := by
  unfold faP at hv
  split at hv
  · rename_i fs b off ht hy
    split at hv
    · rename_i fd hf
      split at hv
      · rename_i r m hk; cases hv; exact fieldAddr_ok hr hw ho ht hy hf hk e
      · cases hv
    · cases hv
  · cases hv
theorem ia_ok (hr : Reg ρ nt g a) (hw : W P w0 ρ h w) {t : TypeId} {y z : Operand} (ho : o.op = .indexAddr t y z) {v : Value} (hv : iaP P t (evA g y) (natV (evA g z)) = some v) (e : (HM.pure v).run n h = some x) : effAt P o a w (Post P w0 ρ x) := by
  unfold iaP at hv
  split at hv
  · rename_i m et b off i ht hy hz
    split at hv
    · rename_i r size hk hi; rw [Nat.blt_eq] at hi; cases hv; exact indexArr_ok hr hw ho ht hy hz hk hi e
    · cases hv
  · rename_i et b off sp m c i ht hy hz
    split at hv
    · rename_i r size hk hi; rw [Nat.blt_eq] at hi; cases hv; exact indexSl_ok hr hw ho ht hy hz hk hi e
    · cases hv
  · cases hv
theorem mv_ok (hr : Reg ρ nt g a) (hw : W P w0 ρ h w) {y : Operand} (ho : o.op = .move y ∨ o.op = .assign y) {v : Value} (hv : evA g y = some v) (e : (HM.pure v).run n h = some x) : effAt P o a w (Post P w0 ρ x) :=
  move_ok hr hw ho (by rw [hv]; exact e)
theorem pk_ok (hr : Reg ρ nt g a) (hw : W P w0 ρ h w) {c y z : Operand} (ho : o.op = .pick c y z) {v : Value} (hv : pickP (evA g c) (evA g y) (evA g z) = some v) (e : (HM.pure v).run n h = some x) : effAt P o a w (Post P w0 ρ x) := by
  unfold pickP at hv
  split at hv
  · rename_i hc; exact pick_ok hr hw ho (b := true) hc (by rw [if_pos rfl, hv]; exact e)
  · rename_i hc; exact pick_ok hr hw ho (b := false) hc (by rw [if_neg (by simp), hv]; exact e)
  · cases hv
theorem pureR_ok (hr : Reg ρ nt g a) (hw : W P w0 ρ h w) {v : Value} (hv : pureR P (evA g) o.op = some v) (e : (HM.pure v).run n h = some x) : effAt P o a w (Post P w0 ρ x) := by
  unfold pureR at hv
  split at hv
  · rename_i y ho; exact mv_ok hr hw (.inl ho) hv e
  · rename_i y ho; exact mv_ok hr hw (.inr ho) hv e
  · rename_i c y z ho; exact pk_ok hr hw ho hv e
  · rename_i op t y z yt ho; exact bin_ok hr hw ho hv e
  · rename_i op t y ho; exact un_ok hr hw ho hv e
  · rename_i s d y ho; exact convI_ok hr hw ho hv e
  · rename_i t y f ho; exact fa_ok hr hw ho hv e
  · rename_i t y z ho; exact ia_ok hr hw ho hv e
  · rename_i t y f ho
    unfold fieldP at hv
    split at hv
    · rename_i fs cs ht hy
      split at hv
      · rename_i fd hf; exact field_ok hr hw ho ht hy hf (by rw [hv]; exact e)
      · cases hv
    · cases hv
  · rename_i t y z ho
    unfold indexP at hv
    split at hv
    · rename_i m et cs i ht hy hz
      split at hv
      · rename_i r size hk hi; rw [Nat.blt_eq] at hi; exact index_ok hr hw ho ht hy hz hk hi (by rw [hv]; exact e)
      · cases hv
    · cases hv
  · rename_i y i ho
    unfold extractP at hv
    split at hv
    · rename_i vs hy; exact extract_ok hr hw ho hy (by rw [hv]; exact e)
    · cases hv
  · rename_i t y ho
    unfold ifaceP at hv
    split at hv
    · cases hv
    · rename_i d u hd ht hy; cases hv; exact iface_ok hr hw ho ht (fun m h => hd m h) hy e
    · cases hv
  · rename_i y xt t ok ho
    unfold assertP at hv
    split at hv
    · cases hv
    · rename_i d u v hd ht hy
      split at hv
      · rename_i hu
        obtain rfl := Nat.eq_of_beq_eq_true hu
        cases hv
        exact assert_ok hr hw ho ht (fun m h => hd m h) hy e
      · rename_i hu
        split at hv
        · rename_i i hi
          split at hv
          · rename_i z hz
            split at hv
            · rename_i hc
              cases hv
              exact assertN_ok hr hw ho ht (fun m h => hd m h) hy (Nat.ne_of_beq_eq_false hu) hi hz hc e
            · cases hv
          · cases hv
        · cases hv
    · cases hv
  · rename_i f fi cp ho
    unfold funcP at hv
    split at hv
    · rename_i f b c h1 h2; cases hv; exact func_ok hr hw ho h1 h2 e
    · cases hv
  · rename_i y ho
    unfold nilP at hv
    split at hv
    · cases hv
    · cases hv
    · cases hv
    · rename_i f c d hy
      cases hv
      exact nilCheck_ok hr hw ho hy (by simp) (by simp) (by simp) (fun f c d h => by cases h; exact ⟨_, rfl⟩) e
    · cases hv
    · rename_i u h1 h2 h3 h4 h5 hy
      cases hv
      exact nilCheck_ok hr hw ho hy (fun h => h1 h) (fun h => h2 h) (fun h => h3 h) (fun f c d h => (h5 f c d h).elim) e
    · cases hv
  · rename_i t parts ho; exact build_ok hr hw ho (by rw [hv]; exact e)
  · rename_i c ho; exact len_ok hr hw ho hv e
  · cases hv
theorem pureO_ok (hr : Reg ρ nt g a) (hw : W P w0 ρ h w) {v : Value} (hv : pureO P (evA g) o.op = some v) (e : (HM.pure v).run n h = some x) : effAt P o a w (Post P w0 ρ x) := by
  have hs := okOf_spec o.op
  unfold pureO at hv
  split at hv <;> rename_i hok <;> rw [hok] at hs <;> simp only at hs
  · exact mv_ok hr hw hs hv e
  · exact pk_ok hr hw hs hv e
  · obtain ⟨t, yt, ho⟩ := hs; exact bin_ok hr hw ho hv e
  · exact fa_ok hr hw hs hv e
  · exact ia_ok hr hw hs hv e
  · cases hv
  · exact pureR_ok hr hw hv e

theorem opM_ok {call : FuncId → List Value → HM Value} (hC : CallOk P w0 call) (hr : Reg ρ nt g a) (hw : W P w0 ρ h w) (e : (opM P call (evA g) o).run n h = some x) : effAt P o a w (Post P w0 ρ x) := by
  unfold opM at e
  split at e
  · rename_i t ho
    unfold allocA at e
    split at e
    · rename_i hz; exact alloc_ok hw ho hz e
    · rw [HM.fail_iff] at e; cases e
  · rename_i t y ho
    unfold boxA at e
    split at e
    · rename_i v hv; exact box_ok hr hw ho hv e
    · rw [HM.fail_iff] at e; cases e
  · rename_i t y ho; exact load_ok hr hw ho e
  · rename_i t y z ho
    unfold storeA at e
    split at e
    · rename_i b off v r m hy hz hk
      split at e
      · rename_i hl; exact store_ok hr hw ho hy hz hk (Nat.eq_of_beq_eq_true hl) e
      · rw [HM.fail_iff] at e; cases e
    · rw [HM.fail_iff] at e; cases e
  · rename_i op t y z yt ho
    unfold binA at e
    split at e
    · exact eq_ok (neg := false) hr hw ho e
    · exact eq_ok (neg := true) hr hw ho e
    · exact clo_ok hr hw (fun cs b => by rw [ho]; simp) e
  · rename_i ho; exact clo_ok hr hw (fun cs b => by rw [ho]; simp) e
  · rename_i s d y ho; exact conv_ok hr hw ho e
  · rename_i ho; exact clo_ok hr hw (fun cs b => by rw [ho]; simp) e
  · rename_i t y z ho
    unfold globA at e
    split at e
    · rename_i k
      split at e
      · rename_i m et i ht hz
        split at e
        · rename_i r size hk hi
          rw [Nat.blt_eq] at hi
          rw [HM.bind_iff] at e
          obtain ⟨z1, e1, x2, e2, rfl⟩ := e
          have := HM.pure_iff.1 e2
          subst this
          obtain ⟨e3, e4⟩ := getG_inv e1
          obtain ⟨q, q1, q2, _⟩ := hw.obj _ _ e4
          obtain ⟨kd, k3⟩ := ev_nat hr hz
          obtain ⟨d, ii, t1, t2, t3, t4⟩ := tk_spec hk
          have hg := G.ptr (ρ := ρ) (off := i * size) q1
          rw [q2] at hg
          refine effAt_value (v := .pointer (some ⟨k, i * size, none⟩)) (w' := w) ?_ ⟨ρ, Pm.le_refl _, by rw [e3]; exact hw, by unfold ptr; simpa using hg⟩
          have hx : a.eval (.global k) = .pointer (some ⟨k, 0, none⟩) := rfl
          unfold execOp
          simp [ho, k3, hx, Instr.indexAt, asIntOf, run_underlying ht, Instr.sureAddr, sizeOf, typeInfo, t2, t3, hi, Addr.add_mid]
        · rw [HM.fail_iff] at e; cases e
      · rw [HM.fail_iff] at e; cases e
    · rw [HM.fail_iff] at e; cases e
  · rename_i t y lo hi mx ho; exact slice_ok hr hw ho e
  · rename_i t r ho
    unfold makeMapA at e
    split at e
    · rename_i kt et ht hn
      refine makeMap_ok hr hw ho ht (fun y hy => ?_) e
      subst hy
      unfold intO at hn
      simp only at hn
      split at hn
      · rename_i k i hy; exact ⟨k, i, hy⟩
      · cases hn
    · rw [HM.fail_iff] at e; cases e
  · rename_i t y z ho
    unfold makeSliceA at e
    split at e
    · rename_i et l c ht hy hz
      split at e
      · rename_i zl i hzl hi
        split at e
        · rename_i hb
          simp only [Bool.and_eq_true, Nat.ble_eq] at hb
          exact makeSlice_ok hr hw ho ht hy hz hzl hi hb.1.1.1 hb.1.1.2 hb.1.2 (Nat.eq_of_beq_eq_true hb.2) e
        · rw [HM.fail_iff] at e; cases e
      · rw [HM.fail_iff] at e; cases e
    · rw [HM.fail_iff] at e; cases e
  · rename_i t len parts ho
    unfold buildSliceA at e
    split at e
    · rename_i et ht
      split at e
      · rename_i z i hz hi
        split at e
        · rename_i c hb hc
          simp only [Bool.and_eq_true, Nat.ble_eq] at hb
          exact buildSlice_ok hr hw ho ht hz hi hb.1 (Nat.eq_of_beq_eq_true hb.2) hc e
        · rw [HM.fail_iff] at e; cases e
      · rw [HM.fail_iff] at e; cases e
    · rw [HM.fail_iff] at e; cases e
  · rename_i t m k ok ho
    unfold lookupO at e
    split at e
    · rename_i m' k' hm hk
      obtain ⟨v', h1, h2⟩ := lookup_run hw (hr.ev hm) (hr.ev hk) e
      exact eff_v (s := Instr.lookup t (a.eval m) (a.eval k) ok) (by unfold execOp; simp only [ho]) h1 h2
    · rw [HM.fail_iff] at e; cases e
  · rename_i t m k y ho
    unfold updateO at e
    split at e
    · rename_i m' k' y' hm hk hy
      obtain ⟨w2, h1, h2⟩ := update_run hw (hr.ev hm) (hr.ev hk) (hr.ev hy) e
      exact eff_u (s := Instr.mapUpdate t (a.eval m) (a.eval k) (a.eval y)) (by unfold execOp; simp only [ho]) h1 h2
    · rw [HM.fail_iff] at e; cases e
  · rename_i t y ho; exact range_ok hr hw ho e
  · rename_i y str ho; exact next_ok hr hw ho e
  · rename_i c ho
    unfold callO at e
    split at e
    · rename_i y hc
      split at e
      · rename_i f fi cp args hy ha; exact call_ok hC hr hw ho hc hy ha e
      · rw [HM.fail_iff] at e; cases e
    · rename_i b hc; exact builtin_ok hr hw ho hc e
    · rw [HM.fail_iff] at e; cases e
  · rw [HM.fail_iff] at e; cases e
theorem opV_ok {call : FuncId → List Value → HM Value} (hC : CallOk P w0 call) (hr : Reg ρ nt g a) (hw : W P w0 ρ h w) (e : (opV P call (evA g) o).run n h = some x) : effAt P o a w (Post P w0 ρ x) := by
  unfold opV at e
  split at e
  · rename_i v hv; exact pureO_ok hr hw hv e
  · exact opM_ok hC hr hw e
end
end Cl
end Go.Proofs.YtcihbmifogfdpaaGreatDoor

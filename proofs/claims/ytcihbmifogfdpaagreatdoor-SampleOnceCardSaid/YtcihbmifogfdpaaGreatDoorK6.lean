/-
  What the machine does for an operation is what the operation does (parts of values, comparisons, places, slicing).
-/
import Derived.Test.YtcihbmifogfdpaaGreatDoorK5
import Derived.ChangeKeysEq
import Derived.Laws.StructEq
namespace Go.Proofs.YtcihbmifogfdpaaGreatDoor
open Go.RowKit
namespace Cl

section
variable {P : Program} {w0 w w' : World} {ρ : Pm} {nt : Nat} {g : Regs} {a : Act} {h : H} {n : Nat} {o : Oper} {x : Res Value} {v' : Value} {post : Value → World → Prop}

theorem beq_dec (i j : Nat) : Nat.beq i j = decide (i = j) := by
  cases e : Nat.beq i j with
  | true => have := Nat.eq_of_beq_eq_true e; simp [this]
  | false => have := Nat.ne_of_beq_eq_false e; simp [this]
theorem pure_ok' (hw : W P w0 ρ h w) {v v' : Value} (e : (pure v : HM Value).run n h = some x) (hrun : (execOp a.eval o).run P w = .ok (.value v') w) (hg : G ρ v v') : effAt P o a w (Post P w0 ρ x) := by
  rw [HM.pure_iff] at e
  subst e
  exact effAt_value hrun (post_same hw hg)

theorem run_isAgg {t : TypeId} {d : TypeDesc} (hu : P.underlying t = some d) : (isAgg t).run P w = .ok d.isRow w := by
  unfold isAgg
  rw [Sem.run_bind, run_underlying hu w]
  cases d <;> rfl
theorem part_run {t : TypeId} {cs cs' : List Value} {off : Nat} {v : Value} (hcs : GL ρ cs cs') (e : partA P t cs off = some v) : ∃ v', (part t cs'.toArray off).run P w = .ok v' w ∧ G ρ v v' := by
  unfold partA at e
  split at e
  · rename_i m ht
    cases e
    obtain ⟨d, i, t1, t2, t3, t4⟩ := tk_spec ht
    refine ⟨_, ?_, ((hcs.drop off).take m).agg⟩
    simp only [part, Sem.run_bind, run_isAgg t1, t4, Result.andThen_ok, sizeOf, typeInfo, run_program, t2, Sem.run_pure, if_true, t3]
    congr 2
    apply Array.ext'
    simp [List.extract_eq_take_drop]
  · rename_i m ht
    obtain ⟨d, i, t1, t2, t3, t4⟩ := tk_spec ht
    obtain ⟨u', e1, e2⟩ := hcs.get e
    refine ⟨u', ?_, e2⟩
    simp [part, run_isAgg t1, t4, e1]
  · cases e
theorem field_ok (hr : Reg ρ nt g a) (hw : W P w0 ρ h w) {t : TypeId} {y : Operand} {f : Nat} (ho : o.op = .field t y f) {fs : Array Field} {cs : Array Value} {fd : Field} (ht : P.underlying t = some (.struct fs)) (hy : evA g y = some (.agg cs)) (hf : fs[f]? = some fd)
    (e : (HM.opt (partA P fd.type cs.toList fd.offset)).run n h = some x) : effAt P o a w (Post P w0 ρ x) := by
  obtain ⟨c', k1, k2⟩ := (hr.ev hy).agg_inv
  refine opt_ok hw e fun v hv => ?_
  obtain ⟨v', r1, r2⟩ := part_run (w := w) k2 hv
  refine ⟨v', ?_, r2⟩
  unfold execOp
  simp only [ho, k1, Instr.field, Sem.run_bind, run_underlying ht, Result.andThen_ok, hf, asAgg, Sem.run_pure]
  rw [show c'.toList.toArray = c' by simp] at r1
  rw [r1]
  rfl
theorem index_ok (hr : Reg ρ nt g a) (hw : W P w0 ρ h w) {t et : TypeId} {y z : Operand} (ho : o.op = .index t y z) {m i size : Nat} {r : Bool} {cs : Array Value} (ht : P.underlying t = some (.array m et)) (hy : evA g y = some (.agg cs)) (hz : natV (evA g z) = some i) (hk : tk P et = some (r, size)) (hi : i < m)
    (e : (HM.opt (partA P et cs.toList (i * size))).run n h = some x) : effAt P o a w (Post P w0 ρ x) := by
  obtain ⟨c', k1, k2⟩ := (hr.ev hy).agg_inv
  obtain ⟨kd, k3⟩ := ev_nat hr hz
  refine opt_ok hw e fun v hv => ?_
  obtain ⟨v', r1, r2⟩ := part_run (w := w) k2 hv
  refine ⟨v', ?_, r2⟩
  obtain ⟨d, ii, t1, t2, t3, t4⟩ := tk_spec hk
  unfold execOp
  rw [show c'.toList.toArray = c' by simp] at r1
  simp [ho, k1, k3, Instr.index, asIntOf, run_underlying ht, sizeOf, typeInfo, t2, t3, hi, r1]
theorem extract_ok (hr : Reg ρ nt g a) (hw : W P w0 ρ h w) {y : Operand} {i : Nat} (ho : o.op = .extract y i) {vs : Array Value} (hy : evA g y = some (.tuple vs)) (e : (HM.opt vs.toList[i]?).run n h = some x) : effAt P o a w (Post P w0 ρ x) := by
  obtain ⟨c', k1, k2⟩ := (hr.ev hy).tuple_inv
  refine opt_ok hw e fun v hv => ?_
  obtain ⟨u', e1, e2⟩ := k2.get hv
  refine ⟨u', ?_, e2⟩
  rw [Array.getElem?_toList] at e1
  unfold execOp
  simp [ho, k1, Instr.extract, e1]
theorem iface_ok (hr : Reg ρ nt g a) (hw : W P w0 ρ h w) {t : TypeId} {y : Operand} (ho : o.op = .makeInterface t y) {d : TypeDesc} {v : Value} (ht : P.underlying t = some d) (hd : ∀ m, d ≠ .interface m) (hy : evA g y = some v) (e : (pure (.iface t v) : HM Value).run n h = some x) : effAt P o a w (Post P w0 ρ x) := by
  refine pure_ok' hw e (v' := .iface t (a.eval y)) ?_ (.iface (hr.ev hy))
  unfold execOp
  simp only [ho, Instr.makeInterface, Sem.run_bind, run_underlying ht, Result.andThen_ok]
  cases d <;> first | rfl | exact absurd rfl (hd _)
theorem assert_ok (hr : Reg ρ nt g a) (hw : W P w0 ρ h w) {xt t : TypeId} {y : Operand} {ok : Bool} (ho : o.op = .typeAssert y xt t ok) {d : TypeDesc} {v : Value} (ht : P.underlying t = some d) (hd : ∀ m, d ≠ .interface m) (hy : evA g y = some (.iface t v))
    (e : (pure (if ok then .tuple #[v, .bool true] else v) : HM Value).run n h = some x) : effAt P o a w (Post P w0 ρ x) := by
  obtain ⟨u', k1, k2⟩ := (hr.ev hy).iface_inv
  refine pure_ok' hw e (v' := if ok then .tuple #[u', .bool true] else u') ?_ ?_
  · unfold execOp
    simp only [ho, Instr.typeAssert, Sem.run_bind, run_underlying ht, Result.andThen_ok, k1]
    cases d <;> first | (exact absurd rfl (hd _)) | simp
  · cases ok
    · exact k2
    · exact (GL.cons k2 (GL.cons (.flat rfl) .nil)).tuple
theorem func_ok (hr : Reg ρ nt g a) (hw : W P w0 ρ h w) {f : FuncId} {fi cp : Array Operand} (ho : o.op = .makeFunc (.func f) fi cp) {b c : List Value} (h1 : allSome (fi.toList.map (evA g)) = some b) (h2 : allSome (cp.toList.map (evA g)) = some c) (e : (pure (.func (.func f) b.toArray c.toArray) : HM Value).run n h = some x) : effAt P o a w (Post P w0 ρ x) := by
  have g1 := allSome_GL hr h1
  have g2 := allSome_GL hr h2
  refine pure_ok' hw e (v' := .func (.func f) (fi.map a.eval) (cp.map a.eval)) ?_ (.func ?_ ?_ (fun i u u' hu hu' => ?_) (fun i u u' hu hu' => ?_))
  · unfold execOp
    simp only [ho]
    rfl
  · have := g1.1; simpa using this
  · have := g2.1; simpa using this
  · refine g1.2 i u u' (by simpa using hu) ?_
    rw [← hu', ← Array.getElem?_toList, Array.toList_map]
  · refine g2.2 i u u' (by simpa using hu) ?_
    rw [← hu', ← Array.getElem?_toList, Array.toList_map]

/-! places -/
theorem fieldAddr_ok (hr : Reg ρ nt g a) (hw : W P w0 ρ h w) {t : TypeId} {y : Operand} {f : Nat} (ho : o.op = .fieldAddr t y f) {fs : Array Field} {fd : Field} {b off m : Nat} {r : Bool} (ht : P.underlying t = some (.struct fs)) (hy : adr (evA g y) = some (b, off)) (hf : fs[f]? = some fd) (hk : tk P fd.type = some (r, m + 1))
    (e : (pure (ptr b (off + fd.offset)) : HM Value).run n h = some x) : effAt P o a w (Post P w0 ρ x) := by
  obtain ⟨p, p1, p2⟩ := ev_adr hr hy
  obtain ⟨d, i, t1, t2, t3, t4⟩ := tk_spec hk
  refine pure_ok' hw e (v' := .pointer (some ⟨p.blk, p.base + (off + fd.offset), none⟩)) ?_ (.ptr p1)
  unfold execOp
  simp only [ho, p2, Instr.fieldAt, Sem.run_bind, run_underlying ht, Result.andThen_ok, hf, Instr.sureAddr, Sem.run_pure, fieldPlace, sizeOf, typeInfo, run_program, t2, t3]
  simp [Addr.add_mid, Nat.add_assoc]
theorem indexArr_ok (hr : Reg ρ nt g a) (hw : W P w0 ρ h w) {t et : TypeId} {y z : Operand} (ho : o.op = .indexAddr t y z) {b off m i size : Nat} {r : Bool} (ht : P.underlying t = some (.array m et)) (hy : evA g y = some (.pointer (some ⟨b, off, none⟩))) (hz : natV (evA g z) = some i) (hk : tk P et = some (r, size)) (hi : i < m)
    (e : (pure (ptr b (off + i * size)) : HM Value).run n h = some x) : effAt P o a w (Post P w0 ρ x) := by
  obtain ⟨p, p1, p2⟩ := (hr.ev hy).ptr_inv
  obtain ⟨kd, k3⟩ := ev_nat hr hz
  obtain ⟨d, ii, t1, t2, t3, t4⟩ := tk_spec hk
  refine pure_ok' hw e (v' := .pointer (some ⟨p.blk, p.base + (off + i * size), none⟩)) ?_ (.ptr p1)
  unfold execOp
  simp [ho, p2, k3, Instr.indexAt, asIntOf, run_underlying ht, Instr.sureAddr, sizeOf, typeInfo, t2, t3, hi, Addr.add_mid, Nat.add_assoc]
theorem indexSl_ok (hr : Reg ρ nt g a) (hw : W P w0 ρ h w) {t et : TypeId} {y z : Operand} (ho : o.op = .indexAddr t y z) {b off m c i size : Nat} {sp : Option Nat} {r : Bool} (ht : P.underlying t = some (.slice et)) (hy : evA g y = some (.slice (some ⟨b, off, sp⟩) m c)) (hz : natV (evA g z) = some i) (hk : tk P et = some (r, size)) (hi : i < m)
    (e : (pure (ptr b (off + i * size)) : HM Value).run n h = some x) : effAt P o a w (Post P w0 ρ x) := by
  obtain ⟨p, c', p1, p2, _⟩ := (hr.ev hy).slice_inv
  obtain ⟨kd, k3⟩ := ev_nat hr hz
  obtain ⟨d, ii, t1, t2, t3, t4⟩ := tk_spec hk
  refine pure_ok' hw e (v' := .pointer (some ⟨p.blk, p.base + (off + i * size), none⟩)) ?_ (.ptr p1)
  unfold execOp
  simp [ho, p2, k3, Instr.indexAt, asIntOf, run_underlying ht, sizeOf, typeInfo, t2, t3, hi, Addr.add_mid, Nat.add_assoc]

/-! equality -/
theorem eqV_run (hw : W P w0 ρ h w) {t : TypeId} {u v u' v' : Value} {y : Res Bool} (hu : G ρ u u') (hv : G ρ v v') (e : (eqV P t u v).run n h = some y) :
    y.h = h ∧ (∀ (op : BinOp) (p q : Operand), (eqGuard op t p q u' v').run P w = .ok () w) ∧ (∀ d : Nat, (Op.equalIn (d + 1) t u' v').run P w = .ok y.a w) ∧ (binOp .eql t u' v').run P w = .ok (.bool y.a) w ∧ (binOp .neq t u' v').run P w = .ok (.bool !y.a) w := by
  have key : ∀ (b : Bool), (∀ d : Nat, (Op.equalIn (d + 1) t u' v').run P w = .ok b w) → (Op.equal t u' v').run P w = .ok b w := fun b hk => hk 9999
  unfold eqV at e
  split at e
  · -- two addresses
    rename_i el A i B j ht
    obtain ⟨p, p1, rfl⟩ := hu.ptr_inv
    obtain ⟨q, q1, rfl⟩ := hv.ptr_inv
    split at e
    · rename_i r m hk
      simp only [HM.bind_iff, HM.pure_iff] at e
      obtain ⟨z1, e1, _, ⟨z2, e2, _, rfl, rfl⟩, rfl⟩ := e
      obtain ⟨e3, e4⟩ := getC_inv e1
      obtain ⟨e5, e6⟩ := getC_inv e2
      rw [e3] at e6 e5
      obtain ⟨d, ii, t1, t2, t3, t4⟩ := tk_spec hk
      obtain ⟨_, _, C, c1, _⟩ := hw.row e4 p1
      obtain ⟨_, _, D, d1, _⟩ := hw.row e6 q1
      have hs : (sameAddr ⟨p.blk, p.base + i, none⟩ ⟨q.blk, q.base + j, none⟩).run P w = .ok (Nat.beq A B && Nat.beq i j) w := by
        by_cases hAB : A = B
        · subst hAB
          rw [p1] at q1
          cases q1
          by_cases hij : i = j
          · subst hij
            rw [run_sameAddr_same]
            simp
          · rw [run_sameAddr_other w (fun hc => hij (by have := congrArg Addr.off hc; simp at this; exact this)) c1 c1]
            simp [beq_dec, hij]
        · have hne := hw.inj A B _ _ p q hAB e4 e6 p1 q1 rfl rfl
          rw [run_sameAddr_other w (fun hc => hne (congrArg Addr.block hc)) c1 d1]
          simp [beq_dec, hAB]
      have hq0 : ∀ d : Nat, (Op.equalIn (d + 1) t (.pointer (some ⟨p.blk, p.base + i, none⟩)) (.pointer (some ⟨q.blk, q.base + j, none⟩))).run P w = .ok (Nat.beq A B && Nat.beq i j) w := fun d => by simp only [Op.equalIn, Sem.run_bind, run_underlying ht, Result.andThen_ok, sizeOf, typeInfo, run_program, t2, Sem.run_pure, t3]; simp [hs]
      have hq := key (Nat.beq A B && Nat.beq i j) hq0
      refine ⟨e5, fun op _ _ => by cases op <;> rfl, hq0, ?_, ?_⟩
      · simp only [binOp, Sem.run_bind, hq, Result.andThen_ok, Sem.run_pure]
      · simp only [binOp, Sem.run_bind, hq, Result.andThen_ok, Sem.run_pure]
    · rw [HM.fail_iff] at e; cases e
  all_goals first
    | (rw [HM.fail_iff] at e; cases e; done)
    | (rename_i ht
       rw [HM.pure_iff] at e
       subst e
       cases hu <;> cases hv <;> (try (rename_i hf1 hf2; simp [Cl.flat] at hf1 hf2; done)) <;> (try (rename_i hf1; simp [Cl.flat] at hf1; done)) <;>
         (have hq := key false fun d => by simp only [Op.equalIn, Sem.run_bind, run_underlying ht, Result.andThen_ok]; rfl
          exact ⟨rfl, fun op _ _ => by cases op <;> rfl, fun d => by simp only [Op.equalIn, Sem.run_bind, run_underlying ht, Result.andThen_ok]; rfl, by simp only [binOp, Sem.run_bind, hq, Result.andThen_ok, Sem.run_pure], by simp only [binOp, Sem.run_bind, hq, Result.andThen_ok, Sem.run_pure]⟩))
theorem eqElem_run (hw : W P w0 ρ h w) {t : TypeId} {u v u' v' : Value} {y : Res Bool} (hu : G ρ u u') (hv : G ρ v v') (e : (eqElem P t u v).run n h = some y) : y.h = h ∧ ∀ d : Nat, (Op.equalIn (d + 1) t u' v').run P w = .ok y.a w := by
  unfold eqElem at e
  split at e
  · rename_i el ht
    have := HM.pure_iff.1 e
    subst this
    obtain rfl := G.nil_eq rfl hu
    obtain rfl := G.nil_eq rfl hv
    exact ⟨rfl, fun d => by simp only [Op.equalIn, Sem.run_bind, run_underlying ht, Result.andThen_ok]; rfl⟩
  · obtain ⟨k1, _, k3, _⟩ := eqV_run hw hu hv e
    exact ⟨k1, k3⟩
theorem eqArr_run (hw : W P w0 ρ h w) {e' : TypeId} {C D : Array Value} (hk : tk P e' = some (false, 1)) (d : Nat) : ∀ (xs ys : List Value) (s n : Nat) (y : Res Bool), (∀ i u, xs[i]? = some u → ∃ u', C[s + i]? = some u' ∧ G ρ u u') → (∀ i u, ys[i]? = some u → ∃ u', D[s + i]? = some u' ∧ G ρ u u') → (eqArr P e' xs ys).run n h = some y →
    y.h = h ∧ (Op.eqItems (d + 1) e' 1 C D (List.range' s xs.length)).run P w = .ok y.a w := by
  intro xs
  induction xs with
  | nil =>
    intro ys s n y h1 h2 ee
    cases ys with
    | nil =>
      have := HM.pure_iff.1 ee
      subst this
      exact ⟨rfl, by simp [Op.eqItems]⟩
    | cons y ys => unfold eqArr at ee; rw [HM.fail_iff] at ee; cases ee
  | cons u xs ih =>
    intro ys s n y h1 h2 ee
    cases ys with
    | nil => unfold eqArr at ee; rw [HM.fail_iff] at ee; cases ee
    | cons v ys =>
      unfold eqArr at ee
      rw [HM.bind_iff] at ee
      obtain ⟨r, e1, y2, e2, rfl⟩ := ee
      obtain ⟨u', f1, f2⟩ := h1 0 u rfl
      obtain ⟨v', g1, g2⟩ := h2 0 v rfl
      obtain ⟨k1, k2⟩ := eqElem_run hw f2 g2 e1
      obtain ⟨dd, i, t1, t2, t3, t4⟩ := tk_spec hk
      have hp : ∀ (A : Array Value) (z : Value), A[s]? = some z → (part e' A (s * 1)).run P w = .ok z w := fun A z hz => by
        simp [part, run_isAgg t1, t4, hz]
      have hstep : (Op.eqItems (d + 1) e' 1 C D (List.range' s (u :: xs).length)).run P w = (if (!r.a) = true then pure false else Op.eqItems (d + 1) e' 1 C D (List.range' (s + 1) xs.length) : Sem Bool).run P w := by
        rw [List.length_cons, List.range'_succ, Op.eqItems]
        simp only [Sem.run_bind, hp C u' (by simpa using f1), hp D v' (by simpa using g1), Result.andThen_ok, k2]
      try simp only at e2
      rw [k1] at e2
      cases hra : r.a with
      | true =>
        rw [hra] at e2
        obtain ⟨j1, j3⟩ := ih ys (s + 1) _ y2 (fun i z hz => by have := h1 (i + 1) z (by simpa using hz); rwa [show s + (i + 1) = s + 1 + i by omega] at this) (fun i z hz => by have := h2 (i + 1) z (by simpa using hz); rwa [show s + (i + 1) = s + 1 + i by omega] at this) e2
        refine ⟨j1, ?_⟩
        rw [hstep, hra]
        simpa using j3
      | false =>
        rw [hra] at e2
        have := HM.pure_iff.1 e2
        subst this
        refine ⟨rfl, ?_⟩
        rw [hstep, hra]
        simp
theorem eqAgg_run (hw : W P w0 ρ h w) {t : TypeId} {u v u' v' : Value} {y : Res Bool} (hu : G ρ u u') (hv : G ρ v v') (e : (eqAgg P t u v).run n h = some y) :
    y.h = h ∧ (∀ (op : BinOp) (p q : Operand), (eqGuard op t p q u' v').run P w = .ok () w) ∧ (binOp .eql t u' v').run P w = .ok (.bool y.a) w ∧ (binOp .neq t u' v').run P w = .ok (.bool !y.a) w := by
  unfold eqAgg at e
  split at e
  · rename_i m e' xs ys ht
    obtain ⟨C, rfl, hC⟩ := hu.agg_inv
    obtain ⟨D, rfl, hD⟩ := hv.agg_inv
    split at e
    · rename_i hk hg
      split at e
      · rename_i h1 h2
        have l1 := Nat.eq_of_beq_eq_true h1
        obtain ⟨dd, i, t1, t2, t3, t4⟩ := tk_spec hk
        have hc1 : P.cellsOf e' = 1 := by simp [Program.cellsOf, t2, t3]
        obtain ⟨j1, j2⟩ := eqArr_run hw (C := C) (D := D) hk 9998 xs.toList ys.toList 0 n y (fun i u hu => by obtain ⟨u', f1, f2⟩ := hC.get hu; exact ⟨u', by simpa using f1, f2⟩) (fun i u hu => by obtain ⟨u', f1, f2⟩ := hD.get hu; exact ⟨u', by simpa using f1, f2⟩) e
        have hq : (Op.equalIn 10000 t (.agg C) (.agg D)).run P w = .ok y.a w := by
          have := run_equalIn_array (P := P) w 9999 C D ht t2
          rw [hc1, ← l1, List.range_eq_range'] at this
          exact this.trans j2
        refine ⟨j1, fun op p q => run_eqGuard_agg w op t p q C D hg, ?_, ?_⟩
        · rw [run_eql_struct, hq]; rfl
        · rw [run_neq_struct, hq]; rfl
      · rw [HM.fail_iff] at e; cases e
    · rw [HM.fail_iff] at e; cases e
  · obtain ⟨k1, k2, _, k4, k5⟩ := eqV_run hw hu hv e
    exact ⟨k1, k2, k4, k5⟩
theorem eq_ok (hr : Reg ρ nt g a) (hw : W P w0 ρ h w) {t yt : TypeId} {y z : Operand} {neg : Bool} (ho : o.op = .binOp (if neg then .neq else .eql) t y z yt) (e : (eqOp P (evA g) o neg t y z).run n h = some x) : effAt P o a w (Post P w0 ρ x) := by
  unfold eqOp at e
  split at e
  · rename_i u v hu hv
    split at e
    · exact clo_ok hr hw (fun cs b => by rw [ho]; simp) e
    · simp only [HM.bind_iff, HM.pure_iff] at e
      obtain ⟨r, e1, _, rfl, rfl⟩ := e
      obtain ⟨k1, k2, k4, k5⟩ := eqAgg_run hw (hr.ev hu) (hr.ev hv) e1
      refine effAt_value (v := .bool (r.a ^^ neg)) (w' := w) ?_ ⟨ρ, Pm.le_refl _, by simpa [k1] using hw, .flat rfl⟩
      unfold execOp
      cases neg
      · simp only [ho, Bool.false_eq_true, if_false, Sem.run_bind, k2, Result.andThen_ok, k4, Sem.run_pure, Bool.xor_false]
      · simp only [ho, if_true, Sem.run_bind, k2, Result.andThen_ok, k5, Sem.run_pure, Bool.xor_true]
  · rw [HM.fail_iff] at e; cases e

/-! slicing -/
theorem bound_spec (hr : Reg ρ nt g a) {lo : Option Operand} {l : Option Nat} (e : boundA (evA g) lo = some l) : (l = none ∧ lo.map a.eval = none) ∨ ∃ k kd, l = some k ∧ lo.map a.eval = some (.int kd (k : Int)) := by
  unfold boundA at e
  split at e
  · cases e; exact .inl ⟨rfl, rfl⟩
  · split at e
    · rename_i h1
      cases e
      obtain ⟨kd, h2⟩ := ev_nat hr h1
      exact .inr ⟨_, kd, rfl, by rw [Option.map_some, h2]⟩
    · cases e
/-- the bound that is given, or this one -/
def Bd (l : Option Nat) (lo : Option Value) : Prop := (l = none ∧ lo = none) ∨ ∃ k kd, l = some k ∧ lo = some (.int kd (k : Int))
theorem bounds_run {isSl : Bool} {len cap : Nat} {l hh m : Option Nat} {lo hi mx : Option Value} (h1 : Bd l lo) (h2 : Bd hh hi) (h3 : Bd m mx) (hs : hh.isSome = true ∨ m.isNone = true) (k1 : l.getD 0 ≤ hh.getD len) (k2 : hh.getD len ≤ m.getD cap) (k3 : m.getD cap ≤ cap) :
    (Instr.sliceBounds isSl len cap lo hi mx).run P w = .ok (l.getD 0, hh.getD len, m.getD cap) w := by
  rcases h1 with ⟨rfl, rfl⟩ | ⟨i, ki, rfl, rfl⟩ <;> rcases h2 with ⟨rfl, rfl⟩ | ⟨j, kj, rfl, rfl⟩ <;> rcases h3 with ⟨rfl, rfl⟩ | ⟨r, kr, rfl, rfl⟩ <;> simp at hs k1 k2 k3 <;>
    simp [Instr.sliceBounds, Instr.sliceBound, asIntOf, k1, k2, k3]
  all_goals omega
end
end Cl
end Go.Proofs.YtcihbmifogfdpaaGreatDoor

/-
  What the machine does for an operation is what the operation does (values, addresses, loads and stores).
-/
import Derived.Test.YtcihbmifogfdpaaGreatDoorK4
namespace Go.Proofs.YtcihbmifogfdpaaGreatDoor
open Go.RowKit
namespace Cl

/-- behind an action: the machine's memory and value stand for the world's -/
def Post (P : Program) (w0 : World) (ρ : Pm) (x : Res Value) (v' : Value) (w' : World) : Prop := ∃ ρ', ρ.le ρ' ∧ W P w0 ρ' x.h w' ∧ G ρ' x.a v'

section
variable {P : Program} {w0 w w' : World} {ρ : Pm} {nt : Nat} {g : Regs} {a : Act} {h : H} {n : Nat} {o : Oper} {x : Res Value} {v' : Value} {post : Value → World → Prop}
theorem eff_v {s : Sem Value} (hs : execOp a.eval o = (do pure (.value (← s)))) (hr : s.run P w = .ok v' w') (hp : post v' w') : effAt P o a w post := by
  refine effAt_value (v := v') (w' := w') ?_ hp
  rw [hs, Sem.run_bind, hr]
  rfl
theorem eff_u {s : Sem Unit} (hs : execOp a.eval o = (do s; pure .skip)) (hr : s.run P w = .ok () w') (hp : post undef w') : effAt P o a w post := by
  unfold effAt
  rw [hs, Sem.run_bind, hr]
  exact hp
theorem post_same (hw : W P w0 ρ h w) {v v' : Value} {k r q : Nat} (hv : G ρ v v') : Post P w0 ρ ⟨v, k, h, r, q⟩ v' w := ⟨ρ, Pm.le_refl _, hw, hv⟩

theorem G.bool_eq {b : Bool} {v : Value} (g : G ρ (.bool b) v) : v = .bool b := G.closed_eq 0 _ _ rfl g
theorem G.int_eq {k : IntKind} {i : Int} {v : Value} (g : G ρ (.int k i) v) : v = .int k i := G.closed_eq 0 _ _ rfl g
theorem G.ptr_inv {b off : Nat} {v : Value} (g : G ρ (.pointer (some ⟨b, off, none⟩)) v) : ∃ p, ρ b = some p ∧ v = .pointer (some ⟨p.blk, p.base + off, none⟩) := by
  cases g with
  | flat h => simp [Cl.flat] at h
  | ptr h => exact ⟨_, h, rfl⟩
theorem G.map_inv {b : Nat} {v : Value} (g : G ρ (.map (some b)) v) : ∃ p, ρ b = some p ∧ v = .map (some p.blk) := by
  cases g with
  | flat h => simp [Cl.flat] at h
  | map h => exact ⟨_, h, rfl⟩
theorem G.slice_inv {b off : Nat} {sp : Option Nat} {m c : Nat} {v : Value} (g : G ρ (.slice (some ⟨b, off, sp⟩) m c) v) : ∃ p c', ρ b = some p ∧ v = .slice (some ⟨p.blk, p.base + off, none⟩) m c' ∧ ((sp = none ∧ c' = c + p.slack) ∨ (sp = some 0 ∧ c' = c)) := by
  cases g with
  | flat h => simp [Cl.flat] at h
  | slc h => exact ⟨_, _, h, rfl, .inl ⟨rfl, rfl⟩⟩
  | slx h => exact ⟨_, _, h, rfl, .inr ⟨rfl, rfl⟩⟩
theorem G.nil_eq {v v' : Value} (hn : Cl.flat v = true) (g : G ρ v v') : v' = v := G.closed_eq 0 _ _ (by simpa [closedB] using hn) g
theorem G.func_inv {f : Fn} {c d : Array Value} {v : Value} (g : G ρ (.func f c d) v) : ∃ k c' d', f = .func k ∧ v = .func (.func k) c' d' ∧ GL ρ c.toList c'.toList ∧ GL ρ d.toList d'.toList := by
  cases g with
  | flat h => simp [Cl.flat] at h
  | func ha hb h1 h2 => exact ⟨_, _, _, rfl, rfl, .of_array ha h1, .of_array hb h2⟩
theorem G.iface_inv {t : TypeId} {u v : Value} (g : G ρ (.iface t u) v) : ∃ u', v = .iface t u' ∧ G ρ u u' := by
  cases g with
  | flat h => simp [Cl.flat] at h
  | iface h => exact ⟨_, rfl, h⟩
theorem G.agg_inv {c : Array Value} {v : Value} (g : G ρ (.agg c) v) : ∃ c', v = .agg c' ∧ GL ρ c.toList c'.toList := by
  cases g with
  | flat h => simp [Cl.flat] at h
  | agg h h1 => exact ⟨_, rfl, .of_array h h1⟩
theorem G.tuple_inv {c : Array Value} {v : Value} (g : G ρ (.tuple c) v) : ∃ c', v = .tuple c' ∧ GL ρ c.toList c'.toList := by
  cases g with
  | flat h => simp [Cl.flat] at h
  | tuple h h1 => exact ⟨_, rfl, .of_array h h1⟩

theorem adr_eq {u : Option Value} {b off : Nat} (e : adr u = some (b, off)) : u = some (.pointer (some ⟨b, off, none⟩)) := by
  unfold adr at e
  split at e
  · cases e; rfl
  · cases e
theorem natV_eq {u : Option Value} {i : Nat} (e : natV u = some i) : ∃ k, u = some (.int k (i : Int)) := by
  unfold natV at e
  split at e
  · cases e; exact ⟨_, rfl⟩
  · cases e
theorem ev_adr (hr : Reg ρ nt g a) {y : Operand} {b off : Nat} (e : adr (evA g y) = some (b, off)) : ∃ p, ρ b = some p ∧ a.eval y = .pointer (some ⟨p.blk, p.base + off, none⟩) := (hr.ev (adr_eq e)).ptr_inv
theorem ev_nat (hr : Reg ρ nt g a) {y : Operand} {i : Nat} (e : natV (evA g y) = some i) : ∃ k, a.eval y = .int k (i : Int) := by
  obtain ⟨k, e1⟩ := natV_eq e
  exact ⟨k, (hr.ev e1).int_eq⟩
theorem allSome_GL (hr : Reg ρ nt g a) : ∀ {l : List Operand} {vs : List Value}, allSome (l.map (evA g)) = some vs → GL ρ vs (l.map a.eval)
  | [], vs, e => by simp [allSome] at e; subst e; exact .nil
  | y :: l, vs, e => by
    rw [List.map_cons] at e
    cases h1 : evA g y with
    | none => simp [h1, allSome] at e
    | some u =>
      simp only [h1, allSome] at e
      split at e
      · rename_i us h2; cases e; exact .cons (hr.ev h1) (allSome_GL hr h2)
      · cases e

/-! closed operands -/
theorem clo_ok (hr : Reg ρ nt g a) (hw : W P w0 ρ h w) (hs : ∀ cs b, o.op ≠ .select cs b) (e : (cloV P (evA g) o).run n h = some x) : effAt P o a w (Post P w0 ρ x) := by
  unfold cloV at e
  split at e
  · rename_i hall
    split at e
    · rename_i v hrun
      split at e
      · rename_i hc
        rw [HM.pure_iff] at e
        subst e
        have he : execOp a.eval o = execOp (fun x => (evA g x).getD undef) o := execOp_congr o hs fun y hy => by
          have := List.all_eq_true.1 hall y (by simpa using hy)
          cases hv : evA g y with
          | none => rw [hv] at this; simp [cloB] at this
          | some u =>
            rw [hv] at this
            simp only [Option.getD_some]
            exact G.closed_eq _ _ _ this (hr.ev hv)
        refine effAt_value (v := v) (w' := w) ?_ (post_same hw (G.of_closed _ _ hc))
        rw [he]
        exact sRun_run hrun w
      · rw [HM.fail_iff] at e; cases e
    · rw [HM.fail_iff] at e; cases e
  · rw [HM.fail_iff] at e; cases e

theorem opt_ok (hw : W P w0 ρ h w) {u : Option Value} (e : (HM.opt u).run n h = some x) (hv : ∀ v, u = some v → ∃ v', (execOp a.eval o).run P w = .ok (.value v') w ∧ G ρ v v') : effAt P o a w (Post P w0 ρ x) := by
  obtain ⟨v, e1, rfl⟩ := HM.opt_iff.1 e
  obtain ⟨v', e2, e3⟩ := hv v e1
  exact effAt_value e2 (post_same hw e3)
theorem move_ok (hr : Reg ρ nt g a) (hw : W P w0 ρ h w) {y : Operand} (ho : o.op = .move y ∨ o.op = .assign y) (e : (HM.opt (evA g y)).run n h = some x) : effAt P o a w (Post P w0 ρ x) :=
  opt_ok hw e fun v hv => ⟨a.eval y, by unfold execOp; rcases ho with ho | ho <;> simp only [ho] <;> rfl, hr.ev hv⟩
theorem pick_ok (hr : Reg ρ nt g a) (hw : W P w0 ρ h w) {c y z : Operand} (ho : o.op = .pick c y z) {b : Bool} (hc : evA g c = some (.bool b)) (e : (HM.opt (if b then evA g y else evA g z)).run n h = some x) : effAt P o a w (Post P w0 ρ x) := by
  refine opt_ok hw e fun v hv => ⟨if b then a.eval y else a.eval z, ?_, ?_⟩
  · unfold execOp
    simp only [ho, (hr.ev hc).bool_eq, asBool, Sem.run_bind, Sem.run_pure, Result.andThen_ok]
  · cases b
    · exact hr.ev hv
    · exact hr.ev hv

/-! making -/
theorem zeroL_spec {t : TypeId} {z : List Value} (e : zeroL P t = some z) : ∃ i z0, P.info? t = some i ∧ i.zero = some z0 ∧ z = z0.cells.toList ∧ ∀ u ∈ z, closedB CD u = true := by
  unfold zeroL at e
  split at e
  · rename_i i hi
    split at e
    · rename_i z0 hz
      split at e
      · rename_i hc
        cases e
        exact ⟨i, z0, hi, hz, rfl, List.all_eq_true.1 hc⟩
      · cases e
    · cases e
  · cases e
theorem fresh_then {m : AO} {f : Nat → Value} (e : (do let b ← fresh m; pure (f b) : HM Value).run n h = some x) : hget h n = none ∧ x.a = f n ∧ x.h = hset h n m := by
  simp only [HM.bind_iff, fresh_iff, HM.pure_iff] at e
  obtain ⟨_, ⟨h2, rfl⟩, _, rfl, rfl⟩ := e
  exact ⟨h2, rfl, rfl⟩
theorem Post.mk {v : Value} {m : H} (ha : x.a = v) (hm : x.h = m) {ρ' : Pm} (hl : ρ.le ρ') (hw : W P w0 ρ' m w') (hv : G ρ' v v') : Post P w0 ρ x v' w' := ⟨ρ', hl, hm ▸ hw, ha ▸ hv⟩
theorem alloc_ok (hw : W P w0 ρ h w) {t : TypeId} (ho : o.op = .alloc t) {z : List Value} (hz : zeroL P t = some z) (e : (do let b ← fresh (.cells z t false); pure (ptr b 0) : HM Value).run n h = some x) : effAt P o a w (Post P w0 ρ x) := by
  obtain ⟨i, z0, h1, h2, rfl, hc⟩ := zeroL_spec hz
  obtain ⟨h4, h5, h6⟩ := fresh_then e
  obtain ⟨k1, k2⟩ := hw.newRow0 (t := t) (C := z0.cells) h4 (GL.same fun u hu => G.of_closed _ _ (hc u hu))
  refine eff_v (v' := .pointer (some ⟨w.heap.size, 0, none⟩)) (w' := w.alloc (.cells z0.cells t)) (by unfold execOp; simp only [ho]; rfl) ?_ (.mk h5 h6 k1 k2 (.ptr (upP_same _ _ _)))
  simp [Instr.alloc, zeroValue, typeInfo, h1, h2, newVar, newRow]
theorem box_ok (hr : Reg ρ nt g a) (hw : W P w0 ρ h w) {t : TypeId} {y : Operand} (ho : o.op = .box t y) {v : Value} (hv : evA g y = some v) (e : (do let b ← fresh (.cells v.cells.toList t false); pure (ptr b 0) : HM Value).run n h = some x) : effAt P o a w (Post P w0 ρ x) := by
  obtain ⟨h4, h5, h6⟩ := fresh_then e
  obtain ⟨k1, k2⟩ := hw.newRow0 (t := t) (C := (a.eval y).cells) h4 (cells_G (hr.ev hv))
  refine eff_v (v' := .pointer (some ⟨w.heap.size, 0, none⟩)) (w' := w.alloc (.cells (a.eval y).cells t)) (by unfold execOp; simp only [ho]; rfl) ?_ (.mk h5 h6 k1 k2 (.ptr (upP_same _ _ _)))
  simp [Instr.box, newVar, newRow]

/-! reading -/
theorem read_run {t : TypeId} {c : List Value} {off b : Nat} {e : TypeId} {vec : Bool} {p : Pl} {v : Value} (hw : W P w0 ρ h w) (hb : hget h b = some (.cells c e vec)) (hp : ρ b = some p) (hv : readA P t c off = some v) :
    ∃ v', (loadVar t ⟨p.blk, p.base + off, none⟩).run P w = .ok v' w ∧ G ρ v v' := by
  unfold readA at hv
  split at hv
  · rename_i m ht
    split at hv
    · rename_i hlen
      cases hv
      obtain ⟨d, i, t1, t2, t3, t4⟩ := tk_spec ht
      have hl := Nat.eq_of_beq_eq_true hlen
      have htk : takeA c off m = some ((c.drop off).take m) := by unfold takeA; rw [hlen]
      obtain ⟨l', g1, g2, g3⟩ := hw.range hb hp htk
      exact ⟨_, run_loadVar_mid w p.blk (p.base + off) t l' d g3 t1 t4 (by rw [t2, ← t3] at *; simp [g2]), g1.agg⟩
    · cases hv
  · rename_i m ht
    obtain ⟨d, i, t1, t2, t3, t4⟩ := tk_spec ht
    obtain ⟨u', e1, e2⟩ := hw.cell hb hp hv
    refine ⟨u', ?_, e2⟩
    have hagg : (isAgg t).run P w = .ok false w := by
      unfold isAgg
      rw [Sem.run_bind, run_underlying t1 w]
      cases d <;> simp_all [TypeDesc.isRow]
    simp [loadVar, hagg, e1]
  · cases hv
theorem glob_run {t : TypeId} {c : List Value} {off b k : Nat} {p : Pl} {v : Value} (hw : W P w0 ρ h w) (hb : hget h b = some (.glob k c)) (hp : ρ b = some p) (hv : readA P t c off = some v) :
    p = ⟨k, 0, 0⟩ ∧ ∃ v', (loadVar t ⟨k, off, none⟩).run P w = .ok v' w ∧ G ρ v v' := by
  obtain ⟨q, e1, e2, e3, e4⟩ := hw.obj b _ hb
  rw [hp] at e1
  cases e1
  refine ⟨e2, ?_⟩
  have hc : ∀ (i : Nat) (u : Value), c[i]? = some u → ∃ u', w.cell? ⟨k, i, none⟩ = some u' ∧ G ρ u u' := fun i u hu => by
    obtain ⟨u', f1, f2⟩ := e4 i u hu
    exact ⟨u', (hw.below.cell (p := ⟨k, i, none⟩) e3).trans f1, f2⟩
  unfold readA at hv
  split at hv
  · rename_i m ht
    split at hv
    · rename_i hlen
      cases hv
      obtain ⟨d, i, t1, t2, t3, t4⟩ := tk_spec ht
      have hl := Nat.eq_of_beq_eq_true hlen
      -- the cells, one by one
      have hex : ∀ (l : List Value) (o : Nat), (∀ i u, l[i]? = some u → c[o + i]? = some u) → ∃ l', GL ρ l l' ∧ w.rangeAt k o l' := by
        intro l
        induction l with
        | nil => intro o _; exact ⟨[], .nil, fun j u hu => by simp at hu⟩
        | cons u l ih =>
          intro o hl
          obtain ⟨u', f1, f2⟩ := hc o u (by simpa using hl 0 u rfl)
          obtain ⟨l', g1, g2⟩ := ih (o + 1) (fun i u hu => by have := hl (i + 1) u (by simpa using hu); rwa [show o + (i + 1) = o + 1 + i by omega] at this)
          refine ⟨u' :: l', .cons f2 g1, fun j z hz => ?_⟩
          cases j with
          | zero => simp at hz; subst hz; exact f1
          | succ j => have := g2 j z (by simpa using hz); rwa [show o + 1 + j = o + (j + 1) by omega] at this
      obtain ⟨l', g1, g2⟩ := hex ((c.drop off).take m) off (fun i u hu => by
        rw [List.getElem?_take] at hu
        split at hu
        · rwa [List.getElem?_drop] at hu
        · cases hu)
      have hl' : l'.length = m := by rw [← g1.1, hl]
      exact ⟨_, run_loadVar_mid w k off t l' d g2 t1 t4 (by rw [t2, ← t3] at *; simp [hl']), g1.agg⟩
    · cases hv
  · rename_i m ht
    obtain ⟨d, i, t1, t2, t3, t4⟩ := tk_spec ht
    obtain ⟨u', f1, f2⟩ := hc off v hv
    refine ⟨u', ?_, f2⟩
    have hagg : (isAgg t).run P w = .ok false w := by
      unfold isAgg
      rw [Sem.run_bind, run_underlying t1 w]
      cases d <;> simp_all [TypeDesc.isRow]
    simp [loadVar, hagg, f1]
  · cases hv
theorem rd_run {t : TypeId} {c : List Value} {off blk base : Nat} {v : Value} (hc : ∀ (i : Nat) (u : Value), c[i]? = some u → ∃ u', w.cell? ⟨blk, base + i, none⟩ = some u' ∧ G ρ u u') (hv : readA P t c off = some v) :
    ∃ v', (loadVar t ⟨blk, base + off, none⟩).run P w = .ok v' w ∧ G ρ v v' := by
  unfold readA at hv
  split at hv
  · rename_i m ht
    split at hv
    · rename_i hlen
      cases hv
      obtain ⟨d, i, t1, t2, t3, t4⟩ := tk_spec ht
      have hl := Nat.eq_of_beq_eq_true hlen
      -- the cells, one by one
      have hex : ∀ (l : List Value) (o : Nat), (∀ i u, l[i]? = some u → c[o + i]? = some u) → ∃ l', GL ρ l l' ∧ w.rangeAt blk (base + o) l' := by
        intro l
        induction l with
        | nil => intro o _; exact ⟨[], .nil, fun j u hu => by simp at hu⟩
        | cons u l ih =>
          intro o hl
          obtain ⟨u', f1, f2⟩ := hc o u (by simpa using hl 0 u rfl)
          obtain ⟨l', g1, g2⟩ := ih (o + 1) (fun i u hu => by have := hl (i + 1) u (by simpa using hu); rwa [show o + (i + 1) = o + 1 + i by omega] at this)
          refine ⟨u' :: l', .cons f2 g1, fun j z hz => ?_⟩
          cases j with
          | zero => simp at hz; subst hz; exact f1
          | succ j => have := g2 j z (by simpa using hz); rwa [show base + (o + 1) + j = base + o + (j + 1) by omega] at this
      obtain ⟨l', g1, g2⟩ := hex ((c.drop off).take m) off (fun i u hu => by
        rw [List.getElem?_take] at hu
        split at hu
        · rwa [List.getElem?_drop] at hu
        · cases hu)
      have hl' : l'.length = m := by rw [← g1.1, hl]
      exact ⟨_, run_loadVar_mid w blk (base + off) t l' d g2 t1 t4 (by rw [t2, ← t3] at *; simp [hl']), g1.agg⟩
    · cases hv
  · rename_i m ht
    obtain ⟨d, i, t1, t2, t3, t4⟩ := tk_spec ht
    obtain ⟨u', f1, f2⟩ := hc off v hv
    refine ⟨u', ?_, f2⟩
    have hagg : (isAgg t).run P w = .ok false w := by
      unfold isAgg
      rw [Sem.run_bind, run_underlying t1 w]
      cases d <;> simp_all [TypeDesc.isRow]
    simp [loadVar, hagg, f1]
  · cases hv
theorem ro_run {t : TypeId} {c : List Value} {off b : Nat} {p : Pl} {v : Value} (hw : W P w0 ρ h w) (hb : hget h b = some (.ro c)) (hp : ρ b = some p) (hv : readA P t c off = some v) :
    ∃ v', (loadVar t ⟨p.blk, p.base + off, none⟩).run P w = .ok v' w ∧ G ρ v v' := by
  obtain ⟨q, e1, _, C, e, e3, e4⟩ := hw.obj b _ hb
  rw [hp] at e1
  cases e1
  exact rd_run (fun i u hu => by
    obtain ⟨u', f1, f2⟩ := e4 i u hu
    exact ⟨u', by simp [World.cell?, e3, f1], f2⟩) hv
theorem load_ok (hr : Reg ρ nt g a) (hw : W P w0 ρ h w) {t : TypeId} {y : Operand} (ho : o.op = .load t y) (e : (loadO P (evA g) t y).run n h = some x) : effAt P o a w (Post P w0 ρ x) := by
  have fin : ∀ {ad : Addr} {u v' : Value}, a.eval y = .pointer (some ad) → (loadVar t ad).run P w = .ok v' w → G ρ u v' → x.a = u → x.h = h → effAt P o a w (Post P w0 ρ x) := fun h1 h2 h3 h4 h5 => by
    refine eff_v (w' := w) (by unfold execOp; simp only [ho]; rfl) ?_ (.mk h4 h5 (Pm.le_refl _) hw h3)
    rw [h1]
    simp only [Instr.loadAt, Instr.sureAddr, Sem.run_bind, Sem.run_pure, Result.andThen_ok, h2]
  unfold loadO at e
  split at e
  · rename_i k
    simp only [HM.bind_iff, HM.opt_iff] at e
    obtain ⟨z, e1, z2, ⟨u, e2, rfl⟩, rfl⟩ := e
    obtain ⟨e3, e4⟩ := getG_inv e1
    obtain ⟨q, q1, _⟩ := hw.obj _ _ e4
    obtain ⟨rfl, v', r1, r2⟩ := glob_run hw e4 q1 e2
    exact fin rfl r1 r2 rfl e3
  · unfold loadA at e
    split at e
    · rename_i b off hy
      obtain ⟨p, p1, p2⟩ := ev_adr hr hy
      simp only [HM.bind_iff, HM.opt_iff] at e
      obtain ⟨z, e1, z2, ⟨u, e2, rfl⟩, rfl⟩ := e
      obtain ⟨e3, ⟨t', v, e4⟩ | ⟨k, e4⟩ | e4⟩ := getR_inv e1
      · obtain ⟨u', r1, r2⟩ := read_run hw e4 p1 e2
        exact fin p2 r1 r2 rfl e3
      · obtain ⟨rfl, v', r1, r2⟩ := glob_run hw e4 p1 e2
        exact fin (by rw [p2, Nat.zero_add]) r1 r2 rfl e3
      · obtain ⟨v', r1, r2⟩ := ro_run hw e4 p1 e2
        exact fin p2 r1 r2 rfl e3
    · rw [HM.fail_iff] at e; cases e

/-! writing -/
theorem putA_inv {b off : Nat} {vs : List Value} {y : Res Unit} (e : (putA b off vs).run n h = some y) : ∃ c t v c', hget h b = some (.cells c t v) ∧ (∀ u ∈ vs, oneB u = true) ∧ writeA off vs c = some c' ∧ y.h = hset h b (.cells c' t v) := by
  unfold putA at e
  simp only [HM.bind_iff] at e
  obtain ⟨z, e1, z2, e2, rfl⟩ := e
  obtain ⟨e3, e4⟩ := getC_inv e1
  split at e2
  · rename_i hall
    simp only [HM.bind_iff, HM.opt_iff, setO_iff] at e2
    obtain ⟨z3, ⟨c', e5, rfl⟩, z4, ⟨_, rfl⟩, rfl⟩ := e2
    exact ⟨_, _, _, c', e4, List.all_eq_true.1 hall, e5, by rw [e3]⟩
  · rw [HM.fail_iff] at e2; cases e2
theorem W.put (hw : W P w0 ρ h w) {b off : Nat} {vs vs' : List Value} {y : Res Unit} {p : Pl} (hp : ρ b = some p) (hv : GL ρ vs vs') (e : (putA b off vs).run n h = some y) :
    (storeCells ⟨p.blk, p.base + off, none⟩ vs').run P w = .ok () (w.setCells p.blk (p.base + off) vs') ∧ W P w0 ρ y.h (w.setCells p.blk (p.base + off) vs') ∧
    (∀ u ∈ vs', u.oneCell' = true) ∧ w.there p.blk (p.base + off) vs'.length := by
  obtain ⟨c, t, v, c', h1, h2, h3, h4⟩ := putA_inv e
  obtain ⟨k1, k2, k3⟩ := writeA_spec h3
  have hth := hw.there (n := vs'.length) (off := off) h1 hp (by rw [← hv.1]; omega)
  have h1' : ∀ u ∈ vs', u.oneCell' = true := fun u hu => by
    obtain ⟨u0, m1, m2⟩ := hv.mem hu
    exact oneB_G m2 (h2 u0 m1)
  have := run_storeCells_cells (P := P) p.blk (p.base + off) vs' 0 w (fun j hj => by simpa using (hth j hj).1) (fun j hj => by simpa using (hth j hj).2) h1'
  simp only [Nat.add_zero] at this
  exact ⟨this, by rw [h4]; exact hw.write h1 hp hv h3, h1', hth⟩
theorem store_ok (hr : Reg ρ nt g a) (hw : W P w0 ρ h w) {t : TypeId} {y z : Operand} (ho : o.op = .store t y z) {b off m : Nat} {v : Value} {r : Bool} (hy : adr (evA g y) = some (b, off)) (hz : evA g z = some v) (ht : tk P t = some (r, m)) (hl : v.cells.toList.length = m)
    (e : (do putA b off v.cells.toList; pure undef : HM Value).run n h = some x) : effAt P o a w (Post P w0 ρ x) := by
  obtain ⟨p, p1, p2⟩ := ev_adr hr hy
  simp only [HM.bind_iff, HM.pure_iff] at e
  obtain ⟨y1, e1, _, rfl, rfl⟩ := e
  have hcg := cells_G (hr.ev hz)
  obtain ⟨k1, k2, _, _⟩ := hw.put p1 hcg e1
  obtain ⟨d, i, t1, t2, t3, t4⟩ := tk_spec ht
  refine eff_u (w' := w.setCells p.blk (p.base + off) (a.eval z).cells.toList) (by unfold execOp; simp only [ho]; rfl) ?_ ⟨ρ, Pm.le_refl _, k2, G.of_closed 1 _ rfl⟩
  have hsz : (a.eval z).cells.size = i.size := by
    have := hcg.1
    simp at this hl
    omega
  rw [p2]
  simp [Instr.storeAt, Instr.sureAddr, storeVar, sizeOf, typeInfo, t2, hsz, k1]
theorem nilCheck_ok (hr : Reg ρ nt g a) (hw : W P w0 ρ h w) {y : Operand} (ho : o.op = .nilCheck y) {v : Value} (hy : evA g y = some v) (h1 : v ≠ .pointer none) (h2 : v ≠ .nilIface) (h3 : v ≠ .nilFunc) (h4 : ∀ f c d, v = .func f c d → ∃ k, f = .func k)
    (e : (pure v : HM Value).run n h = some x) : effAt P o a w (Post P w0 ρ x) := by
  rw [HM.pure_iff] at e
  subst e
  have hg := hr.ev hy
  refine effAt_value (v := a.eval y) (w' := w) ?_ (post_same hw hg)
  unfold execOp
  simp only [ho]
  generalize a.eval y = v' at hg
  cases hg with
  | flat hf => cases v <;> simp [Cl.flat] at hf <;> first | rfl | (exact absurd rfl h2) | (exact absurd rfl h3) | skip
  | func => rfl
  | _ => rfl
end
end Cl
end Go.Proofs.YtcihbmifogfdpaaGreatDoor

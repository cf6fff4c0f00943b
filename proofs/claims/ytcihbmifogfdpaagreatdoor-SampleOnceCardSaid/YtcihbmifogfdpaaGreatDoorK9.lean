/-
  What the machine does for an operation is what the operation does (maps, len, cap, copy, clear, delete).
-/
import Derived.Test.YtcihbmifogfdpaaGreatDoorK8
namespace Go.Proofs.YtcihbmifogfdpaaGreatDoor
open Go.RowKit
namespace Cl

section
variable {P : Program} {w0 w w' : World} {ρ : Pm} {nt : Nat} {g : Tr Value} {a : Act} {h : H} {n : Nat} {o : Oper} {x : Res Value} {v' : Value} {post : Value → World → Prop}

theorem keyB_spec {k : TypeId} {d : TypeDesc} (e : keyB P k = some d) : P.underlying k = some d ∧ ((∃ i, d = .int i) ∨ d = .string ∨ d = .bool) := by
  unfold keyB at e
  split at e <;> first | (cases e; done) | (rename_i hh; cases e; exact ⟨hh, by simp⟩)
theorem checkKey_run {k : TypeId} {d : TypeDesc} (e : keyB P k = some d) (b : Bool) (v : Value) : (Instr.checkKey b 10000 k v).run P w = .ok () w := by
  obtain ⟨h1, h2⟩ := keyB_spec e
  have : ∀ m, (Instr.checkKey b (m + 1) k v).run P w = .ok () w := fun m => by
    rw [Instr.checkKey, Sem.run_bind, run_underlying h1]
    rcases h2 with ⟨i, rfl⟩ | rfl | rfl <;> rfl
  exact this 9999
theorem bytes_beq' (a b : ByteArray) : (a == b) = true ↔ a = b := by
  obtain ⟨x⟩ := a
  obtain ⟨y⟩ := b
  constructor
  · intro h
    have e : x = y := by simpa using (show (x == y) = true from h)
    rw [e]
  · intro h
    cases h
    show (x == x) = true
    simp
theorem sameNow_eq {d : TypeDesc} {u v : Value} (e : Instr.sameNow d u v = some true) : v = u := by
  unfold Instr.sameNow at e
  split at e
  · split at e
    · rename_i hk; subst hk; simp at e; rw [e]
    · cases e
  · simp only [Option.some.injEq] at e; rw [(bytes_beq' _ _).1 e]
  · simp at e; rw [e]
  · cases e
theorem sameBits_self {d : TypeDesc} {u : Value} (e : Instr.sameNow d u u = some true) : Instr.sameBits 10000 u u = true := by
  unfold Instr.sameNow at e
  split at e <;> first | (simp [Instr.sameBits]; done) | (simp only [Option.some.injEq] at e; simpa [Instr.sameBits] using e) | (simp at e; done)
theorem GE.uncons {e : MapEntry} {es es' : List MapEntry} (h : GE ρ (e :: es) es') : ∃ e' r', es' = e' :: r' ∧ e'.key = e.key ∧ closedB CD e.key = true ∧ e'.born = e.born ∧ G ρ e.val e'.val ∧ GE ρ es r' := by
  cases es' with
  | nil => have := h.1; simp at this
  | cons e' r' =>
    obtain ⟨h1, h2, h3, h4⟩ := h.2 0 e e' rfl rfl
    exact ⟨e', r', rfl, h1, h2, h3, h4, by simpa using h.1, fun i a b ha hb => h.2 (i + 1) a b (by simpa using ha) (by simpa using hb)⟩
theorem GE.cons {e e' : MapEntry} {es es' : List MapEntry} (h1 : e'.key = e.key) (h2 : closedB CD e.key = true) (h3 : e'.born = e.born) (h4 : G ρ e.val e'.val) (h : GE ρ es es') : GE ρ (e :: es) (e' :: es') := by
  refine ⟨by simp [h.1], fun i a b ha hb => ?_⟩
  cases i with
  | zero => simp at ha hb; subst ha hb; exact ⟨h1, h2, h3, h4⟩
  | succ i => simp at ha hb; exact h.2 i a b ha hb
theorem findNow_G {d : TypeDesc} {k : Value} : ∀ {es es' : List MapEntry} {j : Nat} {r : Option (Nat × Value)}, GE ρ es es' → Instr.findNow d k es j = some r →
    (r = none ∧ Instr.findNow d k es' j = some none) ∨ ∃ i v v' e e', r = some (i, v) ∧ Instr.findNow d k es' j = some (some (i, v')) ∧ G ρ v v' ∧ j ≤ i ∧ es[i - j]? = some e ∧ es'[i - j]? = some e' ∧ e'.key = k ∧ e.key = k ∧ e.val = v ∧ Instr.sameBits 10000 k k = true
  | [], es', j, r, hg, hf => by
    have : es' = [] := List.length_eq_zero_iff.1 hg.1.symm
    subst this
    simp [Instr.findNow] at hf
    exact .inl ⟨hf.symm, rfl⟩
  | e :: es, es', j, r, hg, hf => by
    obtain ⟨e', r', rfl, h1, h2, h3, h4, h5⟩ := hg.uncons
    unfold Instr.findNow at hf ⊢
    rw [h1]
    split at hf
    · rename_i hs
      cases hf
      have hk := sameNow_eq hs
      rw [hk] at hs
      exact .inr ⟨j, e.val, e'.val, e, e', rfl, rfl, h4, Nat.le_refl _, by simp, by simp, h1.trans hk, hk, rfl, sameBits_self hs⟩
    · rcases findNow_G h5 hf with ⟨q1, q2⟩ | ⟨i, v, v', f, f', q1, q2, q3, q4, q5, q6, q7⟩
      · exact .inl ⟨q1, q2⟩
      · refine .inr ⟨i, v, v', f, f', q1, q2, q3, by omega, ?_, ?_, q7⟩
        · rw [show i - j = (i - (j + 1)) + 1 by omega]; simpa using q5
        · rw [show i - j = (i - (j + 1)) + 1 by omega]; simpa using q6
    · cases hf
theorem findKey_run {k : TypeId} {d : TypeDesc} (e : keyB P k = some d) {u : Value} {es : List MapEntry} {r : Option (Nat × Value)} (hf : Instr.findNow d u es 0 = some r) : (Instr.findKey k u es).run P w = .ok r w := by
  simp only [Instr.findKey, Sem.run_bind, run_underlying (keyB_spec e).1, Result.andThen_ok, hf, Sem.run_pure]

theorem W.mapHeap {b : Nat} {es : List MapEntry} {k : Nat} {p : Pl} (hw : W P w0 ρ h w) (hb : hget h b = some (.map es k)) (hp : ρ b = some p) {es2 : List MapEntry} {es2' : Array MapEntry} {k2 : Nat} (hg : GE ρ es2 es2'.toList) :
    W P w0 ρ (hset h b (.map es2 k2)) { w with heap := w.heap.setIfInBounds p.blk (.map es2' k2) } := by
  obtain ⟨h1, es', h2, h3⟩ := hw.mapRow hb hp
  have hlt : p.blk < w.heap.size := (Array.getElem?_eq_some_iff.1 h2).1
  refine hw.set hb rfl hp ⟨rfl, rfl, rfl, by simp, fun j hj => ?_⟩ (fun j hj _ => ?_) ⟨h1, es2', ?_, hg⟩
  · simp only
    rw [Array.getElem?_setIfInBounds_ne (by omega)]
  · simp only
    rw [Array.getElem?_setIfInBounds_ne (Ne.symm hj)]
  · simp [hlt]
theorem run_getMap {w : World} {b : Nat} {es : Array MapEntry} {k : Nat} (h : w.heap[b]? = some (.map es k)) : (getObj b).run P w = .ok (.map es k) w := by simp [getObj, Sem.run, h]
theorem run_setMap {w : World} {b : Nat} {es : Array MapEntry} {k : Nat} {ob : Obj} (h : w.heap[b]? = some (.map es k)) : (setObj b ob).run P w = .ok () { w with heap := w.heap.setIfInBounds b ob } := by simp [setObj, Sem.run, h]

theorem lookup_run (hw : W P w0 ρ h w) {t : TypeId} {m k m' k' : Value} {ok : Bool} (hm : G ρ m m') (hk : G ρ k k') (e : (lookupA P t m k ok).run n h = some x) : ∃ v', (Instr.lookup t m' k' ok).run P w = .ok v' w ∧ Post P w0 ρ x v' w := by
  unfold lookupA at e
  split at e
  case h_2 => rw [HM.fail_iff] at e; cases e
  rename_i kt et ht hck
  obtain rfl := G.closed_eq _ _ _ hck hk
  split at e
  case h_2 => rw [HM.fail_iff] at e; cases e
  rename_i kd zl i hkb hzl hi
  split at e
  case h_2 => rw [HM.fail_iff] at e; cases e
  rename_i z hz
  rw [HM.bind_iff] at e
  obtain ⟨⟨es, yn, yh, yr, yw⟩, e1, x2, e2, rfl⟩ := e
  simp only at e2
  -- what the map holds
  have hes : yh = h ∧ ∃ es' : Array MapEntry, GE ρ es es'.toList ∧ ((m' = .map none ∧ es' = #[]) ∨ ∃ b k2, m' = .map (some b) ∧ w.heap[b]? = some (.map es' k2)) := by
    split at e1
    · have := HM.pure_iff.1 e1
      cases this
      obtain rfl := G.nil_eq rfl hm
      exact ⟨rfl, #[], ⟨rfl, fun i a b ha => by simp at ha⟩, .inl ⟨rfl, rfl⟩⟩
    · rename_i b
      obtain ⟨p, p1, rfl⟩ := hm.map_inv
      rw [HM.bind_iff] at e1
      obtain ⟨⟨⟨es2, k2⟩, zn, zh, zr, zw⟩, e3, y2, e4, e5⟩ := e1
      have e4' := HM.pure_iff.1 e4
      subst e4'
      cases e5
      obtain ⟨e6, e7⟩ := getM_inv e3
      obtain ⟨_, es', h2, h3⟩ := hw.mapRow e7 p1
      exact ⟨e6, es', h3, .inr ⟨_, _, rfl, h2⟩⟩
    · rw [HM.fail_iff] at e1; cases e1
  obtain ⟨rfl, es', hge, hm'⟩ := hes
  have hrun : ∀ {r : Option (Nat × Value)} (u : Value) (b : Bool), Instr.findNow kd k' es'.toList 0 = some r → ((r = none ∧ u = z ∧ b = false) ∨ ∃ j, r = some (j, u) ∧ b = true) → (Instr.lookup t m' k' ok).run P w = .ok (if ok then .tuple #[u, .bool b] else u) w := fun {r} u b hf hr => by
    have hfk := findKey_run (w := w) hkb hf
    have hc := checkKey_run (w := w) hkb es'.isEmpty k'
    have hzv : (zeroValue et).run P w = .ok z w := by simp [zeroValue, typeInfo, hi, hz]
    rcases hm' with ⟨rfl, rfl⟩ | ⟨b, k2, rfl, hb⟩
    · rcases hr with ⟨rfl, rfl, rfl⟩ | ⟨j, rfl, rfl⟩ <;> simp only [Instr.lookup, Sem.run_bind, run_underlying ht, Result.andThen_ok, Sem.run_pure, hc, hfk, hzv] <;> cases ok <;> rfl
    · rcases hr with ⟨rfl, rfl, rfl⟩ | ⟨j, rfl, rfl⟩ <;> simp only [Instr.lookup, Sem.run_bind, run_underlying ht, Result.andThen_ok, run_getMap hb, Sem.run_pure, hc, hfk, hzv] <;> cases ok <;> rfl
  have hpost : ∀ {u u' : Value} {b : Bool} {r : Nat} {q : Nat}, G ρ u u' → Post P w0 ρ ⟨if ok then .tuple #[u, .bool b] else u, yn, yh, r, q⟩ (if ok then .tuple #[u', .bool b] else u') w := fun {u u' b r q} hu => by
    refine post_same hw ?_
    cases ok
    · exact hu
    · exact (GL.cons hu (GL.cons (.flat rfl) .nil)).tuple
  split at e2
  · rename_i j v hf
    rw [HM.pure_iff] at e2
    subst e2
    rcases findNow_G hge hf with ⟨q1, _⟩ | ⟨i2, u, u', f, f', q1, q2, q3, _⟩
    · cases q1
    · cases q1
      exact ⟨_, hrun u' true q2 (.inr ⟨_, rfl, rfl⟩), hpost q3⟩
  · rename_i hf hcz
    rw [HM.pure_iff] at e2
    subst e2
    rcases findNow_G hge hf with ⟨_, q2⟩ | ⟨i2, u, u', f, f', q1, _⟩
    · exact ⟨_, hrun z false q2 (.inl ⟨rfl, rfl, rfl⟩), hpost (G.of_closed _ _ hcz)⟩
    · cases q1
  · rw [HM.fail_iff] at e2; cases e2

theorem update_run (hw : W P w0 ρ h w) {t : TypeId} {m k v m' k' v' : Value} (hm : G ρ m m') (hk : G ρ k k') (hv : G ρ v v') (e : (updateA P t m k v).run n h = some x) : ∃ w2, (Instr.mapUpdate t m' k' v').run P w = .ok () w2 ∧ Post P w0 ρ x undef w2 := by
  unfold updateA at e
  split at e
  case h_2 => rw [HM.fail_iff] at e; cases e
  rename_i kt et b ht hck
  obtain rfl := G.closed_eq _ _ _ hck hk
  obtain ⟨p, p1, rfl⟩ := hm.map_inv
  split at e
  case h_2 => rw [HM.fail_iff] at e; cases e
  rename_i kd hkb
  rw [HM.bind_iff] at e
  obtain ⟨⟨⟨es, clock⟩, yn, yh, yr, yw⟩, e1, x2, e2, rfl⟩ := e
  obtain ⟨e3, e4⟩ := getM_inv e1
  simp only at e2 e3 e4
  subst e3
  obtain ⟨_, es', h2, h3⟩ := hw.mapRow e4 p1
  have hc := checkKey_run (w := w) hkb false k'
  split at e2
  · rename_i j v0 hf
    split at e2
    · rename_i en hen
      simp only [HM.bind_iff, HM.pure_iff, setO_iff] at e2
      obtain ⟨_, ⟨_, rfl⟩, _, rfl, rfl⟩ := e2
      rcases findNow_G h3 hf with ⟨q1, _⟩ | ⟨i2, u, u', f, f', q1, q2, q3, _, q5, q6, q7, q8, q9, q10⟩
      · cases q1
      · cases q1
        simp only [Nat.sub_zero] at q5 q6
        rw [hen] at q5
        cases q5
        have hge : GE ρ (es.set j { key := k', val := v, born := en.born }) (es'.modify j fun e => { e with key := k', val := v' }).toList := by
          refine ⟨by simp [h3.1], fun i a b ha hb => ?_⟩
          rw [List.getElem?_set] at ha
          rw [Array.getElem?_toList, Array.getElem?_modify] at hb
          split at ha
          · rename_i hij
            subst hij
            split at ha
            · cases ha
              rw [if_pos rfl] at hb
              rw [Array.getElem?_toList] at q6
              rw [q6] at hb
              cases hb
              obtain ⟨z1, z2, z3, z4⟩ := h3.2 j _ _ hen (by rw [Array.getElem?_toList]; exact q6)
              exact ⟨rfl, hck, z3, hv⟩
            · cases ha
          · rename_i hij
            rw [if_neg hij] at hb
            exact h3.2 i a b ha (by rw [Array.getElem?_toList]; exact hb)
        refine ⟨_, ?_, ρ, Pm.le_refl _, hw.mapHeap e4 p1 (k2 := clock) hge, G.of_closed 1 _ rfl⟩
        have hkey : ((es'[j]?).map (·.key)).getD k' = k' := by
          rw [Array.getElem?_toList] at q6
          rw [q6]
          exact q7
        simp only [Instr.mapUpdate, Sem.run_bind, run_underlying ht, Result.andThen_ok, run_getMap h2, hc, findKey_run hkb q2, hkey, Instr.keyThatStays, q10, if_true, Sem.run_pure, run_setMap h2]
    · rw [HM.fail_iff] at e2; cases e2
  · rename_i hf
    simp only [HM.bind_iff, HM.pure_iff, setO_iff] at e2
    obtain ⟨_, ⟨_, rfl⟩, _, rfl, rfl⟩ := e2
    rcases findNow_G h3 hf with ⟨_, q2⟩ | ⟨i2, u, u', f, f', q1, _⟩
    · have hge : GE ρ (es ++ [{ key := k', val := v, born := clock }]) (es'.push { key := k', val := v', born := clock }).toList := by
        refine ⟨by have := h3.1; simp at this; simp [this], fun i a b ha hb => ?_⟩
        rw [Array.toList_push] at hb
        rcases Nat.lt_or_ge i es.length with hi | hi
        · rw [List.getElem?_append_left hi] at ha
          rw [List.getElem?_append_left (h3.1 ▸ hi)] at hb
          exact h3.2 i a b ha hb
        · rw [List.getElem?_append_right hi] at ha
          rw [List.getElem?_append_right (h3.1 ▸ hi), ← h3.1] at hb
          cases hj : i - es.length with
          | zero => rw [hj] at ha hb; simp at ha hb; subst ha hb; exact ⟨rfl, hck, rfl, hv⟩
          | succ q => rw [hj] at ha; simp at ha
      refine ⟨_, ?_, ρ, Pm.le_refl _, hw.mapHeap e4 p1 (k2 := clock + 1) hge, G.of_closed 1 _ rfl⟩
      simp only [Instr.mapUpdate, Sem.run_bind, run_underlying ht, Result.andThen_ok, run_getMap h2, hc, findKey_run hkb q2, run_setMap h2]
    · cases q1
  · rw [HM.fail_iff] at e2; cases e2

theorem delete_run (hw : W P w0 ρ h w) {t t' ty : TypeId} {m k m' k' : Value} (hm : G ρ m m') (hk : G ρ k k') (e : (deleteA P t m k).run n h = some x) : ∃ w2, (Builtin.delete_ #[t, t'] ty #[m', k']).run P w = .ok (.tuple #[]) w2 ∧ Post P w0 ρ x (.tuple #[]) w2 := by
  unfold deleteA at e
  split at e
  case h_2 => rw [HM.fail_iff] at e; cases e
  rename_i kt et b ht hck
  obtain rfl := G.closed_eq _ _ _ hck hk
  obtain ⟨p, p1, rfl⟩ := hm.map_inv
  split at e
  case h_2 => rw [HM.fail_iff] at e; cases e
  rename_i kd hkb
  rw [HM.bind_iff] at e
  obtain ⟨⟨⟨es, clock⟩, yn, yh, yr, yw⟩, e1, x2, e2, rfl⟩ := e
  obtain ⟨e3, e4⟩ := getM_inv e1
  simp only at e2 e3 e4
  subst e3
  obtain ⟨_, es', h2, h3⟩ := hw.mapRow e4 p1
  have hc := checkKey_run (w := w) hkb es'.isEmpty k'
  split at e2
  · rename_i j v0 hf
    simp only [HM.bind_iff, HM.pure_iff, setO_iff] at e2
    obtain ⟨_, ⟨_, rfl⟩, _, rfl, rfl⟩ := e2
    rcases findNow_G h3 hf with ⟨q1, _⟩ | ⟨i2, u, u', f, f', q1, q2, q3, _, q5, q6, _⟩
    · cases q1
    · cases q1
      have hge : GE ρ (es.eraseIdx j) (es'.eraseIdxIfInBounds j).toList := by
        simp only [Nat.sub_zero] at q6
        have hlt : j < es'.size := by have := (List.getElem?_eq_some_iff.1 q6).1; simpa using this
        have he : (es'.eraseIdxIfInBounds j).toList = es'.toList.eraseIdx j := by simp [Array.eraseIdxIfInBounds, hlt]
        rw [he]
        refine ⟨by simp [List.length_eraseIdx, h3.1], fun i a b ha hb => ?_⟩
        rw [List.getElem?_eraseIdx] at ha hb
        split at ha
        · rename_i hij; rw [if_pos hij] at hb; exact h3.2 _ _ _ ha hb
        · rename_i hij; rw [if_neg hij] at hb; exact h3.2 _ _ _ ha hb
      refine ⟨_, ?_, ρ, Pm.le_refl _, hw.mapHeap e4 p1 (k2 := clock) hge, G.of_closed 1 _ rfl⟩
      simp [Builtin.delete_, run_underlying ht, run_getMap h2, hc, findKey_run hkb q2, run_setMap h2]
  · rename_i hf
    rw [HM.pure_iff] at e2
    subst e2
    rcases findNow_G h3 hf with ⟨_, q2⟩ | ⟨i2, u, u', f, f', q1, _⟩
    · refine ⟨{ w with heap := w.heap.setIfInBounds p.blk (.map es' clock) }, ?_, ρ, Pm.le_refl _, ?_, G.of_closed 1 _ rfl⟩
      rotate_left
      · have := hw.mapHeap e4 p1 (k2 := clock) h3
        refine hw.world (w' := { w with heap := w.heap.setIfInBounds p.blk (.map es' clock) }) ⟨rfl, rfl, rfl, by simp, fun j hj => ?_⟩ fun i o q hi hl hq => ?_
        · simp only
          rw [Array.getElem?_setIfInBounds_ne]
          have := (hw.mapRow e4 p1).1
          omega
        · simp only
          by_cases hb : p.blk = q.blk
          · rw [hb, Array.getElem?_setIfInBounds_self_of_lt (by rw [← hb]; exact (Array.getElem?_eq_some_iff.1 h2).1), ← hb, h2]
          · rw [Array.getElem?_setIfInBounds_ne hb]
      · simp [Builtin.delete_, run_underlying ht, run_getMap h2, hc, findKey_run hkb q2, run_setMap h2]
    · cases q1
  · rw [HM.fail_iff] at e2; cases e2
end
end Cl
end Go.Proofs.YtcihbmifogfdpaaGreatDoor

/-
  What the machine does for an operation is what the operation does (append, copy).
-/
import Derived.Test.YtcihbmifogfdpaaGreatDoorK7
namespace Go.Proofs.YtcihbmifogfdpaaGreatDoor
open Go.RowKit
namespace Cl

section
variable {P : Program} {w0 w w' : World} {ρ : Pm} {nt : Nat} {g : Regs} {a : Act} {h : H} {n : Nat} {o : Oper} {x : Res Value} {v' : Value} {post : Value → World → Prop}

theorem src_ok (hw : W P w0 ρ h w) {t' e' : TypeId} (ht' : P.underlying t' = some (.slice e')) {size : Nat} {v v' : Value} {y : Res (List Value × Nat)} (hv : G ρ v v') (e : (srcA size v).run n h = some y) :
    ∃ news', Src P size t' v' y.a.2 news' w ∧ GL ρ y.a.1 news' ∧ y.h = h ∧ news'.length = y.a.2 * size := by
  unfold srcA at e
  split at e
  · rename_i c
    rw [HM.pure_iff] at e
    subst e
    obtain rfl := G.nil_eq rfl hv
    exact ⟨[], .ofNil w ht' c, .nil, rfl, by simp⟩
  · rename_i b off sp m c
    obtain ⟨p, c', p1, rfl, _⟩ := hv.slice_inv
    split at e
    · rw [HM.pure_iff] at e
      subst e
      exact ⟨[], .ofSlice w ht' _ 0 c' [] (by simp) (fun j u hu => by simp at hu) (fun u hu => by cases hu), .nil, rfl, by simp⟩
    · simp only [HM.bind_iff, HM.opt_iff] at e
      obtain ⟨z, e1, z2, ⟨_, ⟨l, e2, rfl⟩, z3, e3, rfl⟩, rfl⟩ := e
      obtain ⟨e4, e5⟩ := getC_inv e1
      simp only at e3
      split at e3
      · rename_i hone
        rw [HM.pure_iff] at e3
        subst e3
        obtain ⟨l', g1, g2, g3⟩ := hw.range e5 p1 e2
        refine ⟨l', .ofSlice w ht' _ _ c' l' g2 (fun j u hu => by rw [Addr.add_mid]; exact g3 j u hu) (fun u hu => ?_), g1, e4, g2⟩
        obtain ⟨u0, m1, m2⟩ := g1.mem hu
        exact oneB_G m2 (List.all_eq_true.1 hone u0 m1)
      · rw [HM.fail_iff] at e3; cases e3
  · rw [HM.fail_iff] at e; cases e

/-- what may be appended -/
def SrcKind (P : Program) (t' : TypeId) (v : Value) : Prop := (∃ e' a n c, P.underlying t' = some (.slice e') ∧ v = .slice a n c) ∨ (P.underlying t' = some .string ∧ ∃ s, v = .string s)
theorem srcS_ok (hw : W P w0 ρ h w) {t' : TypeId} {size : Nat} {v v' : Value} (hk : SrcKind P t' v) {y : Res (List Value × Nat)} (hv : G ρ v v') (e : (srcS size v).run n h = some y) :
    ∃ news', Src P size t' v' y.a.2 news' w ∧ GL ρ y.a.1 news' ∧ y.h = h ∧ news'.length = y.a.2 * size := by
  rcases hk with ⟨e', ad, m, c, ht', rfl⟩ | ⟨ht', s, rfl⟩
  · exact src_ok hw ht' hv e
  · obtain rfl := G.nil_eq rfl hv
    unfold srcS at e
    simp only at e
    split at e
    · rename_i hs
      obtain rfl := Nat.eq_of_beq_eq_true hs
      have := HM.pure_iff.1 e
      subst this
      refine ⟨byteCells s, .ofString w ht' s, GL.same fun u hu => ?_, rfl, by rw [byteCells_length, Nat.mul_one]⟩
      obtain ⟨b, _, rfl⟩ := List.mem_map.1 hu
      exact .flat rfl
    · rw [HM.fail_iff] at e; cases e
theorem grow_ok (hw : W P w0 ρ h w) {t t' ty e : TypeId} {i : TypeInfo} {size : Nat} (ht : P.underlying t = some (.slice e)) (hi : P.info? e = some i) (hsz : i.size = size) (hk : ∃ r, tk P e = some (r, size)) (hzo : zeroOk P e size = true) {base : Option Addr} {len cap m : Nat} {old old' new new' : List Value} {v' : Value} {x : Res Value}
    (hold : (Builtin.firstCells i.size len (.slice base len cap)).run P w.drew = .ok old'.toArray w.drew) (hlo : old'.length = len * size) (g1 : GL ρ old old') (hs : Src P size t' v' m new' w) (g2 : GL ρ new new') (hln : new'.length = m * size)
    (hlt : cap < len + m) (hb : (len + m) * i.bytes ≤ 2 ^ 40) (hb2 : len + m ≤ 2 ^ 40) (ee : (growA e (old ++ new) (len + m)).run n h = some x) :
    ∃ v2 w2, (Builtin.append_ #[t, t'] ty #[.slice base len cap, v']).run P w = .ok v2 w2 ∧ Post P w0 ρ x v2 w2 := by
  unfold zeroOk at hzo
  split at hzo
  · rename_i z hz
    obtain ⟨i', z0, z1, z2, rfl, _⟩ := zeroL_spec hz
    rw [hi] at z1
    cases z1
    have hzs : z0.cells.size = size := by simpa using Nat.eq_of_beq_eq_true hzo
    obtain ⟨f2, f3, f4⟩ := fresh_then (f := fun b => .slice (some ⟨b, 0, none⟩) (len + m) (len + m)) ee
    have hge := grownCap_ge w (len + m) cap e
    obtain ⟨r, hkr⟩ := hk
    have hfit : Builtin.nextslicecap (len + m) cap * i.bytes ≤ 281474976710656 := by
      have h1 := nextslicecap_le hlt
      have h2 : Builtin.nextslicecap (len + m) cap * i.bytes ≤ 2 * (len + m) * i.bytes := Nat.mul_le_mul_right _ h1
      rw [Nat.mul_assoc] at h2
      omega
    refine ⟨_, _, run_append_grow_src (P := P) w t t' ty e i z0 ht hi z2 base len cap old' hold v' m new' (hsz ▸ hs) hlt (by omega) hfit, ?_⟩
    have c1 : ((old' ++ new').toArray ++ Builtin.zeroCells z0.cells (grownCap w (len + m) cap e - (len + m))).size = (old ++ new).length + (grownCap w (len + m) cap e - (len + m)) * szOf P e := by
      have l1 := g1.1
      have l2 := g2.1
      simp [szOf, hkr, size_zeroCells, hzs, l1, l2]
    have c2 : ∀ (k : Nat) (u : Value), (old ++ new)[k]? = some u → ∃ u', ((old' ++ new').toArray ++ Builtin.zeroCells z0.cells (grownCap w (len + m) cap e - (len + m)))[k]? = some u' ∧ G ρ u u' := by
      intro k u hu
      obtain ⟨u', q1, q2⟩ := (g1.append g2).get hu
      refine ⟨u', ?_, q2⟩
      have : k < (old' ++ new').length := (List.getElem?_eq_some_iff.1 q1).1
      rw [Array.getElem?_append_left (by simpa using this)]
      simpa using q1
    obtain ⟨k1, k2⟩ := hw.drew.newRow (n := n) (t := e) (vec := true) f2 (fun h => by cases h) c1 c2
    refine .mk f3 f4 k1 k2 ?_
    have := G.slc (ρ := upP ρ n ⟨w.drew.heap.size, 0, grownCap w (len + m) cap e - (len + m)⟩) (b := n) (off := 0) (n := len + m) (c := len + m) (upP_same _ _ _)
    have hcap : len + m + (grownCap w (len + m) cap e - (len + m)) = grownCap w (len + m) cap e := by omega
    simp only [hcap] at this
    exact this
  · cases hzo

theorem append_run (hw : W P w0 ρ h w) {t t' ty : TypeId} {s v s' v' : Value} (hsk : SrcKind P t' v) (hs : G ρ s s') (hv : G ρ v v') (ee : (appendA P t s v).run n h = some x) : ∃ v2 w2, (Builtin.append_ #[t, t'] ty #[s', v']).run P w = .ok v2 w2 ∧ Post P w0 ρ x v2 w2 := by
  unfold appendA at ee
  split at ee
  case h_2 => rw [HM.fail_iff] at ee; cases ee
  rename_i e ht
  split at ee
  case h_2 => rw [HM.fail_iff] at ee; cases ee
  rename_i r size i hk hi
  obtain ⟨d, i', t1, t2, t3, t4⟩ := tk_spec hk
  rw [hi] at t2
  cases t2
  rw [HM.bind_iff] at ee
  obtain ⟨y, e1, x2, e2, rfl⟩ := ee
  obtain ⟨new', hsrc, hgl, hyh, hnl⟩ := srcS_ok hw hsk hv e1
  obtain ⟨⟨new, m⟩, yn, yh, yr, yw⟩ := y
  simp only at hsrc hgl hyh hnl e2
  subst hyh
  -- what is given back lies behind the frame of the whole
  have lift : ∀ {v2 w2}, Post P w0 ρ x2 v2 w2 → Post P w0 ρ ⟨x2.a, x2.n, x2.h, yr ||| x2.r, yw ||| x2.w⟩ v2 w2 := fun h => h
  have hsrc' : Src P i.size t' v' m new' w := t3 ▸ hsrc
  split at e2
  · -- nil
    obtain rfl := G.nil_eq rfl hs
    split at e2
    · rw [HM.pure_iff] at e2
      subst e2
      have h0 : new' = [] := List.length_eq_zero_iff.1 (by rw [hnl]; simp)
      subst h0
      refine ⟨.slice none 0 0, w, ?_, lift (post_same hw (.flat rfl))⟩
      rcases hsrc'.kind with ⟨e', ht'⟩ | ht' <;> simp [Builtin.append_, run_underlying ht, run_underlying ht', sizeOf, typeInfo, hi, hsrc'.len, hsrc'.cells]
    · rename_i m
      split at e2
      · rename_i hb
        simp only [Bool.and_eq_true, Nat.ble_eq] at hb
        have := grow_ok hw (ty := ty) ht hi t3 ⟨r, hk⟩ hb.2 (base := none) (len := 0) (cap := 0) (m := m + 1) (old := []) (old' := []) (run_firstCells_none w.drew i.size 0 0 0) (by simp) .nil hsrc hgl hnl (by omega) (by simpa using hb.1.1) (by simpa using hb.1.2) (by simpa using e2)
        exact this
      · rw [HM.fail_iff] at e2; cases e2
  · rename_i b off sp len cap
    obtain ⟨p, cap', p1, rfl, hc⟩ := hs.slice_inv
    have hcc : cap ≤ cap' := by rcases hc with ⟨_, rfl⟩ | ⟨_, rfl⟩ <;> omega
    split at e2
    · -- there is room
      rename_i hroom
      rw [Nat.ble_eq] at hroom
      split at e2
      · rw [HM.pure_iff] at e2
        subst e2
        have h0 : new' = [] := List.length_eq_zero_iff.1 (by rw [hnl]; simp)
        subst h0
        have := run_append_room_src (P := P) w t t' ty e i ht hi p.blk (p.base + off) len cap' v' 0 [] hsrc' (by omega) (fun j hj => by simp at hj) (fun j hj => by simp at hj)
        exact ⟨_, _, this, lift (post_same hw hs)⟩
      · rename_i m
        simp only [HM.bind_iff, HM.pure_iff] at e2
        obtain ⟨y2, e3, _, rfl, rfl⟩ := e2
        obtain ⟨k1, k2, k3, k4⟩ := hw.put p1 hgl e3
        have hadd : p.base + (off + len * size) = p.base + off + len * i.size := by rw [t3, Nat.add_assoc]
        rw [hadd] at k2 k4
        have := run_append_room_src (P := P) w t t' ty e i ht hi p.blk (p.base + off) len cap' v' (m + 1) new' hsrc' (by omega) (fun j hj => (k4 j hj).1) (fun j hj => (k4 j hj).2)
        refine ⟨_, _, this, ρ, Pm.le_refl _, k2, ?_⟩
        rcases hc with ⟨rfl, rfl⟩ | ⟨rfl, rfl⟩
        · exact .slc p1
        · exact .slx p1
    · -- there is none, as far as the machine knows
      rename_i hroom
      have hroom' : cap < len + m := by
        rcases Nat.lt_or_ge cap (len + m) with h1 | h1
        · exact h1
        · have h2 : (len + m).ble cap = true := Nat.ble_eq.mpr h1
          rw [hroom] at h2; cases h2
      rw [HM.bind_iff] at e2
      obtain ⟨⟨⟨c, et, vec⟩, zn, zh, zr, zw⟩, e3, x3, e4, rfl⟩ := e2
      obtain ⟨e5, e6⟩ := getC_inv e3
      simp only at e5 e6 e4
      subst e5
      rw [HM.bind_iff] at e4
      obtain ⟨_, e7, x4, e8, rfl⟩ := e4
      obtain ⟨old, e9, rfl⟩ := HM.opt_iff.1 e7
      simp only at e8
      obtain ⟨old', g1, g2, g3⟩ := hw.range e6 p1 e9
      have hold : (Builtin.firstCells i.size len (.slice (some ⟨p.blk, p.base + off, none⟩) len cap')).run P w.drew = .ok old'.toArray w.drew :=
        run_firstCells_some w.drew i.size len _ len cap' old' (by rw [g2, t3]) fun j u hu => by rw [Addr.add_mid]; simpa using g3 j u hu
      split at e8
      case h_2 => rw [HM.fail_iff] at e8; cases e8
      rename_i hb
      simp only [Bool.and_eq_true, Nat.ble_eq] at hb
      have grow : cap' < len + m → (growA e (old ++ new) (len + m)).run zn zh = some x4 → _ := fun hlt hg =>
        grow_ok (x := x4) hw (ty := ty) ht hi t3 ⟨r, hk⟩ hb.2 hold g2 g1 hsrc hgl hnl hlt hb.1.1 hb.1.2 hg
      split at e8
      · -- growable
        split at e8
        case h_2 => rw [HM.fail_iff] at e8; cases e8
        rename_i hb2
        simp only [Bool.and_eq_true, beq_dec, decide_eq_true_eq] at hb2
        obtain ⟨hcl, rfl⟩ := hb2
        obtain rfl : cap' = cap + p.slack := by
          rcases hc with ⟨_, h⟩ | ⟨h, _⟩
          · exact h
          · cases h
        rw [HM.bind_iff] at e8
        obtain ⟨_, e10, x5, e11, rfl⟩ := e8
        obtain ⟨_, rfl⟩ := setO_iff.1 e10
        simp only at e11
        have hwg := hw.setGone e6
        rcases Nat.lt_or_ge (cap + p.slack) (len + m) with hlt | hge
        · exact grow_ok (x := x5) hwg (ty := ty) ht hi t3 ⟨r, hk⟩ hb.2 hold g2 g1 hsrc hgl hnl hlt hb.1.1 hb.1.2 e11
        · -- the room was there
          obtain ⟨f2, f3, f4⟩ := fresh_then (f := fun b => .slice (some ⟨b, 0, none⟩) (len + m) (len + m)) e11
          obtain ⟨q1, q2, C, q3, q4, q5⟩ := hw.row e6 p1
          have hszo : szOf P e = size := by simp [szOf, hk]
          rw [hszo] at q4
          have hno : len * size + new'.length = (len + m) * size := by rw [hnl, Nat.add_mul]
          have hle : (len + m) * size ≤ (cap + p.slack) * size := Nat.mul_le_mul_right _ hge
          have hcs : (cap + p.slack) * size = cap * size + p.slack * size := Nat.add_mul _ _ _
          have hth : w.there p.blk (p.base + off + len * i.size) new'.length := by
            intro j hj
            have : p.base + off + len * i.size + j < C.size := by rw [q4, hcl, t3]; omega
            exact ⟨by simp [World.cell?, q3, this], by simp [World.frozen?, q3]⟩
          have hrun := run_append_room_src (P := P) w t t' ty e i ht hi p.blk (p.base + off) len (cap + p.slack) v' m new' hsrc' hge (fun j hj => (hth j hj).1) (fun j hj => (hth j hj).2)
          obtain ⟨C', c1, c2, c3⟩ := setCells_heap p.blk e (0, 0) new' (p.base + off + len * i.size) w C q3 (by rw [q4, hcl, t3]; omega)
          refine ⟨_, _, hrun, ?_⟩
          let q : Pl := ⟨p.blk, p.base + off, cap + p.slack - (len + m)⟩
          have hapart : ∀ j oj q', hget (hset zh b .gone) j = some oj → oj.live = true → ρ j = some q' → q'.blk ≠ p.blk := fun j oj q' hj hl hq' => by
            rw [hget_set] at hj
            split at hj
            · cases hj; cases hl
            · rename_i hne
              exact hw.inj j b oj _ q' p hne hj e6 hq' p1 hl rfl
          have hww := hwg.world (w' := w.setCells p.blk (p.base + off + len * i.size) new') (setCells_below q1 _ _ _ _ (Below.refl _ _)) fun j oj q' hj hl hq' => setCells_other _ _ _ _ _ (hapart j oj q' hj hl hq')
          have hle' := hww.le_up f2 q
          refine ⟨upP ρ zn q, hle', ?_, ?_⟩
          · simp only
            rw [f4]
            refine hww.name f2 (fun _ => hapart) ⟨q1, fun h => by (cases h), C', c1, ?_, fun k u hu => ?_⟩
            · rw [c2, q4, hcl, hszo]
              have l1 := g1.1
              have l2 := hgl.1
              have : (cap + p.slack - (len + m)) * size = (cap + p.slack) * size - (len + m) * size := Nat.sub_mul _ _ _
              simp only [q, List.length_append, l1, l2, g2]
              omega
            · obtain ⟨u', z1, z2⟩ := (g1.append hgl).get hu
              refine ⟨u', ?_, z2.mono hle'⟩
              simp only [q]
              rw [c3]
              rcases Nat.lt_or_ge k old'.length with hko | hko
              · rw [List.getElem?_append_left hko] at z1
                rw [if_neg (by rw [t3]; omega)]
                have := g3 k u' z1
                simp only [World.cell?, q3] at this
                simpa using this
              · rw [List.getElem?_append_right hko] at z1
                have hk2 : k - old'.length < new'.length := (List.getElem?_eq_some_iff.1 z1).1
                rw [if_pos (by rw [t3]; omega), show p.base + off + k - (p.base + off + len * i.size) = k - old'.length by rw [t3]; omega]
                exact z1
          · simp only
            rw [f3]
            have := G.slc (ρ := upP ρ zn q) (b := zn) (off := 0) (n := len + m) (c := len + m) (upP_same _ _ _)
            simp only [q, Nat.add_zero, show len + m + (cap + p.slack - (len + m)) = cap + p.slack by omega] at this
            exact this
      · -- of a known end
        rename_i hno
        have hcap : cap' = cap := by
          rcases hc with ⟨rfl, rfl⟩ | ⟨_, rfl⟩
          · obtain ⟨_, q2, _⟩ := hw.row e6 p1
            cases vec with
            | true => exact (hno rfl rfl).elim
            | false => rw [(q2 rfl).1]; rfl
          · rfl
        exact grow (by omega) e8
  · rw [HM.fail_iff] at e2; cases e2
end
end Cl
end Go.Proofs.YtcihbmifogfdpaaGreatDoor

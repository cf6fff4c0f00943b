/-
  cache.Bytes given to the machine.
-/
import Derived.Test.YtcihbmifogfdpaaGreatDoorO6
namespace Go.Proofs.YtcihbmifogfdpaaGreatDoor
open Go.RowKit Go.Maps Go.ChangeMaps
namespace Cl

noncomputable def kN (e : MapEntry) : Nat := match e.key with
  | .int .i64 (.ofNat k) => k
  | _ => 0
noncomputable def bN (e : MapEntry) : Nat := match e.val with
  | .pointer (some ⟨b, 0, none⟩) => b
  | _ => 0
noncomputable def okE (e : MapEntry) : Bool := match e.key, e.val with
  | .int .i64 (.ofNat k), .pointer (some ⟨_, 0, none⟩) => Nat.ble k 1000000
  | _, _ => false
noncomputable def diffN : List Nat → Bool
  | [] => true
  | x :: l => match l.all (fun y => !Nat.beq x y) with
    | true => diffN l
    | false => false
theorem diffN_spec : ∀ {l : List Nat}, diffN l = true → l.Nodup
  | [], _ => List.nodup_nil
  | x :: l, h => by
    unfold diffN at h
    split at h
    · rename_i h1
      refine List.nodup_cons.2 ⟨fun hm => ?_, diffN_spec h⟩
      have := List.all_eq_true.1 h1 x hm
      rw [beq_dec] at this
      simp at this
    · cases h
/-- the length of the list that a pointer leads to; a class's size -/
noncomputable def gOf (c : List Value) : Option Nat := match c with
  | .slice _ g _ :: _ => some g
  | _ => none
noncomputable def sOf (tc : List Value) (toff k : Nat) : Option Nat := match tc[toff + k * 3]? with
  | some (.int .i64 (.ofNat s)) => some s
  | _ => none
noncomputable def bytesE (tc : List Value) (toff n : Nat) : List MapEntry → HM Nat
  | [] => pure 0
  | e :: l => do
    let (c, _, v) ← getC (bN e)
    match gOf c, v, sOf tc toff (kN e) with
    | some g, false, some s => match Nat.ble s 1048576, Nat.ble g 1048576, Nat.ble (Nat.succ (kN e)) n with
      | true, true, true => do
        let r ← bytesE tc toff n l
        pure (s * g + r)
      | _, _, _ => HM.fail
    | _, _, _ => HM.fail
noncomputable def bytesOv (args : List Value) : HM Value := match args with
  | [.pointer (some ⟨c, 0, none⟩)] => do
    let (cc, _, v) ← getC c
    match cc, v with
    | .slice (some ⟨tb, toff, _⟩) n _ :: _ :: .map (some m) :: _, false => do
      let (tc, _, _) ← getC tb
      let (es, clock) ← getM m
      match Nat.ble es.length 40, bornB clock es, es.all okE, diffN (es.map kN), diffN (es.map bN) with
      | true, true, true, true, true => do
        let s ← bytesE tc toff n es
        pure (.int .i64 (.ofNat s))
      | _, _, _, _, _ => HM.fail
    | _, _ => HM.fail
  | _ => HM.fail

section
variable {P : Program} {w0 w w' : World} {ρ : Pm} {h : H} {n : Nat}
def blkOf (ρ : Pm) (b : Nat) : Nat := match ρ b with
  | some p => p.blk
  | none => 0
/-- what is known of an entry -/
structure EAt (h : H) (ρ : Pm) (w : World) (tc : List Value) (toff n : Nat) (e : MapEntry) (s g : Nat) : Prop where
  k : kN e < n
  sz : tc[toff + kN e * 3]? = some (.int .i64 (s : Int))
  s1 : s ≤ 1048576
  g1 : g ≤ 1048576
  o : ∃ c t v p, hget h (bN e) = some (.cells c t v) ∧ ρ (bN e) = some p ∧ p.base = 0 ∧ ∃ a cap, w.cell? ⟨p.blk, 0, none⟩ = some (.slice a g cap)
theorem bytesE_spec (hw : W P w0 ρ h w) {tc : List Value} {toff : Nat} : ∀ (es : List MapEntry) {m : Nat} {x : Res Nat}, (bytesE tc toff n es).run m h = some x →
    x.h = h ∧ ∃ f : List (MapEntry × Nat × Nat), f.map (·.1) = es ∧ x.a = (f.map fun y => y.2.1 * y.2.2).sum ∧ ∀ y ∈ f, EAt h ρ w tc toff n y.1 y.2.1 y.2.2
  | [], m, x, e => by
    have := HM.pure_iff.1 e
    subst this
    exact ⟨rfl, [], rfl, rfl, by simp⟩
  | en :: es, m, x, e => by
    unfold bytesE at e
    rw [HM.bind_iff] at e
    obtain ⟨⟨⟨c, t, v⟩, n1, h1, r1, q1⟩, e1, x2, e2, rfl⟩ := e
    obtain ⟨e3, e4⟩ := getC_inv e1
    simp only at e2 e3 e4
    obtain rfl := e3.symm
    split at e2
    · rename_i g s hg hs
      split at e2
      · rename_i c1 c2 c3
        rw [Nat.ble_eq] at c1 c2 c3
        rw [HM.bind_iff] at e2
        obtain ⟨y, e5, y2, e6, rfl⟩ := e2
        have := HM.pure_iff.1 e6
        subst this
        obtain ⟨k1, f, k2, k3, k4⟩ := bytesE_spec hw es e5
        refine ⟨k1, (en, s, g) :: f, by simp [k2], by simp [k3], fun z hz => ?_⟩
        rcases List.mem_cons.1 hz with rfl | hz
        · obtain ⟨p, p1, p2⟩ := hw.obj _ _ e4
          obtain ⟨_, b0, C, c4, _, c5⟩ := hw.row e4 p1
          obtain ⟨s0, b0⟩ := b0 rfl
          unfold gOf at hg
          split at hg
          · rename_i sa g' cap' rest
            cases hg
            obtain ⟨u', f1, f2⟩ := c5 0 _ rfl
            rw [b0] at f1
            have hsl : ∃ a cap, u' = .slice a g cap := by
              cases f2 with
              | flat h => exact ⟨_, _, rfl⟩
              | slc h => exact ⟨_, _, rfl⟩
              | slx h => exact ⟨_, _, rfl⟩
            obtain ⟨a, cap, rfl⟩ := hsl
            refine ⟨c3, ?_, c1, c2, _, _, _, p, e4, p1, b0, a, cap, by simpa [World.cell?, c4] using f1⟩
            unfold sOf at hs
            split at hs
            · rename_i s' hs'
              cases hs
              exact hs'
            · cases hs
          · cases hg
        · exact k4 z hz
      · rw [HM.fail_iff] at e2; cases e2
    · rw [HM.fail_iff] at e2; cases e2
end
theorem find_of {α : Type} {l : List α} {p : α → Bool} {x : α} (hx : x ∈ l) (hp : p x = true) (hu : ∀ y ∈ l, p y = true → y = x) : l.find? p = some x := by
  cases e : l.find? p with
  | none => have := List.find?_eq_none.1 e x hx; simp [hp] at this
  | some y => rw [hu y (List.mem_of_find?_eq_some e) (List.find?_some e)]
theorem nodup_map_inj {α β : Type} {f : α → β} : ∀ {l : List α}, (l.map f).Nodup → ∀ x ∈ l, ∀ y ∈ l, f x = f y → x = y
  | [], _, x, hx, _, _, _ => by cases hx
  | a :: l, h, x, hx, y, hy, e => by
    rw [List.map_cons, List.nodup_cons] at h
    rcases List.mem_cons.1 hx with rfl | hx' <;> rcases List.mem_cons.1 hy with rfl | hy'
    · rfl
    · exact absurd (List.mem_map.2 ⟨y, hy', e.symm⟩) h.1
    · exact absurd (List.mem_map.2 ⟨x, hx', e⟩) h.1
    · exact nodup_map_inj h.2 x hx' y hy' e
theorem sumI_nat {α : Type} (f : α → Nat) : ∀ l : List α, sumI (l.map fun x => (f x : Int)) = ((l.map f).sum : Nat)
  | [] => rfl
  | x :: l => by rw [List.map_cons, sumI_cons, sumI_nat f l, List.map_cons, List.sum_cons]; omega

set_option maxRecDepth 100000 in
theorem bytes_ok (w0 : World) : OneOk Tryz.prog w0 79 bytesOv := by
  intro args n h x e ρ w args' hw hg
  unfold bytesOv at e
  split at e
  · rename_i c
    obtain ⟨v', l', rfl, g1, g2⟩ := hg.uncons
    obtain rfl := g2.nil_eq
    obtain ⟨pc, pc1, rfl⟩ := g1.ptr_inv
    rw [HM.bind_iff] at e
    obtain ⟨⟨⟨cc, t, v⟩, n1, h1, r1, q1⟩, e1, x2, e2, rfl⟩ := e
    obtain ⟨e3, e4⟩ := getC_inv e1
    simp only at e2 e3 e4
    subst e3
    split at e2
    · rename_i tb toff sp nn cap u m rest
      rw [HM.bind_iff] at e2
      obtain ⟨⟨⟨tc, t2, v2⟩, n2, h2, r2, q2⟩, e5, x3, e6, rfl⟩ := e2
      obtain ⟨e7, e8⟩ := getC_inv e5
      simp only at e6 e7 e8
      subst e7
      rw [HM.bind_iff] at e6
      obtain ⟨⟨⟨es, clock⟩, n3, h3, r3, q3⟩, e9, x4, e10, rfl⟩ := e6
      obtain ⟨e11, e12⟩ := getM_inv e9
      simp only at e10 e11 e12
      subst e11
      split at e10
      · rename_i d1 d2 d3 d4 d5
        rw [Nat.ble_eq] at d1
        rw [HM.bind_iff] at e10
        obtain ⟨y, e13, y2, e14, rfl⟩ := e10
        have := HM.pure_iff.1 e14
        subst this
        obtain ⟨k1, f, k2, k3, k4⟩ := bytesE_spec hw es e13
        -- the cache's own cells
        obtain ⟨_, b0, C, c1, _, c2⟩ := hw.row e4 pc1
        obtain ⟨s0, b0⟩ := b0 rfl
        rw [b0] at c2
        simp only [Nat.zero_add] at c2
        obtain ⟨u0, f0, g0⟩ := c2 0 _ rfl
        obtain ⟨u2, f2, g2⟩ := c2 2 _ rfl
        obtain ⟨pt, cap', pt1, rfl, _⟩ := g0.slice_inv
        obtain ⟨pm, pm1, rfl⟩ := g2.map_inv
        obtain ⟨_, es', m1, m2⟩ := hw.mapRow e12 pm1
        obtain ⟨_, _, T, t3, _, t4⟩ := hw.row e8 pt1
        obtain ⟨w1, w2⟩ := bornB_spec d2
        -- the entries as they lie there
        let ent : MapEntry → _root_.Go.Proofs.YtcihbmifogfdpaaGreatDoor.Ent := fun e => ⟨kN e, blkOf ρ (bN e), e.born⟩
        have hent : ∀ z ∈ f, ∀ e', e'.key = z.1.key → e'.born = z.1.born → G ρ z.1.val e'.val → e' = _root_.Go.Proofs.YtcihbmifogfdpaaGreatDoor.Ent.raw (ent z.1) := fun z hz e' h1 h2 h3 => by
          have hok : okE z.1 = true := List.all_eq_true.1 d3 z.1 (by rw [← k2]; exact List.mem_map_of_mem hz)
          have hk4 := (k4 z hz).o
          obtain ⟨⟨key, val, born⟩, s, g⟩ := z
          obtain ⟨key', val', born'⟩ := e'
          simp only at h1 h2 h3
          subst h1 h2
          unfold okE at hok
          simp only at hok
          split at hok
          · rename_i k b
            obtain ⟨_, _, _, p, _, p1, p2, _⟩ := hk4
            obtain ⟨p', p3, rfl⟩ := h3.ptr_inv
            have hb : bN ⟨.int .i64 (.ofNat k), .pointer (some ⟨b, 0, none⟩), born'⟩ = b := rfl
            simp only [hb] at p1
            rw [p1] at p3
            cases p3
            have : blkOf ρ b = p.blk := by simp [blkOf, p1]
            show (⟨.int .i64 (Int.ofNat k), .pointer (some ⟨p.blk, p.base + 0, none⟩), born'⟩ : MapEntry) = ⟨.int .i64 ((k : Nat) : Int), .pointer (some ⟨blkOf ρ b, 0, none⟩), born'⟩
            rw [this, p2]
            rfl
          · cases hok
        have hes : es'.toList = (f.map fun z => _root_.Go.Proofs.YtcihbmifogfdpaaGreatDoor.Ent.raw (ent z.1)) := by
          apply List.ext_getElem?
          intro i
          have hl : es.length = es'.toList.length := m2.1
          have hlf : f.length = es.length := by rw [← k2, List.length_map]
          by_cases hi : i < es.length
          · have hif : i < f.length := by omega
            rw [List.getElem?_eq_getElem (hl ▸ hi), List.getElem?_map, List.getElem?_eq_getElem hif]
            simp only [Option.map_some, Option.some.injEq]
            have he : es[i]? = some (f[i]).1 := by rw [← k2, List.getElem?_map, List.getElem?_eq_getElem hif]; rfl
            obtain ⟨q1, q2, q3, q4⟩ := m2.2 i _ _ he (List.getElem?_eq_getElem (hl ▸ hi))
            exact hent _ (List.getElem_mem hif) _ q1 q3 q4
          · rw [List.getElem?_eq_none (by omega), List.getElem?_eq_none (by rw [List.length_map]; omega)]
        have hents : es' = entsA (f.map fun z => ent z.1) := by
          apply Array.ext'
          rw [entsA_toList, hes, List.map_map]
          rfl
        have hnb : (f.map fun z => blkOf ρ (bN z.1)).Nodup := by
          have hb := diffN_spec d5
          rw [← k2, List.map_map] at hb
          rw [List.nodup_iff_pairwise_ne, List.pairwise_map] at hb ⊢
          refine hb.imp_of_mem fun {a b} ha hbm hne => ?_
          obtain ⟨_, _, _, p, o1, o2, _, _⟩ := (k4 a ha).o
          obtain ⟨_, _, _, q, o3, o4, _, _⟩ := (k4 b hbm).o
          have := hw.inj _ _ _ _ p q hne o1 o3 o2 o4 rfl rfl
          simpa [blkOf, o2, o4] using this
        let F : Nat → Option (MapEntry × Nat × Nat) := fun b => f.find? fun z => blkOf ρ (bN z.1) == b
        have hF : ∀ z ∈ f, F (blkOf ρ (bN z.1)) = some z := fun z hz => find_of hz (by simp) fun y hy he => nodup_map_inj hnb y hy z hz (by simpa using he)
        let fs : Nat → Int := fun b => match F b with | some z => (z.2.1 : Int) | none => 0
        let gs : Nat → Nat := fun b => match F b with | some z => z.2.2 | none => 0
        have hfs : ∀ z ∈ f, fs (blkOf ρ (bN z.1)) = z.2.1 := fun z hz => by show (match F _ with | some z => (z.2.1 : Int) | none => 0) = _; rw [hF z hz]
        have hgs : ∀ z ∈ f, gs (blkOf ρ (bN z.1)) = z.2.2 := fun z hz => by show (match F _ with | some z => z.2.2 | none => 0) = _; rw [hF z hz]
        have hfe : ∀ (q : MapEntry → Nat), (f.map fun z => q z.1) = es.map q := fun q => by rw [← k2, List.map_map]; rfl
        have hA : BytesAt w pc.blk pm.blk clock pt.blk (pt.base + toff) nn cap' (f.map fun z => ent z.1) fs gs := by
          refine ⟨?_, ?_, by rw [← hents]; exact m1, ⟨fun x hx => ?_, ?_, ?_, fun x hx => ?_⟩, ?_, fun x hx => ?_⟩
          · simpa [World.cell?, c1] using f0
          · simpa [World.cell?, c1] using f2
          · obtain ⟨z, hz, rfl⟩ := List.mem_map.1 hx
            have hok : okE z.1 = true := List.all_eq_true.1 d3 z.1 (by rw [← k2]; exact List.mem_map_of_mem hz)
            show kN z.1 ≤ _
            unfold okE at hok
            split at hok
            · rename_i k b hk _
              rw [Nat.ble_eq] at hok
              have : kN z.1 = k := by unfold kN; rw [hk]
              omega
            · cases hok
          · rw [List.map_map]
            have := diffN_spec d4
            rw [← hfe] at this
            exact this
          · rw [List.map_map]
            rw [← hfe (·.born)] at w2
            exact w2
          · obtain ⟨z, hz, rfl⟩ := List.mem_map.1 hx
            exact w1 _ (List.mem_map_of_mem (by rw [← k2]; exact List.mem_map_of_mem hz))
          · rw [List.length_map, show f.length = es.length by rw [← k2, List.length_map]]; exact d1
          · obtain ⟨z, hz, rfl⟩ := List.mem_map.1 hx
            have hz4 := k4 z hz
            obtain ⟨_, _, _, p, _, p1, p2, a, cp, p3⟩ := hz4.o
            have hb : blkOf ρ (bN z.1) = p.blk := by simp [blkOf, p1]
            have h1 := hz4.s1
            have h2 := hz4.g1
            refine ⟨hz4.k, ?_, ⟨a, cp, ?_⟩, ?_⟩
            · show w.cell? ⟨pt.blk, pt.base + toff + kN z.1 * 3, none⟩ = some (.int .i64 (fs (blkOf ρ (bN z.1))))
              rw [hfs z hz]
              obtain ⟨u', q1, q2⟩ := t4 _ _ hz4.sz
              cases q2 with
              | flat _ => rw [Nat.add_assoc]; simpa [World.cell?, t3] using q1
            · show w.cell? ⟨blkOf ρ (bN z.1), 0, none⟩ = some (.slice a (gs (blkOf ρ (bN z.1))) cp)
              rw [hgs z hz, hb]
              exact p3
            · show 0 ≤ fs (blkOf ρ (bN z.1)) ∧ fs (blkOf ρ (bN z.1)) ≤ 1048576 ∧ gs (blkOf ρ (bN z.1)) ≤ 1048576 ∧ 0 ≤ fs (blkOf ρ (bN z.1)) * (gs (blkOf ρ (bN z.1)) : Int) ∧ fs (blkOf ρ (bN z.1)) * (gs (blkOf ρ (bN z.1)) : Int) ≤ 1099511627776
              rw [hfs z hz, hgs z hz]
              have hm : z.2.1 * z.2.2 ≤ 1048576 * 1048576 := Nat.mul_le_mul h1 h2
              have hm' : (z.2.1 : Int) * (z.2.2 : Int) = ((z.2.1 * z.2.2 : Nat) : Int) := by push_cast; rfl
              rw [hm']
              omega
        have hsum : sumI ((f.map fun z => ent z.1).map (termI fs gs)) = ((y.a : Nat) : Int) := by
          rw [k3, List.map_map, ← sumI_nat]
          congr 1
          refine List.map_congr_left fun z hz => ?_
          show fs (blkOf ρ (bN z.1)) * (gs (blkOf ρ (bN z.1)) : Int) = _
          rw [hfs z hz, hgs z hz]
          push_cast
          rfl
        have hc := bytes_ro w pc.blk pm.blk clock pt.blk (pt.base + toff) nn cap' (f.map fun z => ent z.1) fs gs hA
        rw [hsum] at hc
        rw [Tryz.call79]
        have hpb : pc.base + 0 = 0 := by omega
        rw [hpb]
        refine hc.mono ?_
        rintro e w' ⟨rfl, hbe⟩
        exact ⟨_, rfl, ρ, Pm.le_refl _, by simp only [k1]; exact hw.later hbe, .flat rfl⟩
      · rw [HM.fail_iff] at e10; cases e10
    · rw [HM.fail_iff] at e2; cases e2
  · rw [HM.fail_iff] at e; cases e
end Cl
end Go.Proofs.YtcihbmifogfdpaaGreatDoor

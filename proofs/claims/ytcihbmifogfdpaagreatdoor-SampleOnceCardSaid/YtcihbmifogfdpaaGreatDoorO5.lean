/-
  slices.Collect of the one key of a map, slices.Sorted of the keys of a map: given to the machine.
-/
import Derived.Test.YtcihbmifogfdpaaGreatDoorO4
namespace Go.Proofs.YtcihbmifogfdpaaGreatDoor
open Go.RowKit Go.Maps Go.Sort Go.Shelf
namespace Cl

/-- one function that is given -/
def OneOk (P : Program) (w0 : World) (f : FuncId) (m : List Value → HM Value) : Prop := ∀ args n h x, (m args).run n h = some x → ∀ ρ w args', W P w0 ρ h w → GL ρ args args' → effUpon P (Post P w0 ρ x) ((callFunc f args'.toArray).run P w)

noncomputable def collect1 (G t : Nat) (args : List Value) : HM Value := do
  let (es, clock) ← keysOf G args
  match es with
  | [⟨.int .i64 (.ofNat x), _, born⟩] => match Nat.ble (Nat.succ born) clock, Nat.ble x 4611686018427387904 with
    | true, true => do
      let b ← fresh (.cells [.int .i64 (.ofNat x)] t true)
      pure (.slice (some ⟨b, 0, none⟩) 1 1)
    | _, _ => HM.fail
  | _ => HM.fail

set_option maxRecDepth 100000 in
theorem collect1_ok (w0 : World) : OneOk Tryz.prog w0 108 (collect1 392 3) := by
  intro args n h x e ρ w args' hw hg
  unfold collect1 at e
  rw [HM.bind_iff] at e
  obtain ⟨⟨⟨es, clock⟩, n1, h1, r1, q1⟩, e1, x2, e2, rfl⟩ := e
  obtain ⟨Bm, b, es', rfl, k1, k2, k3, k4, k5, k6⟩ := keysOf_spec hw hg e1
  simp only at e2 k4 k5 k6
  subst k6
  split at e2
  · rename_i x v born
    split at e2
    · rename_i hb hx
      rw [Nat.ble_eq] at hb hx
      obtain ⟨f1, f2, f3⟩ := fresh_then (f := fun b => .slice (some ⟨b, 0, none⟩) 1 1) e2
      have hwf : (Lit.int .i64 (Int.ofNat x)).wf = true := by simp [Lit.wf, IntKind.min, IntKind.max, IntKind.signed, IntKind.bits]; omega
      obtain ⟨D0, hown, l, rfl, hl⟩ := owns_map (k := 3) k4 k5 (by simp) (by simp; omega) (by simp) (by simp) (fun _ => .int .i64 (Int.ofNat x)) (by simp; exact keyOf_int_mk Tryz.underlying3 hwf)
      have hseq : SeqGives Fence.wide 2 Tryz.prog 392 #[.pointer (some ⟨Bm, 0, none⟩)] encZ (fun ss => ss.Perm (intKeys (.map l))) (Maps.size (.map l)) w :=
        AnyZI.keys_gives (ρ := Tryz.keysI_ren) { Tryz.keysI with } Fence.wide _ trivial rfl (by omega) Bm b _ _ w k1 k3 hown
      have hsz : Maps.size (DataW.map l) = 1 := by have := hl.length_eq; simpa [Maps.size_eq] using this
      have hc := AnyZI.collect_in Tryz.collI Fence.wide 4 trivial trivial rfl (by omega) 392 #[.pointer (some ⟨Bm, 0, none⟩)] trivial (enters_of Tryz.func392 (by kernel_rfl) rfl) _ _ (by rw [hsz]; simp [maxLen]) (by rw [hsz]; omega) _ hseq
      rw [Tryz.call108]
      refine (callsIn_wide.1 hc).mono ?_
      rintro e w' ⟨v2, ss, rfl, hS, hrow, _, hbe⟩
      refine ⟨v2, rfl, ?_⟩
      have hss : ss = [Int.ofNat x] := by
        have h9 : (intKeys (.map l)).Perm [Int.ofNat x] := by
          have := hl.map Go.intOf
          simpa [intKeys, List.map_map, Go.intOf] using this
        exact List.perm_singleton.1 (hS.trans h9)
      subst hss
      obtain ⟨a, n2, h2, r2, q2⟩ := x2
      simp only at f2 f3
      subst f2 f3
      exact post_row hw hbe (r := false) (size := 1) (by kernel_rfl) (by simp) hrow (.cons (.flat rfl) .nil) f1
    · rw [HM.fail_iff] at e2; cases e2
  · rw [HM.fail_iff] at e2; cases e2

noncomputable def strKs : List MapEntry → Option (List (List UInt8))
  | [] => some []
  | ⟨.string s, _, _⟩ :: l => match strKs l with
    | some r => some (s.data.toList :: r)
    | none => none
  | _ => none
/-- <= of strings -/
noncomputable def leU : List UInt8 → List UInt8 → Bool
  | [], _ => true
  | _ :: _, [] => false
  | a :: x, b :: y => match Nat.ble (Nat.succ a.toNat) b.toNat, Nat.beq a.toNat b.toNat with
    | true, _ => true
    | false, true => leU x y
    | false, false => false
theorem leU_eq : ∀ x y : List UInt8, leU x y = decide (x ≤ y)
  | [], y => by simp [leU]
  | a :: x, [] => by simp [leU]
  | a :: x, b :: y => by
    have ih := leU_eq x y
    have h2 : Nat.beq a.toNat b.toNat = decide (a = b) := by rw [beq_dec, decide_eq_decide]; exact UInt8.toNat_inj
    have h1 : Nat.ble (Nat.succ a.toNat) b.toNat = decide (a < b) := by
      cases e : Nat.ble (Nat.succ a.toNat) b.toNat with
      | true => rw [Nat.ble_eq] at e; symm; rw [decide_eq_true_eq, UInt8.lt_iff_toNat_lt]; exact e
      | false =>
        symm
        rw [decide_eq_false_iff_not, UInt8.lt_iff_toNat_lt]
        intro h
        have : Nat.ble (Nat.succ a.toNat) b.toNat = true := Nat.ble_eq.mpr h
        rw [e] at this; cases this
    unfold leU
    rw [h1, h2, ih]
    by_cases c1 : a < b
    · simp [c1, List.cons_le_cons_iff]
    · by_cases c2 : a = b
      · subst c2; simp [List.cons_le_cons_iff]
      · simp [c1, c2, List.cons_le_cons_iff]
noncomputable def insB (x : List UInt8) : List (List UInt8) → List (List UInt8)
  | [] => [x]
  | y :: l => match leU x y with
    | true => x :: y :: l
    | false => y :: insB x l
noncomputable def sortU : List (List UInt8) → List (List UInt8)
  | [] => []
  | x :: l => insB x (sortU l)
theorem insB_perm (x : List UInt8) : ∀ l, (insB x l).Perm (x :: l)
  | [] => List.Perm.refl _
  | y :: l => by
    unfold insB
    split
    · exact List.Perm.refl _
    · exact ((insB_perm x l).cons y).trans (List.Perm.swap x y l)
theorem sortU_perm : ∀ l, (sortU l).Perm l
  | [] => List.Perm.refl _
  | x :: l => (insB_perm x _).trans ((sortU_perm l).cons x)
theorem insB_sorted (x : List UInt8) : ∀ l, l.Pairwise (fun a b => leB a b = true) → (insB x l).Pairwise (fun a b => leB a b = true)
  | [], _ => List.pairwise_singleton _ _
  | y :: l, h => by
    have hp := List.pairwise_cons.1 h
    unfold insB
    split
    · rename_i hle
      rw [leU_eq, decide_eq_true_eq] at hle
      refine List.pairwise_cons.2 ⟨fun z hz => ?_, h⟩
      rcases List.mem_cons.1 hz with rfl | hz
      · exact decide_eq_true hle
      · exact decide_eq_true (List.le_trans hle (of_decide_eq_true (hp.1 z hz)))
    · rename_i hle
      rw [leU_eq, decide_eq_false_iff_not] at hle
      have hyx : y ≤ x := (List.le_total x y).resolve_left hle
      refine List.pairwise_cons.2 ⟨fun z hz => ?_, insB_sorted x l hp.2⟩
      rcases List.mem_cons.1 ((insB_perm x l).mem_iff.1 hz) with rfl | hz
      · exact decide_eq_true hyx
      · exact hp.1 z hz
theorem sortU_sorted : ∀ l, (sortU l).Pairwise (fun a b => leB a b = true)
  | [] => List.Pairwise.nil
  | x :: l => insB_sorted x _ (sortU_sorted l)
theorem sortU_eq {l l' : List (List UInt8)} (h : l.Perm l') : l.mergeSort leB = sortU l' := by
  have tr : ∀ a b c : List UInt8, leB a b = true → leB b c = true → leB a c = true := fun a b c h1 h2 => by simp only [leB, decide_eq_true_eq] at *; exact List.le_trans h1 h2
  have to : ∀ a b : List UInt8, (leB a b || leB b a) = true := fun a b => by simp only [leB, Bool.or_eq_true, decide_eq_true_eq]; exact List.le_total a b
  refine List.Perm.eq_of_pairwise (le := fun a b => leB a b = true) (fun a b _ _ h1 h2 => ?_) (List.pairwise_mergeSort tr to l) (sortU_sorted l') (((List.mergeSort_perm l leB).trans h).trans (sortU_perm l').symm)
  simp only [leB, decide_eq_true_eq] at h1 h2
  exact List.le_antisymm h1 h2

/-- births below the clock, none twice; keys none twice -/
noncomputable def bornB (clock : Nat) : List MapEntry → Bool
  | [] => true
  | e :: l => match Nat.ble (Nat.succ e.born) clock, l.all (fun x => !Nat.beq x.born e.born) with
    | true, true => bornB clock l
    | _, _ => false
noncomputable def eqU : List UInt8 → List UInt8 → Bool
  | [], [] => true
  | a :: x, b :: y => match Nat.beq a.toNat b.toNat with
    | true => eqU x y
    | false => false
  | _, _ => false
theorem eqU_self : ∀ x, eqU x x = true
  | [] => rfl
  | a :: x => by unfold eqU; rw [beq_dec]; simp [eqU_self x]
noncomputable def diffB : List (List UInt8) → Bool
  | [] => true
  | x :: l => match l.all (fun y => !eqU x y) with
    | true => diffB l
    | false => false
theorem bornB_spec {clock : Nat} : ∀ {l : List MapEntry}, bornB clock l = true → (∀ c ∈ l.map (·.born), c < clock) ∧ (l.map (·.born)).Nodup
  | [], _ => ⟨by simp, by simp⟩
  | e :: l, h => by
    unfold bornB at h
    split at h
    · rename_i h1 h2
      obtain ⟨k1, k2⟩ := bornB_spec h
      rw [Nat.ble_eq] at h1
      refine ⟨fun c hc => ?_, ?_⟩
      · rw [List.map_cons, List.mem_cons] at hc
        rcases hc with rfl | hc
        · exact h1
        · exact k1 c hc
      · rw [List.map_cons, List.nodup_cons]
        refine ⟨fun hm => ?_, k2⟩
        obtain ⟨x, hx, hxe⟩ := List.mem_map.1 hm
        have := List.all_eq_true.1 h2 x hx
        rw [hxe, beq_dec] at this
        simp at this
    · cases h
theorem diffB_spec : ∀ {l : List (List UInt8)}, diffB l = true → l.Pairwise (· ≠ ·)
  | [], _ => List.Pairwise.nil
  | x :: l, h => by
    unfold diffB at h
    split at h
    · rename_i h1
      refine List.pairwise_cons.2 ⟨fun y hy hxy => ?_, diffB_spec h⟩
      have := List.all_eq_true.1 h1 y hy
      rw [← hxy, eqU_self] at this
      cases this
    · cases h
noncomputable def smallB (l : List (List UInt8)) : Bool := l.all fun x => Nat.ble x.length 1000
theorem strKs_spec : ∀ {l : List MapEntry} {ks : List (List UInt8)}, strKs l = some ks → l.map (·.key) = ks.map encStr
  | [], ks, h => by simp [strKs] at h; subst h; rfl
  | ⟨k, v, b⟩ :: l, ks, h => by
    unfold strKs at h
    split at h
    · rename_i he; cases he
    · rename_i s v2 b2 l2 he
      cases he
      split at h
      · rename_i r hr
        cases h
        have := strKs_spec hr
        simp only [List.map_cons, this]
      · cases h
    · cases h

theorem keyOf_str {P : Program} {k : TypeId} (hk : P.underlying k = some .string) (a : List UInt8) (h : a.length ≤ 1000) : keyOf P k (encStr a) = some (.string a) := by
  have : a.length ≤ maxLen := by simp [maxLen]; omega
  simp [keyOf, hk, mapKey, encStr, ByteArray.size, this]
noncomputable def sortedK (G t : Nat) (args : List Value) : HM Value := do
  let (es, clock) ← keysOf G args
  match strKs es with
  | some [] => HM.fail
  | some (k :: ks) => match Nat.ble es.length 1000, bornB clock es, diffB (k :: ks), smallB (k :: ks) with
    | true, true, true, true => do
      let b ← fresh (.cells ((sortU (k :: ks)).map encStr) t true)
      pure (.slice (some ⟨b, 0, none⟩) (k :: ks).length (k :: ks).length)
    | _, _, _, _ => HM.fail
  | none => HM.fail
set_option maxRecDepth 100000 in
theorem sortedK_ok (w0 : World) : OneOk Tryz.prog w0 102 (sortedK 159 9) := by
  intro args n h x e ρ w args' hw hg
  unfold sortedK at e
  rw [HM.bind_iff] at e
  obtain ⟨⟨⟨es, clock⟩, n1, h1, r1, q1⟩, e1, x2, e2, rfl⟩ := e
  obtain ⟨Bm, b, es', rfl, k1, k2, k3, k4, k5, k6⟩ := keysOf_spec hw hg e1
  simp only at e2 k4 k5 k6
  subst k6
  split at e2
  · rw [HM.fail_iff] at e2; cases e2
  · rename_i k ks hks
    split at e2
    · rename_i c1 c2 c3 c4
      rw [Nat.ble_eq] at c1
      obtain ⟨f1, f2, f3⟩ := fresh_then (f := fun b => .slice (some ⟨b, 0, none⟩) (k :: ks).length (k :: ks).length) e2
      have hkey := strKs_spec hks
      obtain ⟨d1, d2⟩ := bornB_spec c2
      have hsm : ∀ l ∈ k :: ks, l.length ≤ 1000 := fun l hl => by have := List.all_eq_true.1 c4 l hl; rwa [Nat.ble_eq] at this
      have hinj : ∀ a b : List UInt8, encStr a = encStr b → a = b := fun a b hab => by simpa [encStr] using hab
      obtain ⟨D0, hown, l, rfl, hl⟩ := owns_map (k := 9) k4 k5 c1 d1 d2 (by rw [hkey, List.pairwise_map]; exact (diffB_spec c3).imp fun h1 h2 => h1 (hinj _ _ h2)) (fun v => match v with
        | .string s => .string s.data.toList
        | _ => .bool false) (fun v hv => by
          rw [hkey] at hv
          obtain ⟨a, ha, rfl⟩ := List.mem_map.1 hv
          have := hsm a ha
          exact keyOf_str Tryz.underlying9 a this)
      have hkeys : (strKeys (.map l)).Perm (k :: ks) := by
        have := hl.map strOf
        rw [hkey] at this
        simpa [strKeys, List.map_map, strOf, encStr, Function.comp_def] using this
      have hseq : SeqGives Fence.wide 2 Tryz.prog 159 #[.pointer (some ⟨Bm, 0, none⟩)] encStr (fun ss => ss.Perm (strKeys (.map l))) (Maps.size (.map l)) w :=
        AnyZ.keys_gives (ρ := Tryz.keysS_ren) { Tryz.keysS with } Fence.wide _ trivial rfl (by omega) Bm b _ _ w k1 k3 hown
      have hsz : Maps.size (DataW.map l) = es.length := by have := hl.length_eq; simpa [Maps.size_eq] using this
      have hc := AnyZ.sorted_in Tryz.sortedS Fence.wide 5 trivial trivial trivial trivial rfl (by omega) (Tryz.sortsS _) (enters_of Tryz.func158 (by kernel_rfl) rfl) 159 #[.pointer (some ⟨Bm, 0, none⟩)] trivial (enters_of Tryz.func159 (by kernel_rfl) rfl) _ _ (by rw [hsz]; simp [maxLen]; omega) (by rw [hsz]; omega) _ hseq
      rw [Tryz.call102]
      refine (callsIn_wide.1 hc).mono ?_
      rintro e w' ⟨v2, ss, rfl, hS, hrow, _, hbe⟩
      refine ⟨v2, rfl, ?_⟩
      have hso : ss.mergeSort (fun x y => decide (x ≤ y)) = sortU (k :: ks) := sortU_eq (hS.trans hkeys)
      have hlen : ss.length = (k :: ks).length := (hS.trans hkeys).length_eq
      rw [hso, hlen] at hrow
      obtain ⟨a, n2, h2, r2, q2⟩ := x2
      simp only at f2 f3
      subst f2 f3
      exact post_row hw hbe (r := false) (size := 1) (by kernel_rfl) (by simp) hrow (GL.same fun u hu => by
        obtain ⟨a, _, rfl⟩ := List.mem_map.1 hu
        exact .flat rfl) f1
    · rw [HM.fail_iff] at e2; cases e2
  · rw [HM.fail_iff] at e2; cases e2
end Cl
end Go.Proofs.YtcihbmifogfdpaaGreatDoor

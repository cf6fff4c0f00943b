/-
  Several texts in one: O1, O2, O3, O4, O5, O6, O7.
-/
import Derived.Test.YtcodjodhacjfeaaGreatDoorKB
import Derived.Test.YtcodjodhacjfeaaGreatDoorProg
import Derived.Laws.AppendOwn
import Derived.Shelf.SlIter.Sorted
import Derived.Shelf.SlIterI.Collect
import Derived.Shelf.SortM.Plain
import Derived.Shelf.SortM.SortNone
import Derived.Ground.GgzProg
import Derived.Ground.SlgmProg
import Derived.Test.YtcodjodhacjfeaaGreatDoorMapS
/-! What the seat's functions give that the machine does not carry out itself: abi.NoEscape. -/
section
namespace Go.Proofs.YtcodjodhacjfeaaGreatDoor
open Go.RowKit
namespace Cl
/-- abi.NoEscape: its value is its argument -/
theorem noEscape_call (v : Value) (w : World) : (callFunc 178 #[v]).run Tryz.prog w = .ok (.value v) w := by
  have h1 : (Tryz.f178.name == "runtime.NumGoroutine") = false := by kernel_rfl
  have h2 : Tryz.f178.body.isNone = true := by kernel_rfl
  have h3 : Extern.findNext Tryz.f178 = none := by kernel_rfl
  have h4 : Extern.find Tryz.f178 = some Extern.AbiNoEscape.same := by kernel_rfl
  unfold callFunc
  have h1' : ¬ Tryz.f178.name = "runtime.NumGoroutine" := by simpa using h1
  simp only [Sem.run_bind, run_program, Result.andThen_ok, Tryz.func178, h1, Bool.false_eq_true, if_false, h2, if_true, run_mark, h3, h4, Sem.run_pure]
  rfl
end Cl
end Go.Proofs.YtcodjodhacjfeaaGreatDoor
end

/-! A slice that a call of the library hands back, as the machine's own row. -/
section
namespace Go.Proofs.YtcodjodhacjfeaaGreatDoor
open Go.RowKit
namespace Cl
section
variable {P : Program} {w0 : Bs} {w w' : World} {ρ : Pm} {h : H} {n : Nat}
/-- what lay there lies there: nothing that is spoken of has turned -/
theorem W.later (hw : W P w0 ρ h w) (hb : Below w.heap.size w w') : W P w0 ρ h w' := by
  refine hw.world ⟨hb.mono hw.below.1.size, fun b ob _ e => (hb.block _ (Array.getElem?_eq_some_iff.1 e).1).trans e⟩ fun i o p e hl e1 => ?_
  obtain ⟨q, e2, e3⟩ := hw.obj i o e
  rw [e1] at e2
  cases e2
  exact hb.block _ (e3.old hl).2
/-- a slice of a row of its own gets a number -/
theorem post_row (hw : W P w0 ρ h w) (hb : Below w.heap.size w w') {e : TypeId} {size m : Nat} {r : Bool} {v : Value} {xs xs0 : List Value} (hk : tk P e = some (r, size)) (hm : m ≠ 0) (ho : w'.ownsRow w.heap.size e size v m xs) (hg : GL ρ xs0 xs) (hn : hget h n = none) {k q s : Nat} :
    Post P w0 ρ ⟨.slice (some ⟨n, 0, none⟩) m m, k, hset h n (.cells xs0 e true), q, s⟩ v w' := by
  obtain ⟨h1, ⟨_, h0⟩ | ⟨g, cap, cur, rfl, h2, h3, h4, h5, h6, h7⟩⟩ := ho
  · exact absurd h0 hm
  · have hw' := hw.later hb
    have hle := hw'.le_up hn ⟨g, 0, cap - m⟩
    have hlen : cur.size = xs0.length + (cap - m) * size := by
      rw [hg.1, h1, h6, ← Nat.add_mul, Nat.add_sub_cancel' h4]
    refine ⟨upP ρ n ⟨g, 0, cap - m⟩, hle, hw'.name hn (fun _ i oi p hi hl hp => ?_) ⟨hw.newer h2, fun hv => (by cases hv), cur, h3, ?_, fun j u hu => ?_⟩, ?_⟩
    · obtain ⟨p', e1, e2⟩ := hw.obj i oi hi
      rw [hp] at e1
      cases e1
      have := (e2.old hl).2
      simp only
      omega
    · simpa [szOf, hk] using hlen
    · obtain ⟨u', f1, f2⟩ := hg.get hu
      refine ⟨u', ?_, f2.mono hle⟩
      rw [← h7, List.getElem?_take] at f1
      split at f1
      · simpa using f1
      · cases f1
    · have := G.slc (ρ := upP ρ n ⟨g, 0, cap - m⟩) (b := n) (off := 0) (n := m) (c := m) (upP_same _ _ _)
      simp only [Nat.add_zero, Nat.add_sub_cancel' h4] at this
      exact this
end
end Cl
end Go.Proofs.YtcodjodhacjfeaaGreatDoor
end

/-! The shelf's contracts for the keys of maps, laid over the seat's program. -/
section
namespace Go.Proofs
open Go.RowKit Go.Maps Go.Sort Go.Shelf
shelf_lay_g SlLaysZI.n7 Ggz 7 at Tryz 264 as Tryz.keysI
shelf_lay_g SlLaysZI.n8 Ggz 8 at Tryz 44 as Tryz.collI
shelf_lay_g SlLaysZ.n7 Ggz 7 at Tryz 43 as Tryz.keysS
shelf_lay_g SlLaysZ.n6 Ggz 6 at Tryz 42 as Tryz.sortedS
shelf_lay_g SlLaysM.n6 Slgm 6 at Tryz 73 as Tryz.sortS
/-- slices.Sort's two contracts -/
theorem Tryz.sortsS (m : Nat) : AnyZ.SortsIn Tryz.prog Tryz.sortedS_ren Fence.wide m :=
  ⟨fun blk off cap ss W hH hblk hsz => callsIn_wide.2 (AnyM.slices_Sort_string Tryz.sortS blk off cap ss W hH hblk hsz),
   fun p cap W => callsIn_wide.2 (AnyM.slices_Sort_string_none Tryz.sortS p cap W)⟩
end Go.Proofs
end

/-! slices.Collect and slices.Sorted over the keys of a map, as the machine's own. -/
section
namespace Go.Proofs.YtcodjodhacjfeaaGreatDoor
open Go.RowKit Go.Maps Go.Sort Go.Shelf
namespace Cl

/-- the map whose keys an iterator of maps.Keys gives -/
noncomputable def keysOf (G : Nat) (args : List Value) : HM (List MapEntry × Nat) := match args with
  | [.func (.func f) fi cp] => match Nat.beq f G, fi.toList, cp.toList with
    | true, [], [.pointer (some ⟨b, 0, none⟩)] => do
      let (c, _, v) ← getC b
      match c, v with
      | [.map (some m)], false => getM m
      | _, _ => HM.fail
    | _, _, _ => HM.fail
  | _ => HM.fail

section
variable {P : Program} {w0 : Bs} {w w' : World} {ρ : Pm} {h : H} {n : Nat}
theorem keysOf_spec (hw : W P w0 ρ h w) {G : Nat} {args args' : List Value} (hg : GL ρ args args') {x : Res (List MapEntry × Nat)} (e : (keysOf G args).run n h = some x) :
    ∃ (Bm b : Nat) (es' : Array MapEntry), args' = [.func (.func G) #[] #[.pointer (some ⟨Bm, 0, none⟩)]] ∧ Bm < w.heap.size ∧ b < w.heap.size ∧ w.cell? ⟨Bm, 0, none⟩ = some (.map (some b)) ∧ w.heap[b]? = some (.map es' x.a.2) ∧ GE ρ x.a.1 es'.toList ∧ x.h = h := by
  unfold keysOf at e
  split at e
  · rename_i f fi cp
    obtain ⟨v', l', rfl, g1, g2⟩ := hg.uncons
    obtain rfl := g2.nil_eq
    split at e
    · rename_i b hf hfi hcp
      obtain rfl := Nat.eq_of_beq_eq_true hf
      obtain ⟨k, fi', cp', h1, rfl, h3, h4⟩ := g1.func_inv
      cases h1
      rw [hfi] at h3
      rw [hcp] at h4
      have hfi' : fi' = #[] := by apply Array.ext'; simpa using h3.nil_eq
      obtain ⟨u', l2, hl2, g3, g4⟩ := h4.uncons
      obtain rfl := g4.nil_eq
      obtain ⟨p, p1, rfl⟩ := g3.ptr_inv
      rw [HM.bind_iff] at e
      obtain ⟨⟨⟨c, et, v⟩, n1, h1, r1, q1⟩, e1, x2, e2, rfl⟩ := e
      obtain ⟨e3, e4⟩ := getC_inv e1
      simp only at e2 e3 e4
      subst e3
      split at e2
      · rename_i m
        obtain ⟨e5, e6⟩ := getM_inv e2
        obtain ⟨_, c0, C, c1, c2, c3⟩ := hw.row e4 p1
        obtain ⟨s0, b0⟩ := c0 rfl
        obtain ⟨u', f1, f2⟩ := c3 0 _ rfl
        obtain ⟨pm, pm1, rfl⟩ := f2.map_inv
        obtain ⟨_, es', m1, m2⟩ := hw.mapRow e6 pm1
        have hcp' : cp' = #[.pointer (some ⟨p.blk, 0, none⟩)] := by apply Array.ext'; rw [hl2, b0]
        refine ⟨p.blk, pm.blk, es', by rw [hfi', hcp'], (Array.getElem?_eq_some_iff.1 c1).1, (Array.getElem?_eq_some_iff.1 m1).1, ?_, m1, m2, e5⟩
        rw [b0] at f1
        simpa [World.cell?, c1] using f1
      · rw [HM.fail_iff] at e2; cases e2
    · rw [HM.fail_iff] at e; cases e
  · rw [HM.fail_iff] at e; cases e

theorem GE.map_key {es es' : List MapEntry} (h : GE ρ es es') : es'.map (·.key) = es.map (·.key) := by
  apply List.ext_getElem?
  intro i
  rw [List.getElem?_map, List.getElem?_map]
  cases e : es[i]? with
  | none => rw [List.getElem?_eq_none_iff] at e; rw [List.getElem?_eq_none (by rw [← h.1]; exact e)]
  | some a =>
    have hlt : i < es'.length := h.1 ▸ (List.getElem?_eq_some_iff.1 e).1
    rw [List.getElem?_eq_getElem hlt]
    simp only [Option.map_some, Option.some.injEq]
    exact (h.2 i a _ e (List.getElem?_eq_getElem hlt)).1
theorem GE.map_born {es es' : List MapEntry} (h : GE ρ es es') : es'.map (·.born) = es.map (·.born) := by
  apply List.ext_getElem?
  intro i
  rw [List.getElem?_map, List.getElem?_map]
  cases e : es[i]? with
  | none => rw [List.getElem?_eq_none_iff] at e; rw [List.getElem?_eq_none (by rw [← h.1]; exact e)]
  | some a =>
    have hlt : i < es'.length := h.1 ▸ (List.getElem?_eq_some_iff.1 e).1
    rw [List.getElem?_eq_getElem hlt]
    simp only [Option.map_some, Option.some.injEq]
    exact (h.2 i a _ e (List.getElem?_eq_getElem hlt)).2.2.1
theorem insert_perm {H : Type} (x : Lit × DataW H) : ∀ l : List (Lit × DataW H), (DataW.insert x l).Perm (x :: l)
  | [] => List.Perm.refl _
  | y :: l => by
    unfold DataW.insert
    split
    · exact List.Perm.refl _
    · exact ((insert_perm x l).cons y).trans (List.Perm.swap x y l)
theorem foldr_insert_perm {H : Type} : ∀ l : List (Lit × DataW H), (l.foldr DataW.insert []).Perm l
  | [] => List.Perm.refl _
  | x :: l => (insert_perm x _).trans ((foldr_insert_perm l).cons x)

/-- values are not read -/
def R1 : Value → Option (DataW Unit × List MemPlace) := fun _ => some (.lit (.bool true), [])
/-- a map whose keys are these is one that the library's contracts know -/
theorem owns_map {k : TypeId} {es : List MapEntry} {es' : Array MapEntry} {b clock : Nat} (hb : w.heap[b]? = some (.map es' clock)) (hg : GE ρ es es'.toList) (h1 : es.length ≤ 1000) (h2 : ∀ c ∈ es.map (·.born), c < clock) (h3 : (es.map (·.born)).Nodup) (h4 : (es.map (·.key)).Pairwise (· ≠ ·)) (f : Value → Lit) (h5 : ∀ v ∈ es.map (·.key), keyOf P k v = some (f v)) :
    ∃ D0 : DataW Unit, w.ownsMap P k R1 b es.length D0 ∧ ∃ l : List (Lit × DataW Unit), D0 = .map l ∧ (l.map (·.1)).Perm ((es.map (·.key)).map f) := by
  have hrd : ∀ x ∈ es'.toList, WideElems.rd P k R1 x = some (f x.key, .lit (.bool true)) := fun x hx => by
    have : x.key ∈ es.map (·.key) := by rw [← hg.map_key]; exact List.mem_map_of_mem hx
    simp [WideElems.rd, h5 _ this, R1]
  refine ⟨_, ⟨es', clock, hb, ⟨?_, ?_, fun x hx => ⟨_, hrd x hx⟩⟩, ?_, rfl⟩, _, rfl, ?_⟩
  · have := hg.1; simp at this; simp [maxLen]; omega
  · rw [MapKept.stamped_iff]
    refine ⟨fun x hx => h2 _ (by rw [← hg.map_born]; exact List.mem_map_of_mem hx), by rw [hg.map_born]; exact h3, ?_⟩
    have : (es'.toList.map (·.key)).Pairwise (· ≠ ·) := by rw [hg.map_key]; exact h4
    rwa [List.pairwise_map] at this
  · have := hg.1; simp at this; omega
  · refine ((foldr_insert_perm _).map _).trans ?_
    rw [← hg.map_key, List.map_map, List.map_map]
    have : List.map ((fun x => x.1) ∘ WideElems.rg P k R1) es'.toList = List.map (f ∘ fun x => x.key) es'.toList := List.map_congr_left fun x hx => by simp [WideElems.rg, hrd x hx]
    rw [this]
end
end Cl
end Go.Proofs.YtcodjodhacjfeaaGreatDoor
end

/-! slices.Collect of the one key of a map, slices.Sorted of the keys of a map: given to the machine. -/
section
namespace Go.Proofs.YtcodjodhacjfeaaGreatDoor
open Go.RowKit Go.Maps Go.Sort Go.Shelf
namespace Cl

/-- one function that is given -/
def OneOk (P : Program) (w0 : Bs) (f : FuncId) (m : List Value → HM Value) : Prop := ∀ args n h x, (m args).run n h = some x → ∀ ρ w args', W P w0 ρ h w → GL ρ args args' → effUpon P (Post P w0 ρ x) ((callFunc f args'.toArray).run P w)

noncomputable def collect1 (G t : Nat) (args : List Value) : HM Value := do
  let (es, clock) ← keysOf G args
  match es with
  | [⟨.int .i64 (.ofNat x), _, born⟩] => match Nat.ble (Nat.succ born) clock, Nat.ble x 4611686018427387904 with
    | true, true => do
      let b ← fresh (.cells [.int .i64 (.ofNat x)] t true)
      pure (.slice (some ⟨b, 0, none⟩) 1 1)
    | _, _ => HM.fail
  | _ => HM.fail

set_option maxRecDepth 100000 in
theorem collect1_ok (w0 : Bs) : OneOk Tryz.prog w0 44 (collect1 286 3) := by
  intro args n h x e ρ w args' hw hg
  unfold collect1 at e
  rw [HM.bind_iff] at e
  obtain ⟨⟨⟨es, clock⟩, n1, h1, r1, q1⟩, e1, x2, e2, rfl⟩ := e
  obtain ⟨Bm, b, es', rfl, k1, k2, k3, k4, k5, k6⟩ := keysOf_spec hw hg e1
  simp only at e2 k4 k5 k6
  subst k6
  split at e2
  · rename_i x v born
    split at e2
    · rename_i hb hx
      rw [Nat.ble_eq] at hb hx
      obtain ⟨f1, f2, f3⟩ := fresh_then (f := fun b => .slice (some ⟨b, 0, none⟩) 1 1) e2
      have hwf : (Lit.int .i64 (Int.ofNat x)).wf = true := by simp [Lit.wf, IntKind.min, IntKind.max, IntKind.signed, IntKind.bits]; omega
      obtain ⟨D0, hown, l, rfl, hl⟩ := owns_map (k := 3) k4 k5 (by simp) (by simp; omega) (by simp) (by simp) (fun _ => .int .i64 (Int.ofNat x)) (by simp; exact keyOf_int_mk Tryz.underlying3 hwf)
      have hseq : SeqGives Fence.wide 2 Tryz.prog 286 #[.pointer (some ⟨Bm, 0, none⟩)] encZ (fun ss => ss.Perm (intKeys (.map l))) (Maps.size (.map l)) w :=
        AnyZI.keys_gives (ρ := Tryz.keysI_ren) { Tryz.keysI with } Fence.wide _ trivial rfl (by omega) Bm b _ _ w k1 k3 hown
      have hsz : Maps.size (DataW.map l) = 1 := by have := hl.length_eq; simpa [Maps.size_eq] using this
      have hc := AnyZI.collect_in Tryz.collI Fence.wide 4 trivial trivial rfl (by omega) 286 #[.pointer (some ⟨Bm, 0, none⟩)] trivial (enters_of Tryz.func286 (by kernel_rfl) rfl) _ _ (by rw [hsz]; simp [maxLen]) (by rw [hsz]; omega) _ hseq
      rw [Tryz.call44]
      refine (callsIn_wide.1 hc).mono ?_
      rintro e w' ⟨v2, ss, rfl, hS, hrow, _, hbe⟩
      refine ⟨v2, rfl, ?_⟩
      have hss : ss = [Int.ofNat x] := by
        have h9 : (intKeys (.map l)).Perm [Int.ofNat x] := by
          have := hl.map Go.intOf
          simpa [intKeys, List.map_map, Go.intOf] using this
        exact List.perm_singleton.1 (hS.trans h9)
      subst hss
      obtain ⟨a, n2, h2, r2, q2⟩ := x2
      simp only at f2 f3
      subst f2 f3
      exact post_row hw hbe (r := false) (size := 1) (by kernel_rfl) (by simp) hrow (.cons (.flat rfl) .nil) f1
    · rw [HM.fail_iff] at e2; cases e2
  · rw [HM.fail_iff] at e2; cases e2

noncomputable def strKs : List MapEntry → Option (List (List UInt8))
  | [] => some []
  | ⟨.string s, _, _⟩ :: l => match strKs l with
    | some r => some (s.data.toList :: r)
    | none => none
  | _ => none
/-- <= of strings -/
noncomputable def leU : List UInt8 → List UInt8 → Bool
  | [], _ => true
  | _ :: _, [] => false
  | a :: x, b :: y => match Nat.ble (Nat.succ a.toNat) b.toNat, Nat.beq a.toNat b.toNat with
    | true, _ => true
    | false, true => leU x y
    | false, false => false
theorem leU_eq : ∀ x y : List UInt8, leU x y = decide (x ≤ y)
  | [], y => by simp [leU]
  | a :: x, [] => by simp [leU]
  | a :: x, b :: y => by
    have ih := leU_eq x y
    have h2 : Nat.beq a.toNat b.toNat = decide (a = b) := by rw [beq_dec, decide_eq_decide]; exact UInt8.toNat_inj
    have h1 : Nat.ble (Nat.succ a.toNat) b.toNat = decide (a < b) := by
      cases e : Nat.ble (Nat.succ a.toNat) b.toNat with
      | true => rw [Nat.ble_eq] at e; symm; rw [decide_eq_true_eq, UInt8.lt_iff_toNat_lt]; exact e
      | false =>
        symm
        rw [decide_eq_false_iff_not, UInt8.lt_iff_toNat_lt]
        intro h
        have : Nat.ble (Nat.succ a.toNat) b.toNat = true := Nat.ble_eq.mpr h
        rw [e] at this; cases this
    unfold leU
    rw [h1, h2, ih]
    by_cases c1 : a < b
    · simp [c1, List.cons_le_cons_iff]
    · by_cases c2 : a = b
      · subst c2; simp [List.cons_le_cons_iff]
      · simp [c1, c2, List.cons_le_cons_iff]
noncomputable def insB (x : List UInt8) : List (List UInt8) → List (List UInt8)
  | [] => [x]
  | y :: l => match leU x y with
    | true => x :: y :: l
    | false => y :: insB x l
noncomputable def sortU : List (List UInt8) → List (List UInt8)
  | [] => []
  | x :: l => insB x (sortU l)
theorem insB_perm (x : List UInt8) : ∀ l, (insB x l).Perm (x :: l)
  | [] => List.Perm.refl _
  | y :: l => by
    unfold insB
    split
    · exact List.Perm.refl _
    · exact ((insB_perm x l).cons y).trans (List.Perm.swap x y l)
theorem sortU_perm : ∀ l, (sortU l).Perm l
  | [] => List.Perm.refl _
  | x :: l => (insB_perm x _).trans ((sortU_perm l).cons x)
theorem insB_sorted (x : List UInt8) : ∀ l, l.Pairwise (fun a b => leB a b = true) → (insB x l).Pairwise (fun a b => leB a b = true)
  | [], _ => List.pairwise_singleton _ _
  | y :: l, h => by
    have hp := List.pairwise_cons.1 h
    unfold insB
    split
    · rename_i hle
      rw [leU_eq, decide_eq_true_eq] at hle
      refine List.pairwise_cons.2 ⟨fun z hz => ?_, h⟩
      rcases List.mem_cons.1 hz with rfl | hz
      · exact decide_eq_true hle
      · exact decide_eq_true (List.le_trans hle (of_decide_eq_true (hp.1 z hz)))
    · rename_i hle
      rw [leU_eq, decide_eq_false_iff_not] at hle
      have hyx : y ≤ x := (List.le_total x y).resolve_left hle
      refine List.pairwise_cons.2 ⟨fun z hz => ?_, insB_sorted x l hp.2⟩
      rcases List.mem_cons.1 ((insB_perm x l).mem_iff.1 hz) with rfl | hz
      · exact decide_eq_true hyx
      · exact hp.1 z hz
theorem sortU_sorted : ∀ l, (sortU l).Pairwise (fun a b => leB a b = true)
  | [] => List.Pairwise.nil
  | x :: l => insB_sorted x _ (sortU_sorted l)
theorem sortU_eq {l l' : List (List UInt8)} (h : l.Perm l') : l.mergeSort leB = sortU l' := by
  have tr : ∀ a b c : List UInt8, leB a b = true → leB b c = true → leB a c = true := fun a b c h1 h2 => by simp only [leB, decide_eq_true_eq] at *; exact List.le_trans h1 h2
  have to : ∀ a b : List UInt8, (leB a b || leB b a) = true := fun a b => by simp only [leB, Bool.or_eq_true, decide_eq_true_eq]; exact List.le_total a b
  refine List.Perm.eq_of_pairwise (le := fun a b => leB a b = true) (fun a b _ _ h1 h2 => ?_) (List.pairwise_mergeSort tr to l) (sortU_sorted l') (((List.mergeSort_perm l leB).trans h).trans (sortU_perm l').symm)
  simp only [leB, decide_eq_true_eq] at h1 h2
  exact List.le_antisymm h1 h2

/-- births below the clock, none twice; keys none twice -/
noncomputable def bornB (clock : Nat) : List MapEntry → Bool
  | [] => true
  | e :: l => match Nat.ble (Nat.succ e.born) clock, l.all (fun x => !Nat.beq x.born e.born) with
    | true, true => bornB clock l
    | _, _ => false
noncomputable def eqU : List UInt8 → List UInt8 → Bool
  | [], [] => true
  | a :: x, b :: y => match Nat.beq a.toNat b.toNat with
    | true => eqU x y
    | false => false
  | _, _ => false
theorem eqU_self : ∀ x, eqU x x = true
  | [] => rfl
  | a :: x => by unfold eqU; rw [beq_dec]; simp [eqU_self x]
noncomputable def diffB : List (List UInt8) → Bool
  | [] => true
  | x :: l => match l.all (fun y => !eqU x y) with
    | true => diffB l
    | false => false
theorem bornB_spec {clock : Nat} : ∀ {l : List MapEntry}, bornB clock l = true → (∀ c ∈ l.map (·.born), c < clock) ∧ (l.map (·.born)).Nodup
  | [], _ => ⟨by simp, by simp⟩
  | e :: l, h => by
    unfold bornB at h
    split at h
    · rename_i h1 h2
      obtain ⟨k1, k2⟩ := bornB_spec h
      rw [Nat.ble_eq] at h1
      refine ⟨fun c hc => ?_, ?_⟩
      · rw [List.map_cons, List.mem_cons] at hc
        rcases hc with rfl | hc
        · exact h1
        · exact k1 c hc
      · rw [List.map_cons, List.nodup_cons]
        refine ⟨fun hm => ?_, k2⟩
        obtain ⟨x, hx, hxe⟩ := List.mem_map.1 hm
        have := List.all_eq_true.1 h2 x hx
        rw [hxe, beq_dec] at this
        simp at this
    · cases h
theorem diffB_spec : ∀ {l : List (List UInt8)}, diffB l = true → l.Pairwise (· ≠ ·)
  | [], _ => List.Pairwise.nil
  | x :: l, h => by
    unfold diffB at h
    split at h
    · rename_i h1
      refine List.pairwise_cons.2 ⟨fun y hy hxy => ?_, diffB_spec h⟩
      have := List.all_eq_true.1 h1 y hy
      rw [← hxy, eqU_self] at this
      cases this
    · cases h
noncomputable def smallB (l : List (List UInt8)) : Bool := l.all fun x => Nat.ble x.length 1000
theorem strKs_spec : ∀ {l : List MapEntry} {ks : List (List UInt8)}, strKs l = some ks → l.map (·.key) = ks.map encStr
  | [], ks, h => by simp [strKs] at h; subst h; rfl
  | ⟨k, v, b⟩ :: l, ks, h => by
    unfold strKs at h
    split at h
    · rename_i he; cases he
    · rename_i s v2 b2 l2 he
      cases he
      split at h
      · rename_i r hr
        cases h
        have := strKs_spec hr
        simp only [List.map_cons, this]
      · cases h
    · cases h

theorem keyOf_str {P : Program} {k : TypeId} (hk : P.underlying k = some .string) (a : List UInt8) (h : a.length ≤ 1000) : keyOf P k (encStr a) = some (.string a) := by
  have : a.length ≤ maxLen := by simp [maxLen]; omega
  simp [keyOf, hk, mapKey, encStr, ByteArray.size, this]
noncomputable def sortedK (G t : Nat) (args : List Value) : HM Value := do
  let (es, clock) ← keysOf G args
  match strKs es with
  | some [] => HM.fail
  | some (k :: ks) => match Nat.ble es.length 1000, bornB clock es, diffB (k :: ks), smallB (k :: ks) with
    | true, true, true, true => do
      let b ← fresh (.cells ((sortU (k :: ks)).map encStr) t true)
      pure (.slice (some ⟨b, 0, none⟩) (k :: ks).length (k :: ks).length)
    | _, _, _, _ => HM.fail
  | none => HM.fail
set_option maxRecDepth 100000 in
theorem sortedK_ok (w0 : Bs) : OneOk Tryz.prog w0 42 (sortedK 74 9) := by
  intro args n h x e ρ w args' hw hg
  unfold sortedK at e
  rw [HM.bind_iff] at e
  obtain ⟨⟨⟨es, clock⟩, n1, h1, r1, q1⟩, e1, x2, e2, rfl⟩ := e
  obtain ⟨Bm, b, es', rfl, k1, k2, k3, k4, k5, k6⟩ := keysOf_spec hw hg e1
  simp only at e2 k4 k5 k6
  subst k6
  split at e2
  · rw [HM.fail_iff] at e2; cases e2
  · rename_i k ks hks
    split at e2
    · rename_i c1 c2 c3 c4
      rw [Nat.ble_eq] at c1
      obtain ⟨f1, f2, f3⟩ := fresh_then (f := fun b => .slice (some ⟨b, 0, none⟩) (k :: ks).length (k :: ks).length) e2
      have hkey := strKs_spec hks
      obtain ⟨d1, d2⟩ := bornB_spec c2
      have hsm : ∀ l ∈ k :: ks, l.length ≤ 1000 := fun l hl => by have := List.all_eq_true.1 c4 l hl; rwa [Nat.ble_eq] at this
      have hinj : ∀ a b : List UInt8, encStr a = encStr b → a = b := fun a b hab => by simpa [encStr] using hab
      obtain ⟨D0, hown, l, rfl, hl⟩ := owns_map (k := 9) k4 k5 c1 d1 d2 (by rw [hkey, List.pairwise_map]; exact (diffB_spec c3).imp fun h1 h2 => h1 (hinj _ _ h2)) (fun v => match v with
        | .string s => .string s.data.toList
        | _ => .bool false) (fun v hv => by
          rw [hkey] at hv
          obtain ⟨a, ha, rfl⟩ := List.mem_map.1 hv
          have := hsm a ha
          exact keyOf_str Tryz.underlying9 a this)
      have hkeys : (strKeys (.map l)).Perm (k :: ks) := by
        have := hl.map strOf
        rw [hkey] at this
        simpa [strKeys, List.map_map, strOf, encStr, Function.comp_def] using this
      have hseq : SeqGives Fence.wide 2 Tryz.prog 74 #[.pointer (some ⟨Bm, 0, none⟩)] encStr (fun ss => ss.Perm (strKeys (.map l))) (Maps.size (.map l)) w :=
        AnyZ.keys_gives (ρ := Tryz.keysS_ren) { Tryz.keysS with } Fence.wide _ trivial rfl (by omega) Bm b _ _ w k1 k3 hown
      have hsz : Maps.size (DataW.map l) = es.length := by have := hl.length_eq; simpa [Maps.size_eq] using this
      have hc := AnyZ.sorted_in Tryz.sortedS Fence.wide 5 trivial trivial trivial trivial rfl (by omega) (Tryz.sortsS _) (enters_of Tryz.func73 (by kernel_rfl) rfl) 74 #[.pointer (some ⟨Bm, 0, none⟩)] trivial (enters_of Tryz.func74 (by kernel_rfl) rfl) _ _ (by rw [hsz]; simp [maxLen]; omega) (by rw [hsz]; omega) _ hseq
      rw [Tryz.call42]
      refine (callsIn_wide.1 hc).mono ?_
      rintro e w' ⟨v2, ss, rfl, hS, hrow, _, hbe⟩
      refine ⟨v2, rfl, ?_⟩
      have hso : ss.mergeSort (fun x y => decide (x ≤ y)) = sortU (k :: ks) := sortU_eq (hS.trans hkeys)
      have hlen : ss.length = (k :: ks).length := (hS.trans hkeys).length_eq
      rw [hso, hlen] at hrow
      obtain ⟨a, n2, h2, r2, q2⟩ := x2
      simp only at f2 f3
      subst f2 f3
      exact post_row hw hbe (r := false) (size := 1) (by kernel_rfl) (by simp) hrow (GL.same fun u hu => by
        obtain ⟨a, _, rfl⟩ := List.mem_map.1 hu
        exact .flat rfl) f1
    · rw [HM.fail_iff] at e2; cases e2
  · rw [HM.fail_iff] at e2; cases e2
end Cl
end Go.Proofs.YtcodjodhacjfeaaGreatDoor
end

/-! cache.Bytes of a cache that lies there: the lists in whatever order. -/
section
namespace Go.Proofs.YtcodjodhacjfeaaGreatDoor
open Go.RowKit Go.Maps Go.ChangeMaps

def sumI (l : List Int) : Int := l.foldr (· + ·) 0
theorem sumI_cons (x : Int) (l : List Int) : sumI (x :: l) = x + sumI l := rfl
theorem sumI_append : ∀ l m : List Int, sumI (l ++ m) = sumI l + sumI m
  | [], m => by simp [sumI]
  | x :: l, m => by rw [List.cons_append, sumI_cons, sumI_cons, sumI_append l m]; omega
theorem sumI_perm {l m : List Int} (h : l.Perm m) : sumI l = sumI m := by
  induction h with
  | nil => rfl
  | cons x _ ih => rw [sumI_cons, sumI_cons, ih]
  | swap x y l => simp only [sumI_cons]; omega
  | trans _ _ h1 h2 => exact h1.trans h2

section
variable {P : Program} {w : World} {bm clock : Nat} {l : List Ent}
/-- the step of a range over a map that nobody changes -/
theorem St.nextRo {w0 : World} {L : List HP} {r since c0 : Nat} {seen : Array Nat} (ty : TypeId) (h : St w0 (HP.at r (.mapIter (some bm) since seen c0) :: L) w) (hbm : w.heap[bm]? = some (.map (entsA l) clock)) (hlt : bm < w0.heap.size) (ho : MapOk l clock) (hold : ∀ x ∈ l, x.t < since) (hsc : since ≤ c0) :
    (leftE l seen = [] ∧ (Instr.next (.pointer (some ⟨r, 0, none⟩)) false ty).run P w = .ok (.tuple #[.bool false]) w) ∨
    ∃ x ∈ leftE l seen, ∃ w' : World, (Instr.next (.pointer (some ⟨r, 0, none⟩)) false ty).run P w = .ok (.tuple #[.bool true, .int .i64 (x.k : Int), .pointer (some ⟨x.b, 0, none⟩)]) w' ∧
      (Instr.entry (.pointer (some ⟨r, 0, none⟩))).run P w' = .ok (.tuple #[.int .i64 (x.k : Int), .pointer (some ⟨x.b, 0, none⟩)]) w' ∧
      St w0 (HP.at r (.mapIter (some bm) since (seen.push x.t) clock) :: L) w' ∧ w'.heap[bm]? = some (.map (entsA l) clock) := by
  have hne : r ≠ bm := by have := h.block.1; omega
  rcases next_of (P := P) ty h.block.2 hbm hold hsc with h1 | ⟨x, hx, w1, hw, h2⟩
  · exact .inl h1
  · have h' : St w0 (HP.at r (.mapIter (some bm) since seen c0) :: L) w1 ∧ w1.heap[bm]? = some (.map (entsA l) clock) := by
      rcases hw with rfl | rfl
      · exact ⟨h, hbm⟩
      · exact ⟨h.drew, hbm⟩
    have h3 := h'.1.putObj (.mapIter (some bm) since (seen.push x.t) clock)
    have hb3 : (setBlock w1 r (.mapIter (some bm) since (seen.push x.t) clock)).heap[bm]? = some (.map (entsA l) clock) := by
      rw [← h'.2]
      simp [setBlock, hne]
    refine .inr ⟨x, hx, _, h2, ?_, h3, hb3⟩
    have hm : x ∈ l := (List.mem_filter.1 hx).1
    refine run_entry_at _ r bm since seen (entsA l) clock x.raw h3.block.2 hb3 (by rw [entsA_toList]; exact List.mem_map_of_mem hm) ?_
    rw [entsA_toList, List.map_map]
    exact ho.stamps
end
theorem wpList_nextRo {P : Program} {w w0 : World} {ops : Array Oper} {rest : List Oper} {o : Oper} {a : Act} {Q : Exit → Act → World → Prop} {bm clock : Nat} {l : List Ent} {L : List HP} {r since c0 : Nat} {seen : Array Nat}
    (hg : o.guard = none) (it : Operand) (hop : o.op = Op.next it false) (hit : a.eval it = .pointer (some ⟨r, 0, none⟩))
    (h : St w0 (HP.at r (.mapIter (some bm) since seen c0) :: L) w) (hbm : w.heap[bm]? = some (.map (entsA l) clock)) (hlt : bm < w0.heap.size) (ho : MapOk l clock) (hold : ∀ x ∈ l, x.t < since) (hsc : since ≤ c0)
    (hDone : leftE l seen = [] → wpList P ops Q rest (a.put o.dst (.tuple #[.bool false])) w)
    (hMore : ∀ (x : Ent) (w' : World), x ∈ leftE l seen → St w0 (HP.at r (.mapIter (some bm) since (seen.push x.t) clock) :: L) w' →
      (Instr.entry (.pointer (some ⟨r, 0, none⟩))).run P w' = .ok (.tuple #[.int .i64 (x.k : Int), .pointer (some ⟨x.b, 0, none⟩)]) w' →
      wpList P ops Q rest (a.put o.dst (.tuple #[.bool true, .int .i64 (x.k : Int), .pointer (some ⟨x.b, 0, none⟩)])) w') :
    wpList P ops Q (o :: rest) a w := by
  refine wpList_plain hg fun K' hK' => ?_
  unfold Oper.wp
  rcases h.nextRo (P := P) o.type hbm hlt ho hold hsc with ⟨h0, hrun⟩ | ⟨x, hx, w', hrun, hen, hs, _⟩
  · simp [execOp, hop, hit, hrun, Result.andThen]
    exact hK' _ _ (hDone h0)
  · simp [execOp, hop, hit, hrun, Result.andThen]
    exact hK' _ _ (hMore x w' hx hs hen)

@[go_sem] theorem neqMapC (m : Option Nat) (w : World) : (binOp .neq 181 (.map m) (.map none)).run Tryz.prog w = .ok (.bool (!m.isNone)) w := run_neq_map_nil w 181 3 184 m Tryz.underlying181
set_option maxRecDepth 10000 in
theorem cmade_ro (w : World) (c bm : Nat) (c2 : w.cell? ⟨c, 2, none⟩ = some (.map (some bm))) :
    Calls Tryz.prog 97 #[.pointer (some ⟨c, 0, none⟩)] w fun e w' => e = .returned (.bool true) ∧ w = w' := by
  go_enter Tryz.func97, Tryz.ntmps97
  go_wp2
  go_ret
  exact ⟨rfl, rfl⟩

/-- a cache as it lies there -/
structure BytesAt (w : World) (c bm clock tb toff n tcap : Nat) (l : List Ent) (f : Nat → Int) (g : Nat → Nat) : Prop where
  c0 : w.cell? ⟨c, 0, none⟩ = some (.slice (some ⟨tb, toff, none⟩) n tcap)
  c2 : w.cell? ⟨c, 2, none⟩ = some (.map (some bm))
  map : w.heap[bm]? = some (.map (entsA l) clock)
  ok : MapOk l clock
  few : l.length ≤ 40
  each : ∀ x ∈ l, x.k < n ∧ w.cell? ⟨tb, toff + x.k * 3, none⟩ = some (.int .i64 (f x.b)) ∧ (∃ a cap, w.cell? ⟨x.b, 0, none⟩ = some (.slice a (g x.b) cap)) ∧ 0 ≤ f x.b ∧ f x.b ≤ 1048576 ∧ g x.b ≤ 1048576 ∧ 0 ≤ f x.b * (g x.b : Int) ∧ f x.b * (g x.b : Int) ≤ 1099511627776

def termI (f : Nat → Int) (g : Nat → Nat) (x : Ent) : Int := f x.b * (g x.b : Int)
theorem sum_term (f : Nat → Int) (g : Nat → Nat) : ∀ l : List Ent, (∀ x ∈ l, 0 ≤ termI f g x ∧ termI f g x ≤ 1099511627776) → 0 ≤ sumI (l.map (termI f g)) ∧ sumI (l.map (termI f g)) ≤ 1099511627776 * (l.length : Int)
  | [], _ => by simp [sumI]
  | x :: l, h => by
    have h1 := sum_term f g l fun y hy => h y (List.mem_cons_of_mem _ hy)
    have h2 := h x (List.mem_cons_self ..)
    rw [List.map_cons, sumI_cons, List.length_cons]
    omega

set_option maxRecDepth 10000 in
set_option maxHeartbeats 4000000 in
theorem bytes_ro (w : World) (c bm clock tb toff n tcap : Nat) (l : List Ent) (f : Nat → Int) (g : Nat → Nat) (hA : BytesAt w c bm clock tb toff n tcap l f g) :
    Calls Tryz.prog 206 #[.pointer (some ⟨c, 0, none⟩)] w fun e w' => e = .returned (.int .i64 (sumI (l.map (termI f g)))) ∧ Below w.heap.size w w' := by
  have h := St.start w
  have c0 := hA.c0
  have c2 := hA.c2
  have hbm := hA.map
  have hrg := run_range_map (P := Tryz.prog) w 181 3 184 bm (entsA l) clock Tryz.underlying181 hbm
  have h1 := h.alloc (.mapIter (some bm) clock #[] clock)
  have HA := Lib.hid hA
  have FR := Lib.hid (show ∀ x ∈ l, 0 ≤ termI f g x ∧ termI f g x ≤ 1099511627776 from fun x hx => (hA.each x hx).2.2.2.2.2.2)
  have hlt : bm < w.heap.size := (Array.getElem?_eq_some_iff.1 hbm).1
  clear hA h hbm
  go_enter Tryz.func206, Tryz.ntmps206
  go_wp2_with (first | (go_at_call 97; refine (cmade_ro _ _ _ c2).mono ?_; rintro e w' ⟨rfl, rfl⟩))
  go_loopg [3] l.length (fun n sm wr => ∃ (ps : List Ent) (seen : Array Nat) (cc : Nat) (m : Int), sm = .int .i64 m ∧ Hid (m = sumI (ps.map (termI f g))) ∧ Hid ((leftE l seen).length ≤ n) ∧ Hid ((ps ++ leftE l seen).Perm l) ∧ Hid (clock ≤ cc) ∧
    Hid (St w [HP.at w.heap.size (.mapIter (some bm) clock seen cc)] wr))
  case atStart =>
    exact ⟨[], #[], clock, 0, rfl, Lib.hid rfl, Lib.hid (by rw [leftE_start]; exact Nat.le_refl _), Lib.hid (by rw [leftE_start]; exact List.Perm.refl _), Lib.hid (Nat.le_refl _), Lib.hid h1⟩
  case round =>
    clear h1 hrg c0 c2
    obtain ⟨ps, seen, cc, m, rfl, HM, HL, HP1, HC, HS⟩ := hrel
    have hs1 := HS.out
    have hbm1 := (hs1.below.block _ hlt).trans HA.out.map
    have HX := Lib.hid hbm1
    clear hbm1
    go_wp2_with (first
      | (at_next; refine wpList_nextRo rfl _ rfl rfl hs1 HX.out hlt HA.out.ok HA.out.ok.past HC.out ?_ ?_))
    · intro hd
      rw [hd, List.append_nil] at HP1
      have hm : m = sumI (l.map (termI f g)) := by
        rw [HM.out]
        exact sumI_perm (HP1.out.map (termI f g))
      have HM2 := Lib.hid hm
      have h9 := Lib.hid hs1.below
      clear hs1 HL HC HS HP1 hd hm HM HX
      go_wp2_with fail
      go_ret
      exact ⟨by rw [← HM2.out]; rfl, h9.out⟩
    · intro x w2 hx hs2 hen
      have hxl : x ∈ l := (List.mem_filter.1 hx).1
      obtain ⟨hxN, t0, ⟨a, cap, y0⟩, fr1, fr2, gr, pr1, pr2⟩ := HA.out.each x hxl
      have d0 := HA.out.c0
      have lt_of : ∀ {b i : Nat} {v : Value}, w.cell? ⟨b, i, none⟩ = some v → b < w.heap.size := fun h => World.block_lt_of_cell? _ _ h
      have B2 := hs2.below
      rw [← B2.cell (p := ⟨_, _, none⟩) (lt_of t0)] at t0
      rw [← B2.cell (p := ⟨_, _, none⟩) (lt_of y0)] at y0
      rw [← B2.cell (p := ⟨_, _, none⟩) (lt_of d0)] at d0
      have hpush := leftE_push HA.out.ok hx
      have HL2 := Lib.hid (show (leftE l (seen.push x.t)).length ≤ gk - 1 by
        have h1 := hpush.length_eq
        rw [List.length_cons] at h1
        have h2 := HL.out
        omega)
      have HG0 := Lib.hid (show 0 < gk by
        have h1 := hpush.length_eq
        rw [List.length_cons] at h1
        have h2 := HL.out
        omega)
      have HP2 : Hid ((ps ++ [x] ++ leftE l (seen.push x.t)).Perm l) := Lib.hid (by
        refine List.Perm.trans ?_ HP1.out
        rw [List.append_assoc]
        exact (List.Perm.append_left ps hpush.symm))
      have hpl : ps.length ≤ 40 := by
        have h3 := HP1.out.length_eq
        rw [List.length_append] at h3
        have h4 := HA.out.few
        omega
      have i0' : (0 : Int) ≤ (x.k : Int) := by omega
      have i1' : (x.k : Int) < (n : Int) := by omega
      have hmr : 0 ≤ m ∧ m ≤ 1099511627776 * 40 := by
        have := sum_term f g ps fun y hy => FR.out y (HP1.out.mem_iff.1 (List.mem_append_left _ hy))
        rw [← HM.out] at this
        omega
      have q0 : IntKind.i64.wrap (f x.b * (g x.b : Int)) = f x.b * (g x.b : Int) := IntWalk.i64_in _ (by omega)
      obtain ⟨p, hp⟩ : ∃ p, f x.b * (g x.b : Int) = p := ⟨_, rfl⟩
      rw [hp] at q0 pr1 pr2
      have q1 : IntKind.i64.wrap (m + p) = m + p := IntWalk.i64_in _ (by omega)
      have S2 := Lib.hid hs2.drew
      have HPP := Lib.hid hp
      rw [← hp] at q0
      have HQ : Hid (sumI ((ps ++ [x]).map (termI f g)) = m + p) := Lib.hid (by rw [List.map_append, sumI_append, ← HM.out]; simp [sumI, termI, hp])
      rw [hp] at q0
      have q0' : IntKind.i64.wrap (f x.b * (g x.b : Int)) = p := by rw [hp]; exact q0
      clear hs1 hs2 HL HP1 HC HS hpush hxl hx lt_of B2 HX HM hp q0
      go_wp2_with fail
      refine wp_region_tail_drew 16 (by kernel_rfl) (by kernel_rfl) ?_
      simp only [List.take_succ_cons, List.take_zero, List.drop_succ_cons, List.drop_zero]
      repeat still_step
      refine wpStill_nil ?_
      go_wp2_with fail
      go_roundg (gk - 1)
      case measure => have := HG0.out; omega
      case rel =>
        exact ⟨ps ++ [x], seen.push x.t, clock, m + p, rfl, Lib.hid HQ.out.symm, HL2, HP2, Lib.hid (Nat.le_refl _), S2⟩
end Go.Proofs.YtcodjodhacjfeaaGreatDoor
end

/-! cache.Bytes given to the machine. -/
section
namespace Go.Proofs.YtcodjodhacjfeaaGreatDoor
open Go.RowKit Go.Maps Go.ChangeMaps
namespace Cl

noncomputable def kN (e : MapEntry) : Nat := match e.key with
  | .int .i64 (.ofNat k) => k
  | _ => 0
noncomputable def bN (e : MapEntry) : Nat := match e.val with
  | .pointer (some ⟨b, 0, none⟩) => b
  | _ => 0
noncomputable def okE (e : MapEntry) : Bool := match e.key, e.val with
  | .int .i64 (.ofNat k), .pointer (some ⟨_, 0, none⟩) => Nat.ble k 1000000
  | _, _ => false
noncomputable def diffN : List Nat → Bool
  | [] => true
  | x :: l => match l.all (fun y => !Nat.beq x y) with
    | true => diffN l
    | false => false
theorem diffN_spec : ∀ {l : List Nat}, diffN l = true → l.Nodup
  | [], _ => List.nodup_nil
  | x :: l, h => by
    unfold diffN at h
    split at h
    · rename_i h1
      refine List.nodup_cons.2 ⟨fun hm => ?_, diffN_spec h⟩
      have := List.all_eq_true.1 h1 x hm
      rw [beq_dec] at this
      simp at this
    · cases h
/-- the length of the list that a pointer leads to; a class's size -/
noncomputable def gOf (c : List Value) : Option Nat := match c with
  | .slice _ g _ :: _ => some g
  | _ => none
noncomputable def sOf (tc : List Value) (toff k : Nat) : Option Nat := match tc[toff + k * 3]? with
  | some (.int .i64 (.ofNat s)) => some s
  | _ => none
noncomputable def bytesE (tc : List Value) (toff n : Nat) : List MapEntry → HM Nat
  | [] => pure 0
  | e :: l => do
    let (c, _, v) ← getC (bN e)
    match gOf c, v, sOf tc toff (kN e) with
    | some g, false, some s => match Nat.ble s 1048576, Nat.ble g 1048576, Nat.ble (Nat.succ (kN e)) n with
      | true, true, true => do
        let r ← bytesE tc toff n l
        pure (s * g + r)
      | _, _, _ => HM.fail
    | _, _, _ => HM.fail
noncomputable def bytesOv (args : List Value) : HM Value := match args with
  | [.pointer (some ⟨c, 0, none⟩)] => do
    let (cc, _, v) ← getC c
    match cc, v with
    | .slice (some ⟨tb, toff, _⟩) n _ :: _ :: .map (some m) :: _, false => do
      let (tc, _, _) ← getC tb
      let (es, clock) ← getM m
      match Nat.ble es.length 40, bornB clock es, es.all okE, diffN (es.map kN), diffN (es.map bN) with
      | true, true, true, true, true => do
        let s ← bytesE tc toff n es
        pure (.int .i64 (.ofNat s))
      | _, _, _, _, _ => HM.fail
    | _, _ => HM.fail
  | _ => HM.fail

section
variable {P : Program} {w0 : Bs} {w w' : World} {ρ : Pm} {h : H} {n : Nat}
def blkOf (ρ : Pm) (b : Nat) : Nat := match ρ b with
  | some p => p.blk
  | none => 0
/-- what is known of an entry -/
structure EAt (h : H) (ρ : Pm) (w : World) (tc : List Value) (toff n : Nat) (e : MapEntry) (s g : Nat) : Prop where
  k : kN e < n
  sz : tc[toff + kN e * 3]? = some (.int .i64 (s : Int))
  s1 : s ≤ 1048576
  g1 : g ≤ 1048576
  o : ∃ c t v p, hget h (bN e) = some (.cells c t v) ∧ ρ (bN e) = some p ∧ p.base = 0 ∧ ∃ a cap, w.cell? ⟨p.blk, 0, none⟩ = some (.slice a g cap)
theorem bytesE_spec (hw : W P w0 ρ h w) {tc : List Value} {toff : Nat} : ∀ (es : List MapEntry) {m : Nat} {x : Res Nat}, (bytesE tc toff n es).run m h = some x →
    x.h = h ∧ ∃ f : List (MapEntry × Nat × Nat), f.map (·.1) = es ∧ x.a = (f.map fun y => y.2.1 * y.2.2).sum ∧ ∀ y ∈ f, EAt h ρ w tc toff n y.1 y.2.1 y.2.2
  | [], m, x, e => by
    have := HM.pure_iff.1 e
    subst this
    exact ⟨rfl, [], rfl, rfl, by simp⟩
  | en :: es, m, x, e => by
    unfold bytesE at e
    rw [HM.bind_iff] at e
    obtain ⟨⟨⟨c, t, v⟩, n1, h1, r1, q1⟩, e1, x2, e2, rfl⟩ := e
    obtain ⟨e3, e4⟩ := getC_inv e1
    simp only at e2 e3 e4
    obtain rfl := e3.symm
    split at e2
    · rename_i g s hg hs
      split at e2
      · rename_i c1 c2 c3
        rw [Nat.ble_eq] at c1 c2 c3
        rw [HM.bind_iff] at e2
        obtain ⟨y, e5, y2, e6, rfl⟩ := e2
        have := HM.pure_iff.1 e6
        subst this
        obtain ⟨k1, f, k2, k3, k4⟩ := bytesE_spec hw es e5
        refine ⟨k1, (en, s, g) :: f, by simp [k2], by simp [k3], fun z hz => ?_⟩
        rcases List.mem_cons.1 hz with rfl | hz
        · obtain ⟨p, p1, p2⟩ := hw.obj _ _ e4
          obtain ⟨_, b0, C, c4, _, c5⟩ := hw.row e4 p1
          obtain ⟨s0, b0⟩ := b0 rfl
          unfold gOf at hg
          split at hg
          · rename_i sa g' cap' rest
            cases hg
            obtain ⟨u', f1, f2⟩ := c5 0 _ rfl
            rw [b0] at f1
            have hsl : ∃ a cap, u' = .slice a g cap := by
              cases f2 with
              | flat h => exact ⟨_, _, rfl⟩
              | slc h => exact ⟨_, _, rfl⟩
              | slx h => exact ⟨_, _, rfl⟩
            obtain ⟨a, cap, rfl⟩ := hsl
            refine ⟨c3, ?_, c1, c2, _, _, _, p, e4, p1, b0, a, cap, by simpa [World.cell?, c4] using f1⟩
            unfold sOf at hs
            split at hs
            · rename_i s' hs'
              cases hs
              exact hs'
            · cases hs
          · cases hg
        · exact k4 z hz
      · rw [HM.fail_iff] at e2; cases e2
    · rw [HM.fail_iff] at e2; cases e2
end
theorem find_of {α : Type} {l : List α} {p : α → Bool} {x : α} (hx : x ∈ l) (hp : p x = true) (hu : ∀ y ∈ l, p y = true → y = x) : l.find? p = some x := by
  cases e : l.find? p with
  | none => have := List.find?_eq_none.1 e x hx; simp [hp] at this
  | some y => rw [hu y (List.mem_of_find?_eq_some e) (List.find?_some e)]
theorem nodup_map_inj {α β : Type} {f : α → β} : ∀ {l : List α}, (l.map f).Nodup → ∀ x ∈ l, ∀ y ∈ l, f x = f y → x = y
  | [], _, x, hx, _, _, _ => by cases hx
  | a :: l, h, x, hx, y, hy, e => by
    rw [List.map_cons, List.nodup_cons] at h
    rcases List.mem_cons.1 hx with rfl | hx' <;> rcases List.mem_cons.1 hy with rfl | hy'
    · rfl
    · exact absurd (List.mem_map.2 ⟨y, hy', e.symm⟩) h.1
    · exact absurd (List.mem_map.2 ⟨x, hx', e⟩) h.1
    · exact nodup_map_inj h.2 x hx' y hy' e
theorem sumI_nat {α : Type} (f : α → Nat) : ∀ l : List α, sumI (l.map fun x => (f x : Int)) = ((l.map f).sum : Nat)
  | [] => rfl
  | x :: l => by rw [List.map_cons, sumI_cons, sumI_nat f l, List.map_cons, List.sum_cons]; omega

set_option maxRecDepth 100000 in
theorem bytes_ok (w0 : Bs) : OneOk Tryz.prog w0 206 bytesOv := by
  intro args n h x e ρ w args' hw hg
  unfold bytesOv at e
  split at e
  · rename_i c
    obtain ⟨v', l', rfl, g1, g2⟩ := hg.uncons
    obtain rfl := g2.nil_eq
    obtain ⟨pc, pc1, rfl⟩ := g1.ptr_inv
    rw [HM.bind_iff] at e
    obtain ⟨⟨⟨cc, t, v⟩, n1, h1, r1, q1⟩, e1, x2, e2, rfl⟩ := e
    obtain ⟨e3, e4⟩ := getC_inv e1
    simp only at e2 e3 e4
    subst e3
    split at e2
    · rename_i tb toff sp nn cap u m rest
      rw [HM.bind_iff] at e2
      obtain ⟨⟨⟨tc, t2, v2⟩, n2, h2, r2, q2⟩, e5, x3, e6, rfl⟩ := e2
      obtain ⟨e7, e8⟩ := getC_inv e5
      simp only at e6 e7 e8
      subst e7
      rw [HM.bind_iff] at e6
      obtain ⟨⟨⟨es, clock⟩, n3, h3, r3, q3⟩, e9, x4, e10, rfl⟩ := e6
      obtain ⟨e11, e12⟩ := getM_inv e9
      simp only at e10 e11 e12
      subst e11
      split at e10
      · rename_i d1 d2 d3 d4 d5
        rw [Nat.ble_eq] at d1
        rw [HM.bind_iff] at e10
        obtain ⟨y, e13, y2, e14, rfl⟩ := e10
        have := HM.pure_iff.1 e14
        subst this
        obtain ⟨k1, f, k2, k3, k4⟩ := bytesE_spec hw es e13
        -- the cache's own cells
        obtain ⟨_, b0, C, c1, _, c2⟩ := hw.row e4 pc1
        obtain ⟨s0, b0⟩ := b0 rfl
        rw [b0] at c2
        simp only [Nat.zero_add] at c2
        obtain ⟨u0, f0, g0⟩ := c2 0 _ rfl
        obtain ⟨u2, f2, g2⟩ := c2 2 _ rfl
        obtain ⟨pt, cap', pt1, rfl, _⟩ := g0.slice_inv
        obtain ⟨pm, pm1, rfl⟩ := g2.map_inv
        obtain ⟨_, es', m1, m2⟩ := hw.mapRow e12 pm1
        obtain ⟨_, _, T, t3, _, t4⟩ := hw.row e8 pt1
        obtain ⟨w1, w2⟩ := bornB_spec d2
        -- the entries as they lie there
        let ent : MapEntry → _root_.Go.Proofs.YtcodjodhacjfeaaGreatDoor.Ent := fun e => ⟨kN e, blkOf ρ (bN e), e.born⟩
        have hent : ∀ z ∈ f, ∀ e', e'.key = z.1.key → e'.born = z.1.born → G ρ z.1.val e'.val → e' = _root_.Go.Proofs.YtcodjodhacjfeaaGreatDoor.Ent.raw (ent z.1) := fun z hz e' h1 h2 h3 => by
          have hok : okE z.1 = true := List.all_eq_true.1 d3 z.1 (by rw [← k2]; exact List.mem_map_of_mem hz)
          have hk4 := (k4 z hz).o
          obtain ⟨⟨key, val, born⟩, s, g⟩ := z
          obtain ⟨key', val', born'⟩ := e'
          simp only at h1 h2 h3
          subst h1 h2
          unfold okE at hok
          simp only at hok
          split at hok
          · rename_i k b
            obtain ⟨_, _, _, p, _, p1, p2, _⟩ := hk4
            obtain ⟨p', p3, rfl⟩ := h3.ptr_inv
            have hb : bN ⟨.int .i64 (.ofNat k), .pointer (some ⟨b, 0, none⟩), born'⟩ = b := rfl
            simp only [hb] at p1
            rw [p1] at p3
            cases p3
            have : blkOf ρ b = p.blk := by simp [blkOf, p1]
            show (⟨.int .i64 (Int.ofNat k), .pointer (some ⟨p.blk, p.base + 0, none⟩), born'⟩ : MapEntry) = ⟨.int .i64 ((k : Nat) : Int), .pointer (some ⟨blkOf ρ b, 0, none⟩), born'⟩
            rw [this, p2]
            rfl
          · cases hok
        have hes : es'.toList = (f.map fun z => _root_.Go.Proofs.YtcodjodhacjfeaaGreatDoor.Ent.raw (ent z.1)) := by
          apply List.ext_getElem?
          intro i
          have hl : es.length = es'.toList.length := m2.1
          have hlf : f.length = es.length := by rw [← k2, List.length_map]
          by_cases hi : i < es.length
          · have hif : i < f.length := by omega
            rw [List.getElem?_eq_getElem (hl ▸ hi), List.getElem?_map, List.getElem?_eq_getElem hif]
            simp only [Option.map_some, Option.some.injEq]
            have he : es[i]? = some (f[i]).1 := by rw [← k2, List.getElem?_map, List.getElem?_eq_getElem hif]; rfl
            obtain ⟨q1, q2, q3, q4⟩ := m2.2 i _ _ he (List.getElem?_eq_getElem (hl ▸ hi))
            exact hent _ (List.getElem_mem hif) _ q1 q3 q4
          · rw [List.getElem?_eq_none (by omega), List.getElem?_eq_none (by rw [List.length_map]; omega)]
        have hents : es' = entsA (f.map fun z => ent z.1) := by
          apply Array.ext'
          rw [entsA_toList, hes, List.map_map]
          rfl
        have hnb : (f.map fun z => blkOf ρ (bN z.1)).Nodup := by
          have hb := diffN_spec d5
          rw [← k2, List.map_map] at hb
          rw [List.nodup_iff_pairwise_ne, List.pairwise_map] at hb ⊢
          refine hb.imp_of_mem fun {a b} ha hbm hne => ?_
          obtain ⟨_, _, _, p, o1, o2, _, _⟩ := (k4 a ha).o
          obtain ⟨_, _, _, q, o3, o4, _, _⟩ := (k4 b hbm).o
          have := hw.inj _ _ _ _ p q hne o1 o3 o2 o4 rfl rfl
          simpa [blkOf, o2, o4] using this
        let F : Nat → Option (MapEntry × Nat × Nat) := fun b => f.find? fun z => blkOf ρ (bN z.1) == b
        have hF : ∀ z ∈ f, F (blkOf ρ (bN z.1)) = some z := fun z hz => find_of hz (by simp) fun y hy he => nodup_map_inj hnb y hy z hz (by simpa using he)
        let fs : Nat → Int := fun b => match F b with | some z => (z.2.1 : Int) | none => 0
        let gs : Nat → Nat := fun b => match F b with | some z => z.2.2 | none => 0
        have hfs : ∀ z ∈ f, fs (blkOf ρ (bN z.1)) = z.2.1 := fun z hz => by show (match F _ with | some z => (z.2.1 : Int) | none => 0) = _; rw [hF z hz]
        have hgs : ∀ z ∈ f, gs (blkOf ρ (bN z.1)) = z.2.2 := fun z hz => by show (match F _ with | some z => z.2.2 | none => 0) = _; rw [hF z hz]
        have hfe : ∀ (q : MapEntry → Nat), (f.map fun z => q z.1) = es.map q := fun q => by rw [← k2, List.map_map]; rfl
        have hA : BytesAt w pc.blk pm.blk clock pt.blk (pt.base + toff) nn cap' (f.map fun z => ent z.1) fs gs := by
          refine ⟨?_, ?_, by rw [← hents]; exact m1, ⟨fun x hx => ?_, ?_, ?_, fun x hx => ?_⟩, ?_, fun x hx => ?_⟩
          · simpa [World.cell?, c1] using f0
          · simpa [World.cell?, c1] using f2
          · obtain ⟨z, hz, rfl⟩ := List.mem_map.1 hx
            have hok : okE z.1 = true := List.all_eq_true.1 d3 z.1 (by rw [← k2]; exact List.mem_map_of_mem hz)
            show kN z.1 ≤ _
            unfold okE at hok
            split at hok
            · rename_i k b hk _
              rw [Nat.ble_eq] at hok
              have : kN z.1 = k := by unfold kN; rw [hk]
              omega
            · cases hok
          · rw [List.map_map]
            have := diffN_spec d4
            rw [← hfe] at this
            exact this
          · rw [List.map_map]
            rw [← hfe (·.born)] at w2
            exact w2
          · obtain ⟨z, hz, rfl⟩ := List.mem_map.1 hx
            exact w1 _ (List.mem_map_of_mem (by rw [← k2]; exact List.mem_map_of_mem hz))
          · rw [List.length_map, show f.length = es.length by rw [← k2, List.length_map]]; exact d1
          · obtain ⟨z, hz, rfl⟩ := List.mem_map.1 hx
            have hz4 := k4 z hz
            obtain ⟨_, _, _, p, _, p1, p2, a, cp, p3⟩ := hz4.o
            have hb : blkOf ρ (bN z.1) = p.blk := by simp [blkOf, p1]
            have h1 := hz4.s1
            have h2 := hz4.g1
            refine ⟨hz4.k, ?_, ⟨a, cp, ?_⟩, ?_⟩
            · show w.cell? ⟨pt.blk, pt.base + toff + kN z.1 * 3, none⟩ = some (.int .i64 (fs (blkOf ρ (bN z.1))))
              rw [hfs z hz]
              obtain ⟨u', q1, q2⟩ := t4 _ _ hz4.sz
              cases q2 with
              | flat _ => rw [Nat.add_assoc]; simpa [World.cell?, t3] using q1
            · show w.cell? ⟨blkOf ρ (bN z.1), 0, none⟩ = some (.slice a (gs (blkOf ρ (bN z.1))) cp)
              rw [hgs z hz, hb]
              exact p3
            · show 0 ≤ fs (blkOf ρ (bN z.1)) ∧ fs (blkOf ρ (bN z.1)) ≤ 1048576 ∧ gs (blkOf ρ (bN z.1)) ≤ 1048576 ∧ 0 ≤ fs (blkOf ρ (bN z.1)) * (gs (blkOf ρ (bN z.1)) : Int) ∧ fs (blkOf ρ (bN z.1)) * (gs (blkOf ρ (bN z.1)) : Int) ≤ 1099511627776
              rw [hfs z hz, hgs z hz]
              have hm : z.2.1 * z.2.2 ≤ 1048576 * 1048576 := Nat.mul_le_mul h1 h2
              have hm' : (z.2.1 : Int) * (z.2.2 : Int) = ((z.2.1 * z.2.2 : Nat) : Int) := by push_cast; rfl
              rw [hm']
              omega
        have hsum : sumI ((f.map fun z => ent z.1).map (termI fs gs)) = ((y.a : Nat) : Int) := by
          rw [k3, List.map_map, ← sumI_nat]
          congr 1
          refine List.map_congr_left fun z hz => ?_
          show fs (blkOf ρ (bN z.1)) * (gs (blkOf ρ (bN z.1)) : Int) = _
          rw [hfs z hz, hgs z hz]
          push_cast
          rfl
        have hc := bytes_ro w pc.blk pm.blk clock pt.blk (pt.base + toff) nn cap' (f.map fun z => ent z.1) fs gs hA
        rw [hsum] at hc
        rw [Tryz.call206]
        have hpb : pc.base + 0 = 0 := by omega
        rw [hpb]
        refine hc.mono ?_
        rintro e w' ⟨rfl, hbe⟩
        exact ⟨_, rfl, ρ, Pm.le_refl _, by simp only [k1]; exact hw.later hbe, .flat rfl⟩
      · rw [HM.fail_iff] at e10; cases e10
    · rw [HM.fail_iff] at e2; cases e2
  · rw [HM.fail_iff] at e; cases e
end Cl
end Go.Proofs.YtcodjodhacjfeaaGreatDoor
end

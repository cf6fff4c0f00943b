/-
  cache.Bytes of a cache that lies there: the lists in whatever order.
-/
import Derived.Test.YtcihbmifogfdpaaGreatDoorO5
import Derived.Test.YtcihbmifogfdpaaGreatDoorMapS
namespace Go.Proofs.YtcihbmifogfdpaaGreatDoor
open Go.RowKit Go.Maps Go.ChangeMaps

def sumI (l : List Int) : Int := l.foldr (· + ·) 0
theorem sumI_cons (x : Int) (l : List Int) : sumI (x :: l) = x + sumI l := rfl
theorem sumI_append : ∀ l m : List Int, sumI (l ++ m) = sumI l + sumI m
  | [], m => by simp [sumI]
  | x :: l, m => by rw [List.cons_append, sumI_cons, sumI_cons, sumI_append l m]; omega
theorem sumI_perm {l m : List Int} (h : l.Perm m) : sumI l = sumI m := by
  induction h with
  | nil => rfl
  | cons x _ ih => rw [sumI_cons, sumI_cons, ih]
  | swap x y l => simp only [sumI_cons]; omega
  | trans _ _ h1 h2 => exact h1.trans h2

section
variable {P : Program} {w : World} {bm clock : Nat} {l : List Ent}
/-- the step of a range over a map that nobody changes -/
theorem St.nextRo {w0 : World} {L : List HP} {r since c0 : Nat} {seen : Array Nat} (ty : TypeId) (h : St w0 (HP.at r (.mapIter (some bm) since seen c0) :: L) w) (hbm : w.heap[bm]? = some (.map (entsA l) clock)) (hlt : bm < w0.heap.size) (ho : MapOk l clock) (hold : ∀ x ∈ l, x.t < since) (hsc : since ≤ c0) :
    (leftE l seen = [] ∧ (Instr.next (.pointer (some ⟨r, 0, none⟩)) false ty).run P w = .ok (.tuple #[.bool false]) w) ∨
    ∃ x ∈ leftE l seen, ∃ w' : World, (Instr.next (.pointer (some ⟨r, 0, none⟩)) false ty).run P w = .ok (.tuple #[.bool true, .int .i64 (x.k : Int), .pointer (some ⟨x.b, 0, none⟩)]) w' ∧
      (Instr.entry (.pointer (some ⟨r, 0, none⟩))).run P w' = .ok (.tuple #[.int .i64 (x.k : Int), .pointer (some ⟨x.b, 0, none⟩)]) w' ∧
      St w0 (HP.at r (.mapIter (some bm) since (seen.push x.t) clock) :: L) w' ∧ w'.heap[bm]? = some (.map (entsA l) clock) := by
  have hne : r ≠ bm := by have := h.block.1; omega
  rcases next_of (P := P) ty h.block.2 hbm hold hsc with h1 | ⟨x, hx, w1, hw, h2⟩
  · exact .inl h1
  · have h' : St w0 (HP.at r (.mapIter (some bm) since seen c0) :: L) w1 ∧ w1.heap[bm]? = some (.map (entsA l) clock) := by
      rcases hw with rfl | rfl
      · exact ⟨h, hbm⟩
      · exact ⟨h.drew, hbm⟩
    have h3 := h'.1.putObj (.mapIter (some bm) since (seen.push x.t) clock)
    have hb3 : (setBlock w1 r (.mapIter (some bm) since (seen.push x.t) clock)).heap[bm]? = some (.map (entsA l) clock) := by
      rw [← h'.2]
      simp [setBlock, hne]
    refine .inr ⟨x, hx, _, h2, ?_, h3, hb3⟩
    have hm : x ∈ l := (List.mem_filter.1 hx).1
    refine run_entry_at _ r bm since seen (entsA l) clock x.raw h3.block.2 hb3 (by rw [entsA_toList]; exact List.mem_map_of_mem hm) ?_
    rw [entsA_toList, List.map_map]
    exact ho.stamps
end
theorem wpList_nextRo {P : Program} {w w0 : World} {ops : Array Oper} {rest : List Oper} {o : Oper} {a : Act} {Q : Exit → Act → World → Prop} {bm clock : Nat} {l : List Ent} {L : List HP} {r since c0 : Nat} {seen : Array Nat}
    (hg : o.guard = none) (it : Operand) (hop : o.op = Op.next it false) (hit : a.eval it = .pointer (some ⟨r, 0, none⟩))
    (h : St w0 (HP.at r (.mapIter (some bm) since seen c0) :: L) w) (hbm : w.heap[bm]? = some (.map (entsA l) clock)) (hlt : bm < w0.heap.size) (ho : MapOk l clock) (hold : ∀ x ∈ l, x.t < since) (hsc : since ≤ c0)
    (hDone : leftE l seen = [] → wpList P ops Q rest (a.put o.dst (.tuple #[.bool false])) w)
    (hMore : ∀ (x : Ent) (w' : World), x ∈ leftE l seen → St w0 (HP.at r (.mapIter (some bm) since (seen.push x.t) clock) :: L) w' →
      (Instr.entry (.pointer (some ⟨r, 0, none⟩))).run P w' = .ok (.tuple #[.int .i64 (x.k : Int), .pointer (some ⟨x.b, 0, none⟩)]) w' →
      wpList P ops Q rest (a.put o.dst (.tuple #[.bool true, .int .i64 (x.k : Int), .pointer (some ⟨x.b, 0, none⟩)])) w') :
    wpList P ops Q (o :: rest) a w := by
  refine wpList_plain hg fun K' hK' => ?_
  unfold Oper.wp
  rcases h.nextRo (P := P) o.type hbm hlt ho hold hsc with ⟨h0, hrun⟩ | ⟨x, hx, w', hrun, hen, hs, _⟩
  · simp [execOp, hop, hit, hrun, Result.andThen]
    exact hK' _ _ (hDone h0)
  · simp [execOp, hop, hit, hrun, Result.andThen]
    exact hK' _ _ (hMore x w' hx hs hen)

@[go_sem] theorem neqMapC (m : Option Nat) (w : World) : (binOp .neq 188 (.map m) (.map none)).run Tryz.prog w = .ok (.bool (!m.isNone)) w := run_neq_map_nil w 188 3 191 m Tryz.underlying188
set_option maxRecDepth 10000 in
theorem cmade_ro (w : World) (c bm : Nat) (c2 : w.cell? ⟨c, 2, none⟩ = some (.map (some bm))) :
    Calls Tryz.prog 123 #[.pointer (some ⟨c, 0, none⟩)] w fun e w' => e = .returned (.bool true) ∧ w = w' := by
  go_enter Tryz.func123, Tryz.ntmps123
  go_wp2
  go_ret
  exact ⟨rfl, rfl⟩

/-- a cache as it lies there -/
structure BytesAt (w : World) (c bm clock tb toff n tcap : Nat) (l : List Ent) (f : Nat → Int) (g : Nat → Nat) : Prop where
  c0 : w.cell? ⟨c, 0, none⟩ = some (.slice (some ⟨tb, toff, none⟩) n tcap)
  c2 : w.cell? ⟨c, 2, none⟩ = some (.map (some bm))
  map : w.heap[bm]? = some (.map (entsA l) clock)
  ok : MapOk l clock
  few : l.length ≤ 40
  each : ∀ x ∈ l, x.k < n ∧ w.cell? ⟨tb, toff + x.k * 3, none⟩ = some (.int .i64 (f x.b)) ∧ (∃ a cap, w.cell? ⟨x.b, 0, none⟩ = some (.slice a (g x.b) cap)) ∧ 0 ≤ f x.b ∧ f x.b ≤ 1048576 ∧ g x.b ≤ 1048576 ∧ 0 ≤ f x.b * (g x.b : Int) ∧ f x.b * (g x.b : Int) ≤ 1099511627776

def termI (f : Nat → Int) (g : Nat → Nat) (x : Ent) : Int := f x.b * (g x.b : Int)
theorem sum_term (f : Nat → Int) (g : Nat → Nat) : ∀ l : List Ent, (∀ x ∈ l, 0 ≤ termI f g x ∧ termI f g x ≤ 1099511627776) → 0 ≤ sumI (l.map (termI f g)) ∧ sumI (l.map (termI f g)) ≤ 1099511627776 * (l.length : Int)
  | [], _ => by simp [sumI]
  | x :: l, h => by
    have h1 := sum_term f g l fun y hy => h y (List.mem_cons_of_mem _ hy)
    have h2 := h x (List.mem_cons_self ..)
    rw [List.map_cons, sumI_cons, List.length_cons]
    omega

set_option maxRecDepth 10000 in
set_option maxHeartbeats 4000000 in
theorem bytes_ro (w : World) (c bm clock tb toff n tcap : Nat) (l : List Ent) (f : Nat → Int) (g : Nat → Nat) (hA : BytesAt w c bm clock tb toff n tcap l f g) :
    Calls Tryz.prog 79 #[.pointer (some ⟨c, 0, none⟩)] w fun e w' => e = .returned (.int .i64 (sumI (l.map (termI f g)))) ∧ Below w.heap.size w w' := by
  have h := St.start w
  have c0 := hA.c0
  have c2 := hA.c2
  have hbm := hA.map
  have hrg := run_range_map (P := Tryz.prog) w 188 3 191 bm (entsA l) clock Tryz.underlying188 hbm
  have h1 := h.alloc (.mapIter (some bm) clock #[] clock)
  have HA := Lib.hid hA
  have FR := Lib.hid (show ∀ x ∈ l, 0 ≤ termI f g x ∧ termI f g x ≤ 1099511627776 from fun x hx => (hA.each x hx).2.2.2.2.2.2)
  have hlt : bm < w.heap.size := (Array.getElem?_eq_some_iff.1 hbm).1
  clear hA h hbm
  go_enter Tryz.func79, Tryz.ntmps79
  go_wp2_with (first | (go_at_call 123; refine (cmade_ro _ _ _ c2).mono ?_; rintro e w' ⟨rfl, rfl⟩))
  go_loopg [3] l.length (fun n sm wr => ∃ (ps : List Ent) (seen : Array Nat) (cc : Nat) (m : Int), sm = .int .i64 m ∧ Hid (m = sumI (ps.map (termI f g))) ∧ Hid ((leftE l seen).length ≤ n) ∧ Hid ((ps ++ leftE l seen).Perm l) ∧ Hid (clock ≤ cc) ∧
    Hid (St w [HP.at w.heap.size (.mapIter (some bm) clock seen cc)] wr))
  case atStart =>
    exact ⟨[], #[], clock, 0, rfl, Lib.hid rfl, Lib.hid (by rw [leftE_start]; exact Nat.le_refl _), Lib.hid (by rw [leftE_start]; exact List.Perm.refl _), Lib.hid (Nat.le_refl _), Lib.hid h1⟩
  case round =>
    clear h1 hrg c0 c2
    obtain ⟨ps, seen, cc, m, rfl, HM, HL, HP1, HC, HS⟩ := hrel
    have hs1 := HS.out
    have hbm1 := (hs1.below.block _ hlt).trans HA.out.map
    have HX := Lib.hid hbm1
    clear hbm1
    go_wp2_with (first
      | (at_next; refine wpList_nextRo rfl _ rfl rfl hs1 HX.out hlt HA.out.ok HA.out.ok.past HC.out ?_ ?_))
    · intro hd
      rw [hd, List.append_nil] at HP1
      have hm : m = sumI (l.map (termI f g)) := by
        rw [HM.out]
        exact sumI_perm (HP1.out.map (termI f g))
      have HM2 := Lib.hid hm
      have h9 := Lib.hid hs1.below
      clear hs1 HL HC HS HP1 hd hm HM HX
      go_wp2_with fail
      go_ret
      exact ⟨by rw [← HM2.out]; rfl, h9.out⟩
    · intro x w2 hx hs2 hen
      have hxl : x ∈ l := (List.mem_filter.1 hx).1
      obtain ⟨hxN, t0, ⟨a, cap, y0⟩, fr1, fr2, gr, pr1, pr2⟩ := HA.out.each x hxl
      have d0 := HA.out.c0
      have lt_of : ∀ {b i : Nat} {v : Value}, w.cell? ⟨b, i, none⟩ = some v → b < w.heap.size := fun h => World.block_lt_of_cell? _ _ h
      have B2 := hs2.below
      rw [← B2.cell (p := ⟨_, _, none⟩) (lt_of t0)] at t0
      rw [← B2.cell (p := ⟨_, _, none⟩) (lt_of y0)] at y0
      rw [← B2.cell (p := ⟨_, _, none⟩) (lt_of d0)] at d0
      have hpush := leftE_push HA.out.ok hx
      have HL2 := Lib.hid (show (leftE l (seen.push x.t)).length ≤ gk - 1 by
        have h1 := hpush.length_eq
        rw [List.length_cons] at h1
        have h2 := HL.out
        omega)
      have HG0 := Lib.hid (show 0 < gk by
        have h1 := hpush.length_eq
        rw [List.length_cons] at h1
        have h2 := HL.out
        omega)
      have HP2 : Hid ((ps ++ [x] ++ leftE l (seen.push x.t)).Perm l) := Lib.hid (by
        refine List.Perm.trans ?_ HP1.out
        rw [List.append_assoc]
        exact (List.Perm.append_left ps hpush.symm))
      have hpl : ps.length ≤ 40 := by
        have h3 := HP1.out.length_eq
        rw [List.length_append] at h3
        have h4 := HA.out.few
        omega
      have i0' : (0 : Int) ≤ (x.k : Int) := by omega
      have i1' : (x.k : Int) < (n : Int) := by omega
      have hmr : 0 ≤ m ∧ m ≤ 1099511627776 * 40 := by
        have := sum_term f g ps fun y hy => FR.out y (HP1.out.mem_iff.1 (List.mem_append_left _ hy))
        rw [← HM.out] at this
        omega
      have q0 : IntKind.i64.wrap (f x.b * (g x.b : Int)) = f x.b * (g x.b : Int) := IntWalk.i64_in _ (by omega)
      obtain ⟨p, hp⟩ : ∃ p, f x.b * (g x.b : Int) = p := ⟨_, rfl⟩
      rw [hp] at q0 pr1 pr2
      have q1 : IntKind.i64.wrap (m + p) = m + p := IntWalk.i64_in _ (by omega)
      have S2 := Lib.hid hs2.drew
      have HPP := Lib.hid hp
      rw [← hp] at q0
      have HQ : Hid (sumI ((ps ++ [x]).map (termI f g)) = m + p) := Lib.hid (by rw [List.map_append, sumI_append, ← HM.out]; simp [sumI, termI, hp])
      rw [hp] at q0
      have q0' : IntKind.i64.wrap (f x.b * (g x.b : Int)) = p := by rw [hp]; exact q0
      clear hs1 hs2 HL HP1 HC HS hpush hxl hx lt_of B2 HX HM hp q0
      go_wp2_with fail
      refine wp_region_tail_drew 16 (by kernel_rfl) (by kernel_rfl) ?_
      simp only [List.take_succ_cons, List.take_zero, List.drop_succ_cons, List.drop_zero]
      repeat still_step
      refine wpStill_nil ?_
      go_wp2_with fail
      go_roundg (gk - 1)
      case measure => have := HG0.out; omega
      case rel =>
        exact ⟨ps ++ [x], seen.push x.t, clock, m + p, rfl, Lib.hid HQ.out.symm, HL2, HP2, Lib.hid (Nat.le_refl _), S2⟩
end Go.Proofs.YtcihbmifogfdpaaGreatDoor

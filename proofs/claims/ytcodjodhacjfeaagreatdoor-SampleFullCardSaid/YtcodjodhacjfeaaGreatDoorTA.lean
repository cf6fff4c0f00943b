/-
  Several texts in one: T1, T2.
-/
import Derived.Shelf.Lay
import Derived.Shelf.SlGeneric
import Derived.Shelf.Strings.Prefix
import Derived.Shelf.Small.Strs
import Derived.Shelf.Strings.Split
import Derived.Shelf.Strconv.AtoiAll
import Derived.Shelf.Strconv.Itoa3
import Derived.Shelf.Strings.BuilderK
import Derived.Shelf.Strings.FuncGrows
import Derived.Ground.NamesProg
import Derived.Ground.GgwProg
import Derived.Test.YtcodjodhacjfeaaGreatDoorProg
import Derived.Test.YtcodjodhacjfeaaGreatDoorArr
import Derived.Test.YtcodjodhacjfeaaGreatDoorStar
import Derived.Test.YtcodjodhacjfeaaGreatDoorOA
import Derived.Laws.Rows
/-! The library's text functions, laid over the seat's program. -/
section
namespace Go.Proofs
open Go.RowKit Go.Shelf Go.Sort Go.Lib Go.Proofs.YtcodjodhacjfeaaGreatDoor
shelf_lay Lays.n102 Nm 102 at Tryz as Tryz.lTrim
shelf_lay Lays.n137 Nm 137 at Tryz as Tryz.lIndexByte
shelf_lay Lays.n146 Nm 146 at Tryz as Tryz.lSplit
shelf_lay LaysC.n172 Nm 172 at Tryz as Tryz.lAtoi
shelf_lay LaysM.n171 Nm 171 at Tryz as Tryz.lItoa
shelf_lay Lays.n169 Nm 169 at Tryz as Tryz.lString
shelf_lay_g LaysGw.n17 Ggw 17 at Tryz 40 as Tryz.lContains
end Go.Proofs
end

/-! Rows of a profile; isSite, numbers. -/
section
namespace Go.Proofs.YtcodjodhacjfeaaGreatDoor
open Go.RowKit Go.Shelf Go.Sort Go.Lib

section
variable {w0 w w' : World} {L : List HP}
/-- what was held is held still, where only what is new has turned -/
theorem St.grow (h : St w0 L w) (hb : Below w.heap.size w w') : St w0 L w' := by
  obtain ⟨h1, m, h2, h3⟩ := h
  refine ⟨h1.trans (hb.mono h1.size), m, h2, fun b o hm => ?_⟩
  have h4 := h3 b o hm
  refine ⟨h4.1, ?_⟩
  rw [hb.block b (Array.getElem?_eq_some_iff.1 h4.2).1]
  exact h4.2
theorem Reads.grow {sz n : Nat} {v : Value} {xs : List Value} (h : Reads w sz v n xs) (hb : Below w.heap.size w w') : Reads w' sz v n xs :=
  h.of_cells fun b o x hx => by rw [hb.cell (p := ⟨b, o, none⟩) (World.block_lt_of_cell? _ _ hx)]; exact hx
end

/-- a byte or rune that no site has -/
def oddR (c : Nat) : Bool := !(decide (97 ≤ c) && decide (c ≤ 122) || decide (48 ≤ c) && decide (c ≤ 57) || decide (c = 46) || decide (c = 95))
def isSiteB (s : ByteArray) : Bool := decide (1 ≤ s.size) && decide (s.size ≤ 16) && !decide (0 ≤ Lib.idxFunc oddR true s)

set_option maxRecDepth 10000 in
theorem odd_any (W : World) (x : Nat) (hx : x ≤ 1114111) :
    Calls Tryz.prog 39 #[.int .i32 x] W fun e w' => e = .returned (.bool (oddR x)) ∧ w' = W := by
  go_enter Tryz.func39, Tryz.ntmps39
  go_wp2
  all_goals
    go_ret
    refine ⟨?_, rfl⟩
    refine congrArg (fun b => Ending.returned (.bool b)) ?_
    rw [Bool.eq_iff_iff]
    simp [oddR]
    omega

set_option maxRecDepth 10000 in
theorem isSite_any (w : World) (s : ByteArray) (hs : s.size ≤ 9223372036854775807) :
    Calls Tryz.prog 22 #[.string s] w fun e w' => e = .returned (.bool (isSiteB s)) ∧ Below w.heap.size w w' := by
  have hc := Any.strings_ContainsFunc_grows Tryz.lContains 39 #[] (enters_of Tryz.func39 (by kernel_rfl) rfl) oddR s w
    (fun W x hx _ => (odd_any W x hx).mono fun e w' ⟨h1, h2⟩ => ⟨h1, h2 ▸ Below.refl _ _⟩)
  obtain ⟨B, hB⟩ : ∃ B, decide (0 ≤ Lib.idxFunc oddR true s) = B := ⟨_, rfl⟩
  rw [hB] at hc
  have he : isSiteB s = (decide (1 ≤ s.size) && decide (s.size ≤ 16) && !B) := by rw [← hB]; rfl
  rw [he]
  clear he hB
  by_cases h1 : 1 ≤ s.size
  · by_cases h2 : s.size ≤ 16
    · have i1 : (1 : Int) ≤ (s.size : Int) := by omega
      have i2 : (s.size : Int) ≤ 16 := by omega
      simp only [h1, h2, decide_true, Bool.true_and]
      clear h1 h2
      go_enter Tryz.func22, Tryz.ntmps22
      go_wp2_with (first | (go_at_call 40; refine hc.mono ?_; rintro e w' ⟨rfl, hb⟩))
      go_ret
      exact ⟨rfl, hb⟩
    · have i1 : (1 : Int) ≤ (s.size : Int) := by omega
      have i2 : ¬ (s.size : Int) ≤ 16 := by omega
      simp only [h1, h2, decide_true, decide_false, Bool.true_and, Bool.false_and]
      clear h1 h2
      go_enter Tryz.func22, Tryz.ntmps22
      go_wp2
      go_ret
      exact ⟨rfl, Below.refl _ _⟩
  · have i1 : ¬ (1 : Int) ≤ (s.size : Int) := by omega
    simp only [h1, decide_false, Bool.false_and]
    clear h1
    go_enter Tryz.func22, Tryz.ntmps22
    go_wp2
    go_ret
    exact ⟨rfl, Below.refl _ _⟩

/-- a row of a profile -/
structure Rw where
  site : ByteArray
  a : Int
  b : Int
  c : Int
  d : Int
def i64r (x : Int) : Prop := -9223372036854775808 ≤ x ∧ x ≤ 9223372036854775807
structure Rw.wf (r : Rw) : Prop where
  s : r.site.size ≤ maxLen
  a : i64r r.a
  b : i64r r.b
  c : i64r r.c
  d : i64r r.d
def Rw.cells (r : Rw) : List Value := [.string r.site, .int .i64 r.a, .int .i64 r.b, .int .i64 r.c, .int .i64 r.d]
def Rw.val (r : Rw) : Value := .agg #[.string r.site, .int .i64 r.a, .int .i64 r.b, .int .i64 r.c, .int .i64 r.d]
def rowsC (l : List Rw) : List Value := l.flatMap Rw.cells
theorem rowsC_len : ∀ l : List Rw, (rowsC l).length = l.length * 5
  | [] => rfl
  | r :: l => by
    have := rowsC_len l
    simp only [rowsC, List.flatMap_cons, List.length_append, List.length_cons] at *
    rw [this]
    show 5 + _ = _
    omega
theorem rowsC_get : ∀ (l : List Rw) (k : Nat) (r : Rw), l[k]? = some r → ∀ j, j < 5 → (rowsC l)[k * 5 + j]? = r.cells[j]?
  | [], k, r, h, j, hj => by simp at h
  | r0 :: l, 0, r, h, j, hj => by
    simp at h; subst h
    simp only [rowsC, List.flatMap_cons]
    rw [List.getElem?_append_left (by show _ < 5; omega)]
    congr 1
    omega
  | r0 :: l, k + 1, r, h, j, hj => by
    have := rowsC_get l k r (by simpa using h) j hj
    simp only [rowsC, List.flatMap_cons] at *
    rw [List.getElem?_append_right (by show 5 ≤ _; omega), ← this]
    congr 1
    show (k + 1) * 5 + j - 5 = _
    omega
/-- the rows as they lie there -/
def RowsAt (w : World) (v : Value) (l : List Rw) : Prop := Reads w 5 v l.length (rowsC l)
theorem RowsAt.at {w : World} {v : Value} {l : List Rw} (h : RowsAt w v l) {k : Nat} {r : Rw} (hk : l[k]? = some r) :
    ∃ b off cap, v = .slice (some ⟨b, off, none⟩) l.length cap ∧ w.cell? ⟨b, off + k * 5, none⟩ = some (.string r.site) ∧ w.cell? ⟨b, off + k * 5 + 1, none⟩ = some (.int .i64 r.a) ∧ w.cell? ⟨b, off + k * 5 + 2, none⟩ = some (.int .i64 r.b) ∧
      w.cell? ⟨b, off + k * 5 + 3, none⟩ = some (.int .i64 r.c) ∧ w.cell? ⟨b, off + k * 5 + 4, none⟩ = some (.int .i64 r.d) := by
  have hlt := (List.getElem?_eq_some_iff.1 hk).1
  obtain ⟨b, off, cap, hv, _, hc⟩ := Reads.lies h (by omega)
  have hg := rowsC_get l k r hk
  refine ⟨b, off, cap, hv, hc _ _ ((hg 0 (by omega)).trans rfl), ?_, ?_, ?_, ?_⟩
  · exact Nat.add_assoc off _ 1 ▸ hc _ _ ((hg 1 (by omega)).trans rfl)
  · exact Nat.add_assoc off _ 2 ▸ hc _ _ ((hg 2 (by omega)).trans rfl)
  · exact Nat.add_assoc off _ 3 ▸ hc _ _ ((hg 3 (by omega)).trans rfl)
  · exact Nat.add_assoc off _ 4 ▸ hc _ _ ((hg 4 (by omega)).trans rfl)

set_option maxRecDepth 10000 in
theorem numbers_any (w : World) (r : Rw) :
    Calls Tryz.prog 78 #[r.val] w fun e w' => e = .returned (.agg #[.int .i64 r.a, .int .i64 r.b, .int .i64 r.c, .int .i64 r.d]) ∧ Below w.heap.size w w' := by
  obtain ⟨s, a, b, c, d⟩ := r
  simp only [Rw.val]
  go_enter Tryz.func78, Tryz.ntmps78
  go_wp2
  refine bodyPost_ret (results_cell_row rfl _ _ (w.heap.size + 1) 108 _ (0, 0) _ rfl (heap_alloc2_new w _ _) Tryz.underlying108 rfl (by kernel_rfl)) rfl ?_
  exact ⟨rfl, ((Below.refl _ w).alloc (Nat.le_refl _) _).alloc (by simp) _⟩
end Go.Proofs.YtcodjodhacjfeaaGreatDoor
end

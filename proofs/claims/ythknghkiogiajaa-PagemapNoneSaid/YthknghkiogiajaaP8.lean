/-
  Package pagemap: Marks.
-/
import Derived.Test.YthknghkiogiajaaP6
namespace Go.Proofs.Ythknghkiogiajaa
open Go.RowKit

/-- a mark: start, pages, number -/
structure Mk where
  s : Int
  n : Int
  no : Int
deriving DecidableEq
def Mk.cells (x : Mk) : List Value := [.int .i64 x.s, .int .i64 x.n, .int .i64 x.no]
def mkCells (l : List Mk) : List Value := l.flatMap Mk.cells
theorem mkCells_append (l m : List Mk) : mkCells (l ++ m) = mkCells l ++ mkCells m := List.flatMap_append
theorem mkCells_length (l : List Mk) : (mkCells l).length = l.length * 3 := by
  induction l with
  | nil => rfl
  | cons x l ih => rw [mkCells, List.flatMap_cons, List.length_append, ← mkCells, ih, List.length_cons]; simp [Mk.cells]; omega
theorem mkCells_one (x : Mk) : mkCells [x] = x.cells := by simp [mkCells]

/-- one page more -/
def addMk (l : List Mk) (p no : Int) : List Mk :=
  if no = 0 then l else match l.getLast? with
    | some x => if x.s + x.n = p ∧ x.no = no then l.dropLast ++ [⟨x.s, x.n + 1, x.no⟩] else l ++ [⟨p, 1, no⟩]
    | none => l ++ [⟨p, 1, no⟩]
def mks (f : Nat → Int) : Nat → List Mk
  | 0 => []
  | n + 1 => addMk (mks f n) n (f n)
theorem addMk_len (l : List Mk) (p no : Int) : (addMk l p no).length ≤ l.length + 1 := by
  unfold addMk
  split
  · omega
  · split
    · rename_i x hx
      split
      · have : l ≠ [] := by intro e; subst e; simp at hx
        have := List.length_pos_iff.2 this
        rw [List.length_append, List.length_dropLast, List.length_singleton]; omega
      · simp
    · simp
theorem mks_len (f : Nat → Int) : ∀ n, (mks f n).length ≤ n
  | 0 => Nat.le_refl _
  | n + 1 => by
    have h1 := mks_len f n
    have h2 := addMk_len (mks f n) n (f n)
    show (addMk _ _ _).length ≤ _
    omega
theorem addMk_zero (l : List Mk) (p : Int) : addMk l p 0 = l := if_pos rfl
theorem addMk_nil (p : Int) {no : Int} (h : no ≠ 0) : addMk [] p no = [⟨p, 1, no⟩] := by simp [addMk, h]
theorem addMk_grow (l : List Mk) (x : Mk) {p no : Int} (h : no ≠ 0) (h1 : x.s + x.n = p ∧ x.no = no) : addMk (l ++ [x]) p no = l ++ [⟨x.s, x.n + 1, x.no⟩] := by simp [addMk, h, h1]
theorem addMk_new (l : List Mk) (x : Mk) {p no : Int} (h : no ≠ 0) (h1 : ¬ (x.s + x.n = p ∧ x.no = no)) : addMk (l ++ [x]) p no = l ++ [x] ++ [⟨p, 1, no⟩] := by
  simp only [addMk, if_neg h, List.getLast?_append, List.getLast?_singleton, Option.some_or]
  rw [if_neg h1]

/-- a store into a slice of one's own -/
theorem HP.arr_set {w0 w : World} {F : List HP} {t : TypeId} {sz n b off cap : Nat} {xs : List Value} (i : Nat) (u : Value) (hi : i < n * sz)
    (h : St w0 (HP.arr t sz (.slice (some ⟨b, off, none⟩) n cap) n xs :: F) w) : St w0 (HP.arr t sz (.slice (some ⟨b, off, none⟩) n cap) n (xs.set i u) :: F) (w.setCell ⟨b, off + i, none⟩ u) ∧ w.frozen? ⟨b, off + i, none⟩ = false := by
  obtain ⟨hb, m, ⟨m1, m2, ap, e, ⟨hl, ⟨hv, h0, _⟩ | ⟨b1, off1, cap1, c, hv, hc, hm, hs, hx, hme⟩⟩, h2⟩, hh⟩ := h
  · cases hv
  · cases hv
    have h3 : St w0 (HP.blk b c t :: F) w := ⟨hb, m, ⟨m1, m2, ap, e, hme, h2⟩, hh⟩
    have hcs : n * sz ≤ cap * sz := Nat.mul_le_mul_right _ hc
    refine ⟨(h3.set (off + i) u).mono (HP.arr_of_blk (by rw [List.length_set]; exact hl) hc hm (by simp; exact hs) fun j x hj => ?_), h3.frozen _⟩
    rw [Array.getElem?_setIfInBounds]
    by_cases hij : i = j
    · subst hij
      rw [List.getElem?_set_self (by omega)] at hj
      rw [if_pos rfl, if_pos (by omega)]
      exact hj
    · rw [List.getElem?_set_ne hij] at hj
      rw [if_neg (by omega)]
      exact hx j x hj

theorem info42 : (Try.prog.info? 42).map (fun i => (i.zero, i.size, i.bytes)) = some (some (.agg #[.int .i64 0, .int .i64 0, .int .i64 0]), 3, 24) := by kernel_rfl
/-- a list of marks in memory -/
def marksP (v : Value) (l : List Mk) : HP := HP.arr 42 3 v l.length (mkCells l)

theorem mks_ok (f : Nat → Int) : ∀ n, ∀ x ∈ mks f n, 0 ≤ x.s ∧ 1 ≤ x.n ∧ x.s + x.n ≤ n
  | 0, x, hx => by cases hx
  | n + 1, x, hx => by
    have ih := mks_ok f n
    have up : ∀ y ∈ mks f n, 0 ≤ y.s ∧ 1 ≤ y.n ∧ y.s + y.n ≤ ((n + 1 : Nat) : Int) := fun y hy => by have := ih y hy; omega
    by_cases h0 : f n = 0
    · have e : mks f (n + 1) = mks f n := by show addMk _ _ _ = _; rw [h0]; exact addMk_zero _ _
      rw [e] at hx
      exact up x hx
    · rcases List.eq_nil_or_concat (mks f n) with e | ⟨l, y, e⟩
      · have e2 : mks f (n + 1) = [⟨n, 1, f n⟩] := by show addMk _ _ _ = _; rw [e]; exact addMk_nil _ h0
        rw [e2, List.mem_singleton] at hx
        subst hx
        exact ⟨Int.natCast_nonneg n, Int.le_refl 1, by simp⟩
      · have e : mks f n = l ++ [y] := by simpa using e
        by_cases h1 : y.s + y.n = n ∧ y.no = f n
        · have e2 : mks f (n + 1) = l ++ [⟨y.s, y.n + 1, y.no⟩] := by show addMk _ _ _ = _; rw [e]; exact addMk_grow _ _ h0 h1
          rw [e2] at hx
          rcases List.mem_append.1 hx with h | h
          · exact up x (by rw [e]; simp [h])
          · rw [List.mem_singleton] at h
            subst h
            have := ih y (by rw [e]; simp)
            exact ⟨this.1, by have := this.2.1; show 1 ≤ y.n + 1; omega, by show y.s + (y.n + 1) ≤ _; omega⟩
        · have e2 : mks f (n + 1) = l ++ [y] ++ [⟨n, 1, f n⟩] := by show addMk _ _ _ = _; rw [e]; exact addMk_new _ _ h0 h1
          rw [e2] at hx
          rcases List.mem_append.1 hx with h | h
          · exact up x (by rw [e]; exact h)
          · rw [List.mem_singleton] at h
            subst h
            exact ⟨Int.natCast_nonneg n, Int.le_refl 1, by simp⟩
end Go.Proofs.Ythknghkiogiajaa

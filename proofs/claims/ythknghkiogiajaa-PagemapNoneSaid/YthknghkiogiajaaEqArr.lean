/-
  '==' of two arrays of ints, of an array of pointers and one of nils.
-/
import Derived.Test.YthknghkiogiajaaStar
import Derived.ChangeKeysEq
namespace Go.Proofs.Ythknghkiogiajaa
open Go.RowKit

variable {P : Program}

theorem run_part_cell {e : TypeId} {xs : Array Value} {off : Nat} {v : Value} (hs : (P.underlying e = some (.int .i64)) ∨ ∃ t, P.underlying e = some (.pointer t)) (hx : xs[off]? = some v) (w : World) : (part e xs off).run P w = .ok v w := by
  rcases hs with hu | ⟨t, hu⟩ <;> simp [part, isAgg, run_underlying hu, hx]

theorem run_eqItems_ints (d : Nat) {e : TypeId} (he : P.underlying e = some (.int .i64)) (n : Nat) (g h : Nat → Int) (w : World) : ∀ (is : List Nat), (∀ i ∈ is, i < n) →
    (Op.eqItems (d + 1) e 1 (cellsF n fun j => .int .i64 (g j)) (cellsF n fun j => .int .i64 (h j)) is).run P w = .ok (is.all fun j => g j == h j) w
  | [], _ => by simp [Op.eqItems]
  | i :: is, hi => by
    have h1 := run_part_cell (P := P) (.inl he) (cellsF_get (fun j => Value.int .i64 (g j)) (hi i (by simp))) w
    have h2 := run_part_cell (P := P) (.inl he) (cellsF_get (fun j => Value.int .i64 (h j)) (hi i (by simp))) w
    have h3 : (Op.equalIn (d + 1) e (.int .i64 (g i)) (.int .i64 (h i))).run P w = .ok (g i == h i) w := by simp [Op.equalIn, run_underlying he]
    have ih := run_eqItems_ints d he n g h w is (fun j hj => hi j (by simp [hj]))
    simp only [Op.eqItems, Sem.run_bind, Nat.mul_one, h1, h2, h3, Result.andThen_ok, List.all_cons]
    cases g i == h i
    · simp
    · simpa using ih
theorem run_equal_ints {t e : TypeId} {n : Nat} {i : TypeInfo} (hu : P.underlying t = some (.array n e)) (he : P.underlying e = some (.int .i64)) (hi : P.info? e = some i) (hc : P.cellsOf e = 1) (g h : Nat → Int) (w : World) :
    (Op.equal t (.agg (cellsF n fun j => .int .i64 (g j))) (.agg (cellsF n fun j => .int .i64 (h j)))).run P w = .ok ((List.range n).all fun j => g j == h j) w := by
  have h := run_eqItems_ints 9998 he n g h w (List.range n) (fun i hi => List.mem_range.1 hi)
  refine (run_equalIn_array w 9999 _ _ hu hi).trans ?_
  rw [hc]
  exact h

theorem run_eqItems_nils (d : Nat) {e t2 : TypeId} (he : P.underlying e = some (.pointer t2)) (n : Nat) (p : Nat → Option Addr) (w : World) : ∀ (is : List Nat), (∀ i ∈ is, i < n) →
    (Op.eqItems (d + 1) e 1 (cellsF n fun j => .pointer (p j)) (cellsF n fun _ => .pointer none) is).run P w = .ok (is.all fun j => (p j).isNone) w
  | [], _ => by simp [Op.eqItems]
  | i :: is, hi => by
    have h1 := run_part_cell (P := P) (.inr ⟨_, he⟩) (cellsF_get (fun j => Value.pointer (p j)) (hi i (by simp))) w
    have h2 := run_part_cell (P := P) (.inr ⟨_, he⟩) (cellsF_get (fun _ => Value.pointer none) (hi i (by simp))) w
    have h3 : (Op.equalIn (d + 1) e (.pointer (p i)) (.pointer none)).run P w = .ok (p i).isNone w := by cases p i <;> simp [Op.equalIn, run_underlying he]
    have ih := run_eqItems_nils d he n p w is (fun j hj => hi j (by simp [hj]))
    simp only [Op.eqItems, Sem.run_bind, Nat.mul_one, h1, h2, h3, Result.andThen_ok, List.all_cons]
    cases (p i).isNone
    · simp
    · simpa using ih
theorem run_equal_nils {t e t2 : TypeId} {n : Nat} {i : TypeInfo} (hu : P.underlying t = some (.array n e)) (he : P.underlying e = some (.pointer t2)) (hi : P.info? e = some i) (hc : P.cellsOf e = 1) (p : Nat → Option Addr) (w : World) :
    (Op.equal t (.agg (cellsF n fun j => .pointer (p j))) (.agg (cellsF n fun _ => .pointer none))).run P w = .ok ((List.range n).all fun j => (p j).isNone) w := by
  have h := run_eqItems_nils 9998 he n p w (List.range n) (fun i hi => List.mem_range.1 hi)
  refine (run_equalIn_array w 9999 _ _ hu hi).trans ?_
  rw [hc]
  exact h
end Go.Proofs.Ythknghkiogiajaa

/-
  Many assertions side by side, numbered; a row of cells that is given by a function.
-/
import Derived.Test.YtcodjodhacjfeaaGreatDoorArr
namespace Go.Proofs.YtcodjodhacjfeaaGreatDoor
open Go.RowKit

def stars : Nat → (Nat → HP) → HP
  | 0, _ => HP.emp
  | n + 1, A => stars n A * A n

theorem stars_ext : ∀ {n : Nat} {A B : Nat → HP}, (∀ j, j < n → A j = B j) → stars n A = stars n B
  | 0, _, _, _ => rfl
  | n + 1, A, B, h => by
    show stars n A * A n = stars n B * B n
    rw [stars_ext (fun j hj => h j (by omega)), h n (by omega)]

/-- all but the i-th -/
def but (A : Nat → HP) (i j : Nat) : HP := if j = i then HP.emp else A j
theorem stars_focus : ∀ {n : Nat} (i : Nat) (A : Nat → HP), i < n → stars n A = A i * stars n (but A i)
  | 0, _, _, h => by omega
  | n + 1, i, A, h => by
    show stars n A * A n = A i * (stars n (but A i) * but A i n)
    by_cases hi : i = n
    · subst hi
      have e1 : stars i (but A i) = stars i A := stars_ext fun j hj => by unfold but; rw [if_neg (by omega)]
      have e2 : but A i i = HP.emp := by unfold but; rw [if_pos rfl]
      rw [e1, e2, HP.sep_emp, HP.sep_comm]
    · have e2 : but A i n = A n := by unfold but; rw [if_neg (by omega)]
      rw [e2, stars_focus i A (by omega), HP.sep_assoc]
/-- the i-th put back, another -/
theorem stars_back {n i : Nat} {A B : Nat → HP} (h : i < n) (hb : ∀ j, j < n → j ≠ i → B j = A j) : stars n B = B i * stars n (but A i) := by
  rw [stars_focus i B h]
  congr 1
  refine stars_ext fun j hj => ?_
  unfold but
  split
  · rfl
  · rename_i h1
    exact hb j hj h1
theorem stars_emp {n : Nat} {A : Nat → HP} (h : ∀ j, j < n → A j = HP.emp) : stars n A = HP.emp := by
  rw [stars_ext (B := fun _ => HP.emp) h]
  clear h
  induction n with
  | zero => rfl
  | succ n ih => show stars n _ * HP.emp = _; rw [ih, HP.sep_emp]

/-- the cells that a function gives -/
def cellsF (n : Nat) (v : Nat → Value) : Array Value := ((List.range n).map v).toArray
theorem cellsF_size (n : Nat) (v : Nat → Value) : (cellsF n v).size = n := by simp [cellsF]
theorem cellsF_get {n i : Nat} (v : Nat → Value) (h : i < n) : (cellsF n v)[i]? = some (v i) := by simp [cellsF, h]
def upd {α : Type} (v : Nat → α) (i : Nat) (u : α) (j : Nat) : α := if j = i then u else v j
theorem upd_at {α : Type} (v : Nat → α) (i : Nat) (u : α) : upd v i u i = u := if_pos rfl
theorem upd_ne {α : Type} {v : Nat → α} {i j : Nat} {u : α} (h : j ≠ i) : upd v i u j = v j := if_neg h
theorem cellsF_set {n i : Nat} (v : Nat → Value) (u : Value) (_h : i < n) : (cellsF n v).setIfInBounds i u = cellsF n (upd v i u) := by
  apply Array.ext_getElem?
  intro j
  by_cases hj : j < n
  · rw [cellsF_get _ hj, Array.getElem?_setIfInBounds]
    unfold upd
    by_cases hji : i = j
    · subst hji; simp [cellsF_size, hj]
    · rw [if_neg hji, cellsF_get _ hj, if_neg (by omega)]
  · rw [Array.getElem?_eq_none (by simp [cellsF_size]; omega), Array.getElem?_eq_none (by simp [cellsF_size]; omega)]
theorem cellsF_ext {n : Nat} {v u : Nat → Value} (h : ∀ j, j < n → v j = u j) : cellsF n v = cellsF n u := by
  unfold cellsF
  congr 1
  exact List.map_congr_left fun j hj => h j (List.mem_range.1 hj)
end Go.Proofs.YtcodjodhacjfeaaGreatDoor

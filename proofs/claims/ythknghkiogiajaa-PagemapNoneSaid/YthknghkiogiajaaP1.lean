/-
  What a map of package pagemap is in memory.
-/
import Derived.Test.YthknghkiogiajaaEqArr
namespace Go.Proofs.Ythknghkiogiajaa
open Go.RowKit

def leafBlk (b : Nat) (g : Nat → Int) : HP := HP.blk b (cellsF 8 fun j => .int .i64 (g j)) 70
def zeroTo (n : Nat) (g : Nat → Int) : Bool := (List.range n).all fun j => g j == 0
def leafP (p : Option Addr) (g : Nat → Int) : HP := if zeroTo 8 g = true then HP.pur (p = none) else HP.ex fun b => HP.pur (p = some ⟨b, 0, none⟩) * leafBlk b g
def midRow (b : Nat) (q : Nat → Option Addr) : HP := HP.blk b (cellsF 8 fun j => .pointer (q j)) 66
def midBlk (b : Nat) (q : Nat → Option Addr) (g : Nat → Int) : HP := midRow b q * stars 8 fun j => leafP (q j) fun k => g (8 * j + k)
def midP (p : Option Addr) (g : Nat → Int) : HP := if zeroTo 64 g = true then HP.pur (p = none) else HP.ex fun b => HP.ex fun q => HP.pur (p = some ⟨b, 0, none⟩) * midBlk b q g
def mapRow (c : Nat) (p : Nat → Option Addr) : HP := HP.blk c (cellsF 17 fun i => if i = 0 then .bool true else .pointer (p (i - 1))) 54
def mapP (c : Nat) (f : Nat → Int) : HP := HP.ex fun p => mapRow c p * stars 16 fun i => midP (p i) fun k => f (64 * i + k)

theorem zeroTo_iff {n : Nat} {g : Nat → Int} : zeroTo n g = true ↔ ∀ j, j < n → g j = 0 := by
  unfold zeroTo
  rw [List.all_eq_true]
  constructor
  · intro h j hj; simpa using h j (List.mem_range.2 hj)
  · intro h j hj; simpa using h j (List.mem_range.1 hj)
theorem zeroTo_ext {n : Nat} {g h : Nat → Int} (e : ∀ j, j < n → g j = h j) : zeroTo n g = zeroTo n h := by
  rw [Bool.eq_iff_iff, zeroTo_iff, zeroTo_iff]
  exact ⟨fun a j hj => (e j hj) ▸ a j hj, fun a j hj => (e j hj).trans (a j hj)⟩
theorem leafBlk_ext {b : Nat} {g h : Nat → Int} (e : ∀ j, j < 8 → g j = h j) : leafBlk b g = leafBlk b h := by
  unfold leafBlk
  rw [cellsF_ext fun j hj => by rw [e j hj]]
theorem leafP_ext {p : Option Addr} {g h : Nat → Int} (e : ∀ j, j < 8 → g j = h j) : leafP p g = leafP p h := by
  unfold leafP
  rw [zeroTo_ext e]
  simp only [leafBlk_ext e]
theorem midBlk_ext {b : Nat} {q : Nat → Option Addr} {g h : Nat → Int} (e : ∀ j, j < 64 → g j = h j) : midBlk b q g = midBlk b q h := by
  unfold midBlk
  rw [stars_ext fun j hj => leafP_ext fun k hk => e (8 * j + k) (by omega)]
theorem midP_ext {p : Option Addr} {g h : Nat → Int} (e : ∀ j, j < 64 → g j = h j) : midP p g = midP p h := by
  unfold midP
  rw [zeroTo_ext e]
  simp only [midBlk_ext e]
theorem mapP_ext {c : Nat} {f h : Nat → Int} (e : ∀ j, j < 1024 → f j = h j) : mapP c f = mapP c h := by
  unfold mapP
  congr 1
  funext p
  rw [stars_ext fun i hi => midP_ext fun k hk => e (64 * i + k) (by omega)]

section
variable {w0 w : World} {F : List HP}
theorem St.ofEq {A B : HP} (h : St w0 (A :: F) w) (e : A = B) : St w0 (B :: F) w := e ▸ h

/-- a leaf, or none -/
theorem leafP_open {p : Option Addr} {g : Nat → Int} (h : St w0 (leafP p g :: F) w) :
    (p = none ∧ zeroTo 8 g = true ∧ St w0 F w) ∨ (∃ b, p = some ⟨b, 0, none⟩ ∧ zeroTo 8 g = false ∧ St w0 (leafBlk b g :: F) w) := by
  by_cases hz : zeroTo 8 g = true
  · have h := h.ofEq (B := HP.pur (p = none)) (by unfold leafP; rw [if_pos hz])
    obtain ⟨hp, h⟩ := St.pur.1 h
    exact .inl ⟨hp, hz, h⟩
  · have h := h.ofEq (B := HP.ex fun b => HP.pur (p = some ⟨b, 0, none⟩) * leafBlk b g) (by unfold leafP; rw [if_neg hz])
    obtain ⟨b, h⟩ := St.ex.1 h
    obtain ⟨hp, h⟩ := St.pur.1 (St.two.1 h)
    exact .inr ⟨b, hp, by simpa using hz, h⟩
theorem leafP_none {g : Nat → Int} (hz : zeroTo 8 g = true) (h : St w0 F w) : St w0 (leafP none g :: F) w :=
  (St.pur.2 ⟨rfl, h⟩ : St w0 (HP.pur ((none : Option Addr) = none) :: F) w).ofEq (by unfold leafP; rw [if_pos hz])
theorem leafP_some {b : Nat} {g : Nat → Int} (hz : zeroTo 8 g = false) (h : St w0 (leafBlk b g :: F) w) : St w0 (leafP (some ⟨b, 0, none⟩) g :: F) w := by
  have h1 : St w0 (HP.ex (fun b' => HP.pur ((some ⟨b, 0, none⟩ : Option Addr) = some ⟨b', 0, none⟩) * leafBlk b' g) :: F) w := St.ex.2 ⟨b, St.two.2 (St.pur.2 ⟨rfl, h⟩)⟩
  exact h1.ofEq (by unfold leafP; rw [if_neg (by simp [hz])])
theorem midP_open {p : Option Addr} {g : Nat → Int} (h : St w0 (midP p g :: F) w) :
    (p = none ∧ zeroTo 64 g = true ∧ St w0 F w) ∨ (∃ b q, p = some ⟨b, 0, none⟩ ∧ zeroTo 64 g = false ∧ St w0 (midBlk b q g :: F) w) := by
  by_cases hz : zeroTo 64 g = true
  · have h := h.ofEq (B := HP.pur (p = none)) (by unfold midP; rw [if_pos hz])
    obtain ⟨hp, h⟩ := St.pur.1 h
    exact .inl ⟨hp, hz, h⟩
  · have h := h.ofEq (B := HP.ex fun b => HP.ex fun q => HP.pur (p = some ⟨b, 0, none⟩) * midBlk b q g) (by unfold midP; rw [if_neg hz])
    obtain ⟨b, h⟩ := St.ex.1 h
    obtain ⟨q, h⟩ := St.ex.1 h
    obtain ⟨hp, h⟩ := St.pur.1 (St.two.1 h)
    exact .inr ⟨b, q, hp, by simpa using hz, h⟩
theorem midP_none {g : Nat → Int} (hz : zeroTo 64 g = true) (h : St w0 F w) : St w0 (midP none g :: F) w :=
  (St.pur.2 ⟨rfl, h⟩ : St w0 (HP.pur ((none : Option Addr) = none) :: F) w).ofEq (by unfold midP; rw [if_pos hz])
theorem midP_some {b : Nat} {q : Nat → Option Addr} {g : Nat → Int} (hz : zeroTo 64 g = false) (h : St w0 (midBlk b q g :: F) w) : St w0 (midP (some ⟨b, 0, none⟩) g :: F) w := by
  have h1 : St w0 (HP.ex (fun b' => HP.ex fun q => HP.pur ((some ⟨b, 0, none⟩ : Option Addr) = some ⟨b', 0, none⟩) * midBlk b' q g) :: F) w := St.ex.2 ⟨b, St.ex.2 ⟨q, St.two.2 (St.pur.2 ⟨rfl, h⟩)⟩⟩
  exact h1.ofEq (by unfold midP; rw [if_neg (by simp [hz])])

/-- the i-th of many -/
theorem stars_open {n i : Nat} {A : Nat → HP} (hi : i < n) (h : St w0 (stars n A :: F) w) : St w0 (A i :: stars n (but A i) :: F) w := St.two.1 (h.ofEq (stars_focus i A hi))
theorem stars_shut {n i : Nat} {A B : Nat → HP} (hi : i < n) (hb : ∀ j, j < n → j ≠ i → B j = A j) (h : St w0 (B i :: stars n (but A i) :: F) w) : St w0 (stars n B :: F) w := (St.two.2 h).ofEq (stars_back hi hb).symm

theorem mapP_open {c : Nat} {f : Nat → Int} (h : St w0 (mapP c f :: F) w) : ∃ p, St w0 (mapRow c p :: (stars 16 fun i => midP (p i) fun k => f (64 * i + k)) :: F) w := by
  obtain ⟨p, h⟩ := St.ex.1 h
  exact ⟨p, St.two.1 h⟩
theorem mapP_shut {c : Nat} {f : Nat → Int} {p : Nat → Option Addr} (h : St w0 (mapRow c p :: (stars 16 fun i => midP (p i) fun k => f (64 * i + k)) :: F) w) : St w0 (mapP c f :: F) w :=
  St.ex.2 ⟨p, St.two.2 h⟩
theorem mapRow_made {c : Nat} {p : Nat → Option Addr} (h : St w0 (mapRow c p :: F) w) : w.cell? ⟨c, 0, none⟩ = some (.bool true) := h.cell (cellsF_get _ (by omega))
theorem mapRow_cell {c i : Nat} {p : Nat → Option Addr} (h : St w0 (mapRow c p :: F) w) (hi : i < 16) : w.cell? ⟨c, 1 + i, none⟩ = some (.pointer (p i)) := by
  have := h.cell (i := 1 + i) (cellsF_get (n := 17) (fun i => if i = 0 then .bool true else .pointer (p (i - 1))) (by omega))
  rw [this, if_neg (by omega), Nat.add_sub_cancel_left]
theorem midRow_cell {b j : Nat} {q : Nat → Option Addr} (h : St w0 (midRow b q :: F) w) (hj : j < 8) : w.cell? ⟨b, j, none⟩ = some (.pointer (q j)) := h.cell (cellsF_get (fun j => Value.pointer (q j)) hj)
theorem leafBlk_cell {b k : Nat} {g : Nat → Int} (h : St w0 (leafBlk b g :: F) w) (hk : k < 8) : w.cell? ⟨b, k, none⟩ = some (.int .i64 (g k)) := h.cell (cellsF_get (fun j => Value.int .i64 (g j)) hk)

/-- what Get reads -/
theorem get_cells {c : Nat} {f : Nat → Int} (h : St w0 (mapP c f :: F) w) {i j k : Nat} (hi : i < 16) (hj : j < 8) (hk : k < 8) :
    (w.cell? ⟨c, 1 + i, none⟩ = some (.pointer none) ∧ f (64 * i + (8 * j + k)) = 0) ∨
    (∃ b, w.cell? ⟨c, 1 + i, none⟩ = some (.pointer (some ⟨b, 0, none⟩)) ∧ w.cell? ⟨b, j, none⟩ = some (.pointer none) ∧ f (64 * i + (8 * j + k)) = 0) ∨
    (∃ b lb, w.cell? ⟨c, 1 + i, none⟩ = some (.pointer (some ⟨b, 0, none⟩)) ∧ w.cell? ⟨b, j, none⟩ = some (.pointer (some ⟨lb, 0, none⟩)) ∧ w.cell? ⟨lb, k, none⟩ = some (.int .i64 (f (64 * i + (8 * j + k))))) := by
  obtain ⟨p, h⟩ := mapP_open h
  have c1 := mapRow_cell h hi
  rcases midP_open (stars_open hi h.swap) with ⟨hp, hz, _⟩ | ⟨b, q, hp, _, h⟩
  · exact .inl ⟨by rw [c1, hp], zeroTo_iff.1 hz _ (by omega)⟩
  · have h := St.two.1 h
    have c2 := midRow_cell h hj
    rw [hp] at c1
    rcases leafP_open (stars_open hj h.swap) with ⟨hq, hz, _⟩ | ⟨lb, hq, _, h⟩
    · rw [hq] at c2
      exact .inr (.inl ⟨b, c1, c2, zeroTo_iff.1 hz _ hk⟩)
    · have c3 := leafBlk_cell h hk
      rw [hq] at c2
      exact .inr (.inr ⟨b, lb, c1, c2, c3⟩)
end
end Go.Proofs.Ythknghkiogiajaa

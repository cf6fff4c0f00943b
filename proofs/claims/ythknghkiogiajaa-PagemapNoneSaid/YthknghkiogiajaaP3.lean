/-
  Package pagemap: there, where a node is made; put.
-/
import Derived.Test.YthknghkiogiajaaP2
namespace Go.Proofs.Ythknghkiogiajaa
open Go.RowKit

theorem there_mid_new (w0 w : World) (F : List HP) (b o : Nat) (cs : Array Value) (t : TypeId) (hs : St w0 (HP.blk b cs t :: F) w) (hc : cs[o]? = some (.pointer none)) :
    Calls Try.prog 42 #[.pointer (some ⟨b, o, none⟩)] w fun e w' => ∃ nb, e = .returned (.pointer (some ⟨nb, 0, none⟩)) ∧
      St w0 (HP.blk nb (cellsF 8 fun _ => .pointer none) 66 :: HP.blk b (cs.setIfInBounds o (.pointer (some ⟨nb, 0, none⟩))) t :: F) w' := by
  have c1 := hs.cell hc
  have h1 := (hs.allocRow #[.pointer none, .pointer none, .pointer none, .pointer none, .pointer none, .pointer none, .pointer none, .pointer none] 66).swap
  have f1 := h1.frozen o
  have c2 := h1.cell hc
  have h2 := (h1.set o (.pointer (some ⟨w.heap.size, 0, none⟩)))
  have c3 := h2.cell (i := o) (v := .pointer (some ⟨w.heap.size, 0, none⟩)) (by have := (Array.getElem?_eq_some_iff.1 hc).1; simp [this])
  clear hc
  go_enter Try.func42, Try.ntmps42
  go_wp2
  go_ret
  exact ⟨_, rfl, h2.swap⟩
theorem there_leaf_new (w0 w : World) (F : List HP) (b o : Nat) (cs : Array Value) (t : TypeId) (hs : St w0 (HP.blk b cs t :: F) w) (hc : cs[o]? = some (.pointer none)) :
    Calls Try.prog 43 #[.pointer (some ⟨b, o, none⟩)] w fun e w' => ∃ nb, e = .returned (.pointer (some ⟨nb, 0, none⟩)) ∧
      St w0 (HP.blk nb (cellsF 8 fun _ => .int .i64 0) 70 :: HP.blk b (cs.setIfInBounds o (.pointer (some ⟨nb, 0, none⟩))) t :: F) w' := by
  have c1 := hs.cell hc
  have h1 := (hs.allocRow #[.int .i64 0, .int .i64 0, .int .i64 0, .int .i64 0, .int .i64 0, .int .i64 0, .int .i64 0, .int .i64 0] 70).swap
  have f1 := h1.frozen o
  have c2 := h1.cell hc
  have h2 := (h1.set o (.pointer (some ⟨w.heap.size, 0, none⟩)))
  have c3 := h2.cell (i := o) (v := .pointer (some ⟨w.heap.size, 0, none⟩)) (by have := (Array.getElem?_eq_some_iff.1 hc).1; simp [this])
  clear hc
  go_enter Try.func43, Try.ntmps43
  go_wp2
  go_ret
  exact ⟨_, rfl, h2.swap⟩

theorem leafP_emp {g : Nat → Int} (hz : zeroTo 8 g = true) : leafP none g = HP.emp := by
  unfold leafP
  rw [if_pos hz]
  unfold HP.pur HP.emp
  simp
theorem midP_emp {g : Nat → Int} (hz : zeroTo 64 g = true) : midP none g = HP.emp := by
  unfold midP
  rw [if_pos hz]
  unfold HP.pur HP.emp
  simp
theorem zeroTo_sub {g : Nat → Int} (hz : zeroTo 64 g = true) {j : Nat} (hj : j < 8) : zeroTo 8 (fun k => g (8 * j + k)) = true := by
  rw [zeroTo_iff] at hz ⊢
  intro k hk
  exact hz _ (by omega)
theorem midBlk_new {w0 w : World} {F : List HP} {b : Nat} {g : Nat → Int} (hz : zeroTo 64 g = true) (h : St w0 (HP.blk b (cellsF 8 fun _ => .pointer none) 66 :: F) w) : St w0 (midBlk b (fun _ => none) g :: F) w := by
  refine h.ofEq ?_
  unfold midBlk midRow
  rw [stars_emp fun j hj => leafP_emp (zeroTo_sub hz hj), HP.sep_emp]
theorem leafBlk_new {w0 w : World} {F : List HP} {b : Nat} {g : Nat → Int} (hz : zeroTo 8 g = true) (h : St w0 (HP.blk b (cellsF 8 fun _ => .int .i64 0) 70 :: F) w) : St w0 (leafBlk b g :: F) w := by
  refine h.ofEq ?_
  unfold leafBlk
  rw [cellsF_ext (u := fun j => Value.int .i64 (g j)) fun j hj => by rw [zeroTo_iff.1 hz j hj]]
theorem mapRow_set {c i : Nat} {p : Nat → Option Addr} (q : Option Addr) (hi : i < 16) :
    HP.blk c ((cellsF 17 fun i => if i = 0 then .bool true else .pointer (p (i - 1))).setIfInBounds (1 + i) (.pointer q)) 54 = mapRow c (upd p i q) := by
  unfold mapRow
  rw [cellsF_set _ _ (by omega)]
  congr 1
  apply cellsF_ext
  intro j hj
  unfold upd
  by_cases hj1 : j = 1 + i
  · subst hj1
    rw [if_pos rfl, if_neg (by omega), if_pos (by omega)]
  · rw [if_neg hj1]
    dsimp only
    by_cases hj0 : j = 0
    · rw [if_pos hj0, if_pos hj0]
    · rw [if_neg hj0, if_neg hj0, if_neg (by omega)]
theorem midRow_set {b j : Nat} {q : Nat → Option Addr} (r : Option Addr) (hj : j < 8) : HP.blk b ((cellsF 8 fun j => .pointer (q j)).setIfInBounds j (.pointer r)) 66 = midRow b (upd q j r) := by
  unfold midRow
  rw [cellsF_set _ _ hj]
  congr 1
  apply cellsF_ext
  intro k hk
  unfold upd
  split <;> rfl
theorem leafBlk_set {b k : Nat} {g : Nat → Int} (n : Int) (hk : k < 8) : HP.blk b ((cellsF 8 fun j => .int .i64 (g j)).setIfInBounds k (.int .i64 n)) 70 = leafBlk b (upd g k n) := by
  unfold leafBlk
  rw [cellsF_set _ _ hk]
  congr 1
  apply cellsF_ext
  intro j hj
  unfold upd
  split <;> rfl

/-- the middles of a map, and the leaves of a middle, all but one -/
def midsBut (p : Nat → Option Addr) (f : Nat → Int) (i : Nat) : HP := stars 16 (but (fun i => midP (p i) fun k => f (64 * i + k)) i)
def leavesBut (q : Nat → Option Addr) (g : Nat → Int) (j : Nat) : HP := stars 8 (but (fun j => leafP (q j) fun k => g (8 * j + k)) j)
theorem midsBut_ext {p q : Nat → Option Addr} {f h : Nat → Int} {i : Nat} (hp : ∀ j, j < 16 → j ≠ i → p j = q j) (hf : ∀ j k, j < 16 → j ≠ i → k < 64 → f (64 * j + k) = h (64 * j + k)) : midsBut p f i = midsBut q h i := by
  unfold midsBut
  apply stars_ext
  intro j hj
  unfold but
  by_cases e : j = i
  · rw [if_pos e, if_pos e]
  · rw [if_neg e, if_neg e]
    dsimp only
    rw [hp j hj e]
    exact midP_ext fun k hk => hf j k hj e hk
theorem leavesBut_ext {p q : Nat → Option Addr} {f h : Nat → Int} {i : Nat} (hp : ∀ j, j < 8 → j ≠ i → p j = q j) (hf : ∀ j k, j < 8 → j ≠ i → k < 8 → f (8 * j + k) = h (8 * j + k)) : leavesBut p f i = leavesBut q h i := by
  unfold leavesBut
  apply stars_ext
  intro j hj
  unfold but
  by_cases e : j = i
  · rw [if_pos e, if_pos e]
  · rw [if_neg e, if_neg e]
    dsimp only
    rw [hp j hj e]
    exact leafP_ext fun k hk => hf j k hj e hk
theorem map_open {w0 w : World} {F : List HP} {c i : Nat} {f : Nat → Int} (hi : i < 16) (h : St w0 (mapP c f :: F) w) : ∃ p, St w0 (midP (p i) (fun k => f (64 * i + k)) :: mapRow c p :: midsBut p f i :: F) w := by
  obtain ⟨p, h⟩ := mapP_open h
  exact ⟨p, (stars_open hi h.swap).pick 3 [0, 2, 1]⟩
theorem map_shut {w0 w : World} {F : List HP} {c i : Nat} {f : Nat → Int} {p : Nat → Option Addr} (hi : i < 16) (h : St w0 (midP (p i) (fun k => f (64 * i + k)) :: mapRow c p :: midsBut p f i :: F) w) : St w0 (mapP c f :: F) w :=
  mapP_shut ((St.two.2 (h.pick 3 [0, 2, 1])).ofEq (stars_focus i (fun i => midP (p i) fun k => f (64 * i + k)) hi).symm).swap
theorem mid_open {w0 w : World} {F : List HP} {b j : Nat} {q : Nat → Option Addr} {g : Nat → Int} (hj : j < 8) (h : St w0 (midBlk b q g :: F) w) : St w0 (leafP (q j) (fun k => g (8 * j + k)) :: midRow b q :: leavesBut q g j :: F) w :=
  (stars_open hj (St.two.1 h).swap).pick 3 [0, 2, 1]
theorem mid_shut {w0 w : World} {F : List HP} {b j : Nat} {q : Nat → Option Addr} {g : Nat → Int} (hj : j < 8) (h : St w0 (leafP (q j) (fun k => g (8 * j + k)) :: midRow b q :: leavesBut q g j :: F) w) : St w0 (midBlk b q g :: F) w :=
  St.two.2 ((St.two.2 (h.pick 3 [0, 2, 1])).ofEq (stars_focus j (fun j => leafP (q j) fun k => g (8 * j + k)) hj).symm).swap

theorem there_mid_any (w0 w : World) (F : List HP) (c i : Nat) (f : Nat → Int) (hi : i < 16) (hs : St w0 (mapP c f :: F) w) :
    Calls Try.prog 42 #[.pointer (some ⟨c, 1 + i, none⟩)] w fun e w' => ∃ b q p, e = .returned (.pointer (some ⟨b, 0, none⟩)) ∧ p i = some ⟨b, 0, none⟩ ∧
      St w0 (midBlk b q (fun k => f (64 * i + k)) :: mapRow c p :: midsBut p f i :: F) w' := by
  obtain ⟨p, h⟩ := map_open hi hs
  rcases midP_open h with ⟨hp, hz, h⟩ | ⟨b, q, hp, hz, h⟩
  · refine (there_mid_new w0 w _ c (1 + i) _ 54 h ?_).mono ?_
    · rw [cellsF_get _ (by omega), if_neg (by omega), Nat.add_sub_cancel_left, hp]
    · rintro e w' ⟨nb, rfl, h1⟩
      refine ⟨nb, fun _ => none, upd p i (some ⟨nb, 0, none⟩), rfl, upd_at _ _ _, ?_⟩
      have h2 := (midBlk_new hz h1).swap.ofEq (mapRow_set (some ⟨nb, 0, none⟩) hi)
      have h3 := (h2.front 2).ofEq (B := midsBut (upd p i (some ⟨nb, 0, none⟩)) f i) (midsBut_ext (fun j _ e => (upd_ne e).symm) fun _ _ _ _ _ => rfl)
      exact h3.pick 3 [2, 1, 0]
  · have c1 := mapRow_cell (h.front 1) hi
    rw [hp] at c1
    refine (there_mid_is w c (1 + i) _ c1).mono ?_
    rintro e w' ⟨rfl, rfl⟩
    exact ⟨b, q, p, rfl, hp, h⟩
theorem there_leaf_any (w0 w : World) (F : List HP) (b j : Nat) (q : Nat → Option Addr) (g : Nat → Int) (hj : j < 8) (hs : St w0 (midBlk b q g :: F) w) :
    Calls Try.prog 43 #[.pointer (some ⟨b, j, none⟩)] w fun e w' => ∃ lb q', e = .returned (.pointer (some ⟨lb, 0, none⟩)) ∧ q' j = some ⟨lb, 0, none⟩ ∧
      St w0 (leafBlk lb (fun k => g (8 * j + k)) :: midRow b q' :: leavesBut q' g j :: F) w' := by
  have h := mid_open hj hs
  rcases leafP_open h with ⟨hp, hz, h⟩ | ⟨lb, hp, hz, h⟩
  · refine (there_leaf_new w0 w _ b j _ 66 h ?_).mono ?_
    · rw [cellsF_get _ hj, hp]
    · rintro e w' ⟨nb, rfl, h1⟩
      refine ⟨nb, upd q j (some ⟨nb, 0, none⟩), rfl, upd_at _ _ _, ?_⟩
      have h2 := (leafBlk_new hz h1).swap.ofEq (midRow_set (some ⟨nb, 0, none⟩) hj)
      have h3 := (h2.front 2).ofEq (B := leavesBut (upd q j (some ⟨nb, 0, none⟩)) g j) (leavesBut_ext (fun k _ e => (upd_ne e).symm) fun _ _ _ _ _ => rfl)
      exact h3.pick 3 [2, 1, 0]
  · have c1 := midRow_cell (h.front 1) hj
    rw [hp] at c1
    refine (there_leaf_is w b j _ c1).mono ?_
    rintro e w' ⟨rfl, rfl⟩
    exact ⟨lb, q, rfl, hp, h⟩
end Go.Proofs.Ythknghkiogiajaa

/-
  Package pagemap: put.
-/
import Derived.Test.YthknghkiogiajaaP3
namespace Go.Proofs.Ythknghkiogiajaa
open Go.RowKit

section
variable {w0 w : World} {F : List HP}
theorem leaf_close_some {b lb j : Nat} {q : Nat → Option Addr} {g g' h : Nat → Int} (hj : j < 8) (hz : zeroTo 8 h = false) (hq : q j = some ⟨lb, 0, none⟩) (hg : ∀ k, k < 8 → h k = g' (8 * j + k))
    (hg2 : ∀ i k, i < 8 → i ≠ j → k < 8 → g (8 * i + k) = g' (8 * i + k)) (hs : St w0 (leafBlk lb h :: midRow b q :: leavesBut q g j :: F) w) : St w0 (midBlk b q g' :: F) w := by
  have h1 := leafP_some hz hs
  rw [← hq, leafP_ext hg] at h1
  have h2 := (h1.front 2).ofEq (B := leavesBut q g' j) (leavesBut_ext (fun _ _ _ => rfl) hg2)
  exact mid_shut hj (h2.pick 3 [1, 2, 0])
theorem leaf_close_none {b j : Nat} {q : Nat → Option Addr} {g g' h : Nat → Int} (hj : j < 8) (hz : zeroTo 8 h = true) (hg : ∀ k, k < 8 → h k = g' (8 * j + k))
    (hg2 : ∀ i k, i < 8 → i ≠ j → k < 8 → g (8 * i + k) = g' (8 * i + k)) (hs : St w0 (midRow b (upd q j none) :: leavesBut q g j :: F) w) : St w0 (midBlk b (upd q j none) g' :: F) w := by
  have h1 := leafP_none hz hs
  rw [← upd_at q j (none : Option Addr), leafP_ext hg, upd_at q j (none : Option Addr)] at h1
  have h2 := (h1.front 2).ofEq (B := leavesBut (upd q j none) g' j) (leavesBut_ext (fun k _ e => (upd_ne e).symm) hg2)
  have h3 : St w0 (leafP (upd q j none j) (fun k => g' (8 * j + k)) :: midRow b (upd q j none) :: leavesBut (upd q j none) g' j :: F) w := by rw [upd_at]; exact h2.pick 3 [1, 2, 0]
  exact mid_shut hj h3
theorem mid_close_some {b c i : Nat} {q p : Nat → Option Addr} {f f' : Nat → Int} (hi : i < 16) (hz : zeroTo 64 (fun k => f' (64 * i + k)) = false) (hp : p i = some ⟨b, 0, none⟩)
    (hf : ∀ j k, j < 16 → j ≠ i → k < 64 → f (64 * j + k) = f' (64 * j + k)) (hs : St w0 (midBlk b q (fun k => f' (64 * i + k)) :: mapRow c p :: midsBut p f i :: F) w) : St w0 (mapP c f' :: F) w := by
  have h1 := midP_some hz hs
  rw [← hp] at h1
  have h2 := (h1.front 2).ofEq (B := midsBut p f' i) (midsBut_ext (fun _ _ _ => rfl) hf)
  exact map_shut hi (h2.pick 3 [1, 2, 0])
theorem mid_close_none {c i : Nat} {p : Nat → Option Addr} {f f' : Nat → Int} (hi : i < 16) (hz : zeroTo 64 (fun k => f' (64 * i + k)) = true)
    (hf : ∀ j k, j < 16 → j ≠ i → k < 64 → f (64 * j + k) = f' (64 * j + k)) (hs : St w0 (mapRow c (upd p i none) :: midsBut p f i :: F) w) : St w0 (mapP c f' :: F) w := by
  have h1 := midP_none hz hs
  have h2 := (h1.front 2).ofEq (B := midsBut (upd p i none) f' i) (midsBut_ext (fun k _ e => (upd_ne e).symm) hf)
  have h3 : St w0 (midP (upd p i none i) (fun k => f' (64 * i + k)) :: mapRow c (upd p i none) :: midsBut (upd p i none) f' i :: F) w := by rw [upd_at]; exact h2.pick 3 [1, 2, 0]
  exact map_shut hi h3
theorem leafP_isNone {p : Option Addr} {g : Nat → Int} (h : St w0 (leafP p g :: F) w) : p.isNone = zeroTo 8 g := by
  rcases leafP_open h with ⟨rfl, hz, _⟩ | ⟨b, rfl, hz, _⟩ <;> rw [hz] <;> rfl
theorem midP_isNone {p : Option Addr} {g : Nat → Int} (h : St w0 (midP p g :: F) w) : p.isNone = zeroTo 64 g := by
  rcases midP_open h with ⟨rfl, hz, _⟩ | ⟨b, q, rfl, hz, _⟩ <;> rw [hz] <;> rfl
theorem midBlk_isNone {b : Nat} {q : Nat → Option Addr} {g : Nat → Int} (h : St w0 (midBlk b q g :: F) w) : ((List.range 8).all fun j => (q j).isNone) = zeroTo 64 g := by
  have e : ∀ j, j < 8 → (q j).isNone = zeroTo 8 (fun k => g (8 * j + k)) := fun j hj => leafP_isNone (mid_open hj h)
  rw [Bool.eq_iff_iff, List.all_eq_true, zeroTo_iff]
  constructor
  · intro a k hk
    have h1 := a (k / 8) (List.mem_range.2 (by omega))
    rw [e _ (by omega), zeroTo_iff] at h1
    have h2 := h1 (k % 8) (by omega)
    rwa [show 8 * (k / 8) + k % 8 = k by omega] at h2
  · intro a j hj
    have hj := List.mem_range.1 hj
    rw [e j hj, zeroTo_iff]
    exact fun k hk => a _ (by omega)
theorem midRow_cells {b : Nat} {q : Nat → Option Addr} (h : St w0 (midRow b q :: F) w) :
    w.cell? ⟨b, 0, none⟩ = some (.pointer (q 0)) ∧ w.cell? ⟨b, 1, none⟩ = some (.pointer (q 1)) ∧ w.cell? ⟨b, 2, none⟩ = some (.pointer (q 2)) ∧ w.cell? ⟨b, 3, none⟩ = some (.pointer (q 3)) ∧
    w.cell? ⟨b, 4, none⟩ = some (.pointer (q 4)) ∧ w.cell? ⟨b, 5, none⟩ = some (.pointer (q 5)) ∧ w.cell? ⟨b, 6, none⟩ = some (.pointer (q 6)) ∧ w.cell? ⟨b, 7, none⟩ = some (.pointer (q 7)) :=
  ⟨midRow_cell h (by omega), midRow_cell h (by omega), midRow_cell h (by omega), midRow_cell h (by omega), midRow_cell h (by omega), midRow_cell h (by omega), midRow_cell h (by omega), midRow_cell h (by omega)⟩
theorem leafBlk_cells {b : Nat} {g : Nat → Int} (h : St w0 (leafBlk b g :: F) w) :
    w.cell? ⟨b, 0, none⟩ = some (.int .i64 (g 0)) ∧ w.cell? ⟨b, 1, none⟩ = some (.int .i64 (g 1)) ∧ w.cell? ⟨b, 2, none⟩ = some (.int .i64 (g 2)) ∧ w.cell? ⟨b, 3, none⟩ = some (.int .i64 (g 3)) ∧
    w.cell? ⟨b, 4, none⟩ = some (.int .i64 (g 4)) ∧ w.cell? ⟨b, 5, none⟩ = some (.int .i64 (g 5)) ∧ w.cell? ⟨b, 6, none⟩ = some (.int .i64 (g 6)) ∧ w.cell? ⟨b, 7, none⟩ = some (.int .i64 (g 7)) :=
  ⟨leafBlk_cell h (by omega), leafBlk_cell h (by omega), leafBlk_cell h (by omega), leafBlk_cell h (by omega), leafBlk_cell h (by omega), leafBlk_cell h (by omega), leafBlk_cell h (by omega), leafBlk_cell h (by omega)⟩
end

theorem info3 : (Try.prog.info? 3).map (fun i => (i.zero, i.size, i.bytes)) = some (some (.int .i64 0), 1, 8) := by kernel_rfl
theorem info59 : (Try.prog.info? 59).map (fun i => (i.zero, i.size, i.bytes)) = some (some (.pointer none), 1, 8) := by kernel_rfl
theorem eql_leaf (g : Nat → Int) (w : World) :
    (binOp .eql 70 (.agg #[.int .i64 (g 0), .int .i64 (g 1), .int .i64 (g 2), .int .i64 (g 3), .int .i64 (g 4), .int .i64 (g 5), .int .i64 (g 6), .int .i64 (g 7)])
      (.agg #[.int .i64 0, .int .i64 0, .int .i64 0, .int .i64 0, .int .i64 0, .int .i64 0, .int .i64 0, .int .i64 0])).run Try.prog w = .ok (.bool (zeroTo 8 g)) w := by
  obtain ⟨i, hi, _, _, _⟩ := info_parts info3
  have h := run_equal_ints (P := Try.prog) (t := 70) (n := 8) Try.underlying70 Try.underlying3 hi (by kernel_rfl) g (fun _ => 0) w
  have h2 : (Op.equal 70 (.agg #[.int .i64 (g 0), .int .i64 (g 1), .int .i64 (g 2), .int .i64 (g 3), .int .i64 (g 4), .int .i64 (g 5), .int .i64 (g 6), .int .i64 (g 7)])
      (.agg #[.int .i64 0, .int .i64 0, .int .i64 0, .int .i64 0, .int .i64 0, .int .i64 0, .int .i64 0, .int .i64 0])).run Try.prog w = .ok (zeroTo 8 g) w := h
  simp [binOp, h2]
theorem eql_mid (q : Nat → Option Addr) (w : World) :
    (binOp .eql 66 (.agg #[.pointer (q 0), .pointer (q 1), .pointer (q 2), .pointer (q 3), .pointer (q 4), .pointer (q 5), .pointer (q 6), .pointer (q 7)])
      (.agg #[.pointer none, .pointer none, .pointer none, .pointer none, .pointer none, .pointer none, .pointer none, .pointer none])).run Try.prog w = .ok (.bool ((List.range 8).all fun j => (q j).isNone)) w := by
  obtain ⟨i, hi, _, _, _⟩ := info_parts info59
  have h := run_equal_nils (P := Try.prog) (t := 66) (n := 8) Try.underlying66 Try.underlying59 hi (by kernel_rfl) q w
  have h2 : (Op.equal 66 (.agg #[.pointer (q 0), .pointer (q 1), .pointer (q 2), .pointer (q 3), .pointer (q 4), .pointer (q 5), .pointer (q 6), .pointer (q 7)])
      (.agg #[.pointer none, .pointer none, .pointer none, .pointer none, .pointer none, .pointer none, .pointer none, .pointer none])).run Try.prog w = .ok ((List.range 8).all fun j => (q j).isNone) w := h
  simp [binOp, h2]

set_option maxHeartbeats 1000000 in
theorem put_any (w0 w : World) (F : List HP) (c : Nat) (f : Nat → Int) (hs : St w0 (mapP c f :: F) w) (p : Nat) (hp : p < 1024) (no : Int) :
    Calls Try.prog 39 #[.pointer (some ⟨c, 0, none⟩), .int .i64 p, .int .i64 no] w fun e w' => e = .returned (.tuple #[]) ∧ St w0 (mapP c (upd f p no) :: F) w' := by
  go_enter Try.func39, Try.ntmps39
  go_wp2_with fail
  refine (there_mid_any w0 w _ c (p / 8 / 8) f (by omega) hs).mono ?_
  rintro e w1 ⟨b, q, pp, rfl, hpi, h1⟩
  go_wp2_with fail
  refine (there_leaf_any w0 w1 _ b (p / 8 % 8) q _ (by omega) h1).mono ?_
  rintro e w2 ⟨lb, q', rfl, hqj, h2⟩
  have c1 := leafBlk_cell h2 (k := p % 8) (by omega)
  have f1 := h2.frozen (p % 8)
  have h3 : St w0 (leafBlk lb (upd (fun k => f (64 * (p / 8 / 8) + (8 * (p / 8 % 8) + k))) (p % 8) no) :: midRow b q' :: leavesBut q' (fun k => f (64 * (p / 8 / 8) + k)) (p / 8 % 8) :: mapRow c pp :: midsBut pp f (p / 8 / 8) :: F)
      (w2.setCell ⟨lb, p % 8, none⟩ (.int .i64 no)) := (h2.set (p % 8) (.int .i64 no)).ofEq (leafBlk_set no (by omega))
  have hg : ∀ k, k < 8 → upd (fun k => f (64 * (p / 8 / 8) + (8 * (p / 8 % 8) + k))) (p % 8) no k = upd f p no (64 * (p / 8 / 8) + (8 * (p / 8 % 8) + k)) := by
    intro k hk
    unfold upd
    by_cases e : k = p % 8
    · rw [if_pos e, if_pos (by omega)]
    · rw [if_neg e, if_neg (by omega)]
  have hg2 : ∀ i k, i < 8 → i ≠ p / 8 % 8 → k < 8 → f (64 * (p / 8 / 8) + (8 * i + k)) = upd f p no (64 * (p / 8 / 8) + (8 * i + k)) := by
    intro i k hi hn hk
    unfold upd
    rw [if_neg (by omega)]
  have hf : ∀ j k, j < 16 → j ≠ p / 8 / 8 → k < 64 → f (64 * j + k) = upd f p no (64 * j + k) := by
    intro j k hi hn hk
    unfold upd
    rw [if_neg (by omega)]
  generalize hh : upd (fun k => f (64 * (p / 8 / 8) + (8 * (p / 8 % 8) + k))) (p % 8) no = h' at h3 hg
  generalize hff : upd f p no = f' at hg hg2 hf
  have HFF := Lib.hid hff
  have HG := Lib.hid hg
  have HG2 := Lib.hid hg2
  have HF := Lib.hid hf
  clear hh hff hg hg2 hf h1 h2
  obtain ⟨l0, l1, l2, l3, l4, l5, l6, l7⟩ := leafBlk_cells h3
  have e1 := fun w => eql_leaf h' w
  have e2 := eql_mid
  cases hz : zeroTo 8 h'
  · have h5 : St w0 (midBlk b q' (fun k => f' (64 * (p / 8 / 8) + k)) :: mapRow c pp :: midsBut pp f (p / 8 / 8) :: F) _ := leaf_close_some (by omega) hz hqj HG.out HG2.out h3
    have e3 := fun w => eql_mid q' w
    obtain ⟨m0, m1, m2, m3, m4, m5, m6, m7⟩ := midRow_cells (St.two.1 h5)
    have hn := midBlk_isNone h5
    rw [hn] at e3
    cases hy : zeroTo 64 (fun k => f' (64 * (p / 8 / 8) + k))
    · have h6 := mid_close_some (by omega) hy hpi HF.out h5
      rw [hy] at e3
      clear h3 h5 e2 hn hpi hqj
      go_wp2
      go_end0
      exact ⟨rfl, by rw [HFF.out]; exact h6⟩
    · have h5r : St w0 (mapRow c pp :: midsBut pp f (p / 8 / 8) :: F) _ := h5.drop
      have r1 := mapRow_cell h5r (i := p / 8 / 8) (by omega)
      have r2 := h5r.frozen (1 + p / 8 / 8)
      have h6 : St w0 (mapRow c (upd pp (p / 8 / 8) none) :: midsBut pp f (p / 8 / 8) :: F) _ := (h5r.set (1 + p / 8 / 8) (.pointer none)).ofEq (mapRow_set none (by omega))
      have h7 := mid_close_none (by omega) hy HF.out h6
      rw [hy] at e3
      clear h3 h5 h5r h6 e2 hn hpi hqj
      go_wp2
      go_end0
      exact ⟨rfl, by rw [HFF.out]; exact h7⟩
  · have g1 := midRow_cell (h3.front 1) (j := p / 8 % 8) (by omega)
    have g2 := (h3.front 1).frozen (p / 8 % 8)
    have h4 : St w0 (midRow b (upd q' (p / 8 % 8) none) :: leavesBut q' (fun k => f (64 * (p / 8 / 8) + k)) (p / 8 % 8) :: mapRow c pp :: midsBut pp f (p / 8 / 8) :: F) _ :=
      (((h3.front 1).set (p / 8 % 8) (.pointer none)).ofEq (midRow_set none (by omega))).pick 2 [0]
    have h5 : St w0 (midBlk b (upd q' (p / 8 % 8) none) (fun k => f' (64 * (p / 8 / 8) + k)) :: mapRow c pp :: midsBut pp f (p / 8 / 8) :: F) _ := leaf_close_none (by omega) hz HG.out HG2.out h4
    clear h4
    generalize hq2 : upd q' (p / 8 % 8) none = q2 at h5
    have e3 := fun w => eql_mid q2 w
    obtain ⟨m0, m1, m2, m3, m4, m5, m6, m7⟩ := midRow_cells (St.two.1 h5)
    have hn := midBlk_isNone h5
    rw [hn] at e3
    cases hy : zeroTo 64 (fun k => f' (64 * (p / 8 / 8) + k))
    · have h6 := mid_close_some (by omega) hy hpi HF.out h5
      rw [hy] at e3
      clear h3 h5 e2 hn hpi hqj
      go_wp2
      go_end0
      exact ⟨rfl, by rw [HFF.out]; exact h6⟩
    · have h5r : St w0 (mapRow c pp :: midsBut pp f (p / 8 / 8) :: F) _ := h5.drop
      have r1 := mapRow_cell h5r (i := p / 8 / 8) (by omega)
      have r2 := h5r.frozen (1 + p / 8 / 8)
      have h6 : St w0 (mapRow c (upd pp (p / 8 / 8) none) :: midsBut pp f (p / 8 / 8) :: F) _ := (h5r.set (1 + p / 8 / 8) (.pointer none)).ofEq (mapRow_set none (by omega))
      have h7 := mid_close_none (by omega) hy HF.out h6
      rw [hy] at e3
      clear h3 h5 h5r h6 e2 hn hpi hqj
      go_wp2
      go_end0
      exact ⟨rfl, by rw [HFF.out]; exact h7⟩
end Go.Proofs.Ythknghkiogiajaa

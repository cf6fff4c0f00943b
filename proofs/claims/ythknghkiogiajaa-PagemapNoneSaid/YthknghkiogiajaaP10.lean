/-
  The law's own: marks, great.
-/
import Derived.Test.YthknghkiogiajaaP9
namespace Go.Proofs.Ythknghkiogiajaa
open Go.RowKit

theorem neq_mk (x y : Mk) (w : World) : (binOp .neq 42 (.agg #[.int .i64 x.s, .int .i64 x.n, .int .i64 x.no]) (.agg #[.int .i64 y.s, .int .i64 y.n, .int .i64 y.no])).run Try.prog w = .ok (.bool (!decide (x = y))) w := by
  have hs : Try.prog.stoodInHeld 42 = false := by kernel_rfl
  have e : ∀ d : Nat, (Op.equalIn (d + 2) 42 (.agg #[.int .i64 x.s, .int .i64 x.n, .int .i64 x.no]) (.agg #[.int .i64 y.s, .int .i64 y.n, .int .i64 y.no])).run Try.prog w = .ok (decide (x = y)) w := by
    intro d
    obtain ⟨a1, a2, a3⟩ := x
    obtain ⟨b1, b2, b3⟩ := y
    simp only [Op.equalIn, Sem.run_bind, run_underlying Try.underlying42, Result.andThen_ok]
    simp [hs, part, isAgg, run_underlying Try.underlying3]
    by_cases h1 : a1 = b1 <;> by_cases h2 : a2 = b2 <;> by_cases h3 : a3 = b3 <;> simp [h1, h2, h3]
  have e2 : (Op.equal 42 (.agg #[.int .i64 x.s, .int .i64 x.n, .int .i64 x.no]) (.agg #[.int .i64 y.s, .int .i64 y.n, .int .i64 y.no])).run Try.prog w = .ok (decide (x = y)) w := e 9998
  simp [binOp, e2]

/-- a list of marks that can be read -/
def MarksAt (w : World) (v : Value) (l : List Mk) : Prop := Reads w 3 v l.length (mkCells l)
theorem marks_at {w0 w : World} {F : List HP} {v : Value} {l : List Mk} (h : St w0 (marksP v l :: F) w) : MarksAt w v l := HP.arr_reads h
theorem mkCells_get : ∀ (l : List Mk) (k : Nat) (x : Mk), l[k]? = some x → (mkCells l)[k * 3]? = some (.int .i64 x.s) ∧ (mkCells l)[k * 3 + 1]? = some (.int .i64 x.n) ∧ (mkCells l)[k * 3 + 2]? = some (.int .i64 x.no)
  | [], k, x, h => by simp at h
  | y :: l, 0, x, h => by
    simp at h
    subst h
    exact ⟨rfl, rfl, rfl⟩
  | y :: l, k + 1, x, h => by
    have ih := mkCells_get l k x (by simpa using h)
    rw [show (k + 1) * 3 = k * 3 + 1 + 1 + 1 by omega]
    exact ih
theorem MarksAt.cell {w : World} {v : Value} {l : List Mk} (h : MarksAt w v l) {k : Nat} {x : Mk} (hx : l[k]? = some x) :
    ∃ b off cap, v = .slice (some ⟨b, off, none⟩) l.length cap ∧ w.cell? ⟨b, off + k * 3, none⟩ = some (.int .i64 x.s) ∧ w.cell? ⟨b, off + k * 3 + 1, none⟩ = some (.int .i64 x.n) ∧ w.cell? ⟨b, off + k * 3 + 2, none⟩ = some (.int .i64 x.no) := by
  have hk := (List.getElem?_eq_some_iff.1 hx).1
  obtain ⟨b, off, cap, hv, _, hc⟩ := Reads.lies h (by omega)
  obtain ⟨h1, h2, h3⟩ := mkCells_get l k x hx
  exact ⟨b, off, cap, hv, hc _ _ h1, by rw [Nat.add_assoc]; exact hc _ _ h2, by rw [Nat.add_assoc]; exact hc _ _ h3⟩
theorem drewN_drewN (w : World) (a b : Nat) : (w.drewN a).drewN b = w.drewN (a + b) := by
  show ({ w with drawn := w.drawn + a + b } : World) = { w with drawn := w.drawn + (a + b) }
  rw [Nat.add_assoc]
/-- lists that agree so far -/
def agree {α : Type} (xs ys : List α) (k : Nat) : Prop := xs.take k = ys.take k
theorem agree_zero {α : Type} (xs ys : List α) : agree xs ys 0 := by simp [agree]
theorem agree_succ {α : Type} {xs ys : List α} {k : Nat} {x : α} (h : agree xs ys k) (hx : xs[k]? = some x) (hy : ys[k]? = some x) : agree xs ys (k + 1) := by
  unfold agree at *
  rw [List.take_add_one, List.take_add_one, h, hx, hy]
theorem agree_all {α : Type} {xs ys : List α} {k : Nat} (h : agree xs ys k) (hk : xs.length ≤ k) (hl : xs.length = ys.length) : xs = ys := by
  unfold agree at h
  rwa [List.take_of_length_le hk, List.take_of_length_le (by omega)] at h
theorem agree_not {α : Type} {xs ys : List α} {k : Nat} {x y : α} (hx : xs[k]? = some x) (hy : ys[k]? = some y) (hne : x ≠ y) : xs ≠ ys := by
  intro h
  rw [h, hy] at hx
  exact hne (Option.some.inj hx).symm

set_option maxRecDepth 10000 in
set_option maxHeartbeats 1000000 in
theorem marks_any (w : World) (a b : Option Addr) (ca cb : Nat) (xs ys : List Mk) (hx : MarksAt w (.slice a xs.length ca) xs) (hy : MarksAt w (.slice b ys.length cb) ys) (hn : xs.length ≤ 9223372036854775807) :
    Calls Try.prog 23 #[.slice a xs.length ca, .slice b ys.length cb] w fun e w' => e = .returned (.bool (decide (xs = ys))) ∧ ∃ n, w' = w.drewN n := by
  by_cases hl : xs.length = ys.length
  · have hne : ((xs.length : Int) != ys.length) = false := by simp [hl]
    have HX := Lib.hid hx
    have HY := Lib.hid hy
    have HL := Lib.hid hl
    clear hx hy hl
    go_enter Try.func23, Try.ntmps23
    go_wp2
    go_loopw [5] (fun i wr => ∃ k : Nat, k ≤ xs.length ∧ i = .int .i64 k ∧ agree xs ys k ∧ ∃ n, wr = w.drewN n) (fun i _ => xs.length - (intOf i).toNat)
    case atStart => exact ⟨0, Nat.zero_le _, rfl, agree_zero _ _, 0, rfl⟩
    case round =>
      obtain ⟨k, hk, rfl, hag, nd, rfl⟩ := hrel
      by_cases hlt : k < xs.length
      · obtain ⟨x, h1⟩ : ∃ x, xs[k]? = some x := ⟨xs[k], List.getElem?_eq_getElem hlt⟩
        obtain ⟨y, h2⟩ : ∃ y, ys[k]? = some y := ⟨ys[k]'(by have := HL.out; omega), List.getElem?_eq_getElem _⟩
        obtain ⟨b1, o1, p1, e1, c1, c2, c3⟩ := MarksAt.cell HX.out h1
        obtain ⟨b2, o2, p2, e2, d1, d2, d3⟩ := MarksAt.cell HY.out h2
        injection e1 with e1 e1b e1c
        injection e2 with e2 e2b e2c
        clear e1b e1c e2b e2c
        subst e1 e2
        have hlt2 : k < ys.length := by have := HL.out; omega
        have hq := fun w => neq_mk x y w
        have H1 := Lib.hid h1
        have H2 := Lib.hid h2
        clear h1 h2
        by_cases hxy : x = y
        · rw [decide_eq_true hxy] at hq
          have HXY := Lib.hid hxy
          clear hxy
          go_wp2_with fail
          go_quiet (fail)
          go_wp2_with fail
          go_roundw
          case rel => exact ⟨k + 1, hlt, by go_num, agree_succ hag H1.out (by rw [HXY.out]; exact H2.out), _, rfl⟩
          case measure => simp [intOf]; omega
        · rw [decide_eq_false hxy] at hq
          have HXY := Lib.hid hxy
          clear hxy
          go_wp2_with fail
          go_quiet (fail)
          go_wp2_with fail
          go_ret
          exact ⟨by rw [decide_eq_false (agree_not H1.out H2.out HXY.out)]; rfl, _, by rw [drewN_drewN]⟩
      · go_wp2_with fail
        go_ret
        exact ⟨by rw [decide_eq_true (agree_all hag (by omega) HL.out)]; rfl, _, rfl⟩
  · have hne : ((xs.length : Int) != ys.length) = true := by simp; omega
    have H : decide (xs = ys) = false := decide_eq_false fun h => hl (by rw [h])
    have HH := Lib.hid H
    clear H hl
    go_enter Try.func23, Try.ntmps23
    go_wp2
    go_ret
    exact ⟨by rw [HH.out]; rfl, 0, rfl⟩
theorem great_any (w : World) (a : Option Addr) (n cap : Nat) (hn : n ≤ 9223372036854775807) :
    Calls Try.prog 12 #[.slice a n cap] w fun e w' => e = .returned (.bool (decide (60 < n))) ∧ w = w' := by
  by_cases h : 60 < n
  · have hd : decide ((60 : Int) < (n : Int)) = true := by simp; omega
    rw [decide_eq_true h]
    clear h
    go_enter Try.func12, Try.ntmps12
    go_wp2
    go_ret
    exact ⟨rfl, rfl⟩
  · have hd : decide ((60 : Int) < (n : Int)) = false := by simp; omega
    rw [decide_eq_false h]
    clear h
    go_enter Try.func12, Try.ntmps12
    go_wp2
    go_ret
    exact ⟨rfl, rfl⟩
end Go.Proofs.Ythknghkiogiajaa

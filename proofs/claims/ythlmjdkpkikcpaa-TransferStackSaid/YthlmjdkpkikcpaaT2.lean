/-
  What a cache of package transfer is in memory; Insert.
-/
import Derived.Test.YthlmjdkpkikcpaaT1
import Derived.Deep.RegionLaw
namespace Go.Proofs.Ythlmjdkpkikcpaa
open Go.RowKit

/-- a cache: the batch size, the room, the low, the batches -/
structure TC where
  batch : Int
  room : Int
  low : Int
  bs : List (List Int)

def TC.ok (x : TC) : Prop := 1 ≤ x.batch ∧ x.batch ≤ 32 ∧ 0 ≤ x.room ∧ x.room ≤ 8 ∧ 0 ≤ x.low ∧ x.low ≤ x.bs.length ∧ x.bs.length ≤ x.room ∧ ∀ b ∈ x.bs, (b.length : Int) = x.batch

def ints (v : Value) (xs : List Int) : HP := HP.arr 3 1 v xs.length (xs.map (Value.int .i64))
def rowsC : List Value → List (List Int) → HP
  | v :: vs, x :: xs => ints v x * rowsC vs xs
  | [], [] => HP.emp
  | _, _ => HP.no
def rows (v : Value) (bs : List (List Int)) : HP := HP.ex fun vs => HP.arr 27 1 v bs.length vs * rowsC vs bs
def tcache (c : Nat) (x : TC) : HP := HP.ex fun v => HP.blk c #[.int .i64 x.batch, .int .i64 x.room, .int .i64 x.low, v] 56 * rows v x.bs
def rcache (c : Nat) (x : TC) : HP := HP.ex fun v => HP.blk c #[.int .i64 x.batch, .int .i64 x.room, v, .int .i64 x.low] 66 * rows v x.bs

theorem rowsC_snoc : ∀ (vs : List Value) (xs : List (List Int)) (v : Value) (x : List Int), vs.length = xs.length → rowsC (vs ++ [v]) (xs ++ [x]) = rowsC vs xs * ints v x
  | [], [], v, x, _ => by simp only [List.nil_append, rowsC]; rw [HP.emp_sep, HP.sep_emp]
  | v0 :: vs, x0 :: xs, v, x, h => by
    simp only [List.cons_append, rowsC]
    rw [rowsC_snoc vs xs v x (by simpa using h), HP.sep_assoc]
theorem oneCell_ints (xs : List Int) : ∀ u ∈ xs.map (Value.int .i64), u.oneCell' = true := by
  intro u hu
  obtain ⟨x, _, rfl⟩ := List.mem_map.1 hu
  rfl
def IntsAt (w : World) (v : Value) (xs : List Int) : Prop := Reads w 1 v xs.length (xs.map (Value.int .i64))

/-- what Insert does -/
def TC.insB (x : TC) (ys : List Int) : Bool := decide ((ys.length : Int) = x.batch ∧ (x.bs.length : Int) < x.room)
def TC.insE (x : TC) (ys : List Int) : Int := if (ys.length : Int) = x.batch then 0 else 1
def TC.ins (x : TC) (ys : List Int) : TC := if (ys.length : Int) = x.batch ∧ (x.bs.length : Int) < x.room then { x with bs := x.bs ++ [ys] } else x

theorem St.oneArr {w0 w : World} {F : List HP} (h : St w0 F w) (t : TypeId) (v : Value) : St w0 (HP.arr t 1 (.slice (some ⟨w.heap.size, 0, none⟩) 1 1) 1 [v] :: F) (w.alloc (.cells #[v] t)) :=
  h.newArr t 1 1 [v] rfl (by unfold maxLen; omega)

theorem rows_open {w0 w : World} {F : List HP} {v : Value} {bs : List (List Int)} (h : St w0 (rows v bs :: F) w) :
    ∃ a cap vs, v = .slice a bs.length cap ∧ vs.length = bs.length ∧ St w0 (HP.arr 27 1 (.slice a bs.length cap) bs.length vs :: rowsC vs bs :: F) w := by
  obtain ⟨vs, h⟩ := St.ex.1 h
  have h := St.two.1 h
  have hr := HP.arr_reads h
  obtain ⟨a, cap, rfl⟩ := hr.form
  exact ⟨a, cap, vs, rfl, by simpa using hr.len, h⟩
theorem rows_shut {w0 w : World} {F : List HP} {v : Value} {bs : List (List Int)} {vs : List Value} (h : St w0 (HP.arr 27 1 v bs.length vs :: rowsC vs bs :: F) w) : St w0 (rows v bs :: F) w :=
  St.ex.2 ⟨vs, St.two.2 h⟩
theorem tcache_open {w0 w : World} {F : List HP} {c : Nat} {x : TC} (h : St w0 (tcache c x :: F) w) :
    ∃ a cap vs, vs.length = x.bs.length ∧ St w0 (HP.blk c #[.int .i64 x.batch, .int .i64 x.room, .int .i64 x.low, .slice a x.bs.length cap] 56 :: HP.arr 27 1 (.slice a x.bs.length cap) x.bs.length vs :: rowsC vs x.bs :: F) w := by
  obtain ⟨v, h⟩ := St.ex.1 h
  obtain ⟨a, cap, vs, rfl, hl, h⟩ := rows_open ((St.two.1 h).swap)
  exact ⟨a, cap, vs, hl, h.rot⟩
theorem tcache_shut {w0 w : World} {F : List HP} {c : Nat} {batch room low : Int} {bs : List (List Int)} {v : Value} {vs : List Value}
    (h : St w0 (HP.blk c #[.int .i64 batch, .int .i64 room, .int .i64 low, v] 56 :: HP.arr 27 1 v bs.length vs :: rowsC vs bs :: F) w) : St w0 (tcache c ⟨batch, room, low, bs⟩ :: F) w :=
  St.ex.2 ⟨v, St.two.2 (rows_shut h.rot').swap⟩
theorem rcache_open {w0 w : World} {F : List HP} {c : Nat} {x : TC} (h : St w0 (rcache c x :: F) w) :
    ∃ a cap vs, vs.length = x.bs.length ∧ St w0 (HP.blk c #[.int .i64 x.batch, .int .i64 x.room, .slice a x.bs.length cap, .int .i64 x.low] 66 :: HP.arr 27 1 (.slice a x.bs.length cap) x.bs.length vs :: rowsC vs x.bs :: F) w := by
  obtain ⟨v, h⟩ := St.ex.1 h
  obtain ⟨a, cap, vs, rfl, hl, h⟩ := rows_open ((St.two.1 h).swap)
  exact ⟨a, cap, vs, hl, h.rot⟩
theorem rcache_shut {w0 w : World} {F : List HP} {c : Nat} {batch room low : Int} {bs : List (List Int)} {v : Value} {vs : List Value}
    (h : St w0 (HP.blk c #[.int .i64 batch, .int .i64 room, v, .int .i64 low] 66 :: HP.arr 27 1 v bs.length vs :: rowsC vs bs :: F) w) : St w0 (rcache c ⟨batch, room, low, bs⟩ :: F) w :=
  St.ex.2 ⟨v, St.two.2 (rows_shut h.rot').swap⟩

/-- behind Insert's append and store -/
theorem insert_end {w0 w : World} {F : List HP} {c : Nat} {x : TC} {v v1 b3 : Value} {vs : List Value} {ys : List Int} {A : HP} (hvl : vs.length = x.bs.length) (hl : (ys.length : Int) = x.batch) (hroom : (x.bs.length : Int) < x.room)
    (h : St w0 (HP.arr 27 1 v (x.bs.length + 1) (vs ++ [v1]) :: A :: HP.arr 3 1 v1 ys.length (ys.map (Value.int .i64)) ::
      HP.blk c #[.int .i64 x.batch, .int .i64 x.room, .int .i64 x.low, b3] 56 :: rowsC vs x.bs :: F) w) : St w0 (tcache c (x.ins ys) :: F) (w.setCell ⟨c, 3, none⟩ v) := by
  have h1 : St w0 (HP.blk c #[.int .i64 x.batch, .int .i64 x.room, .int .i64 x.low, v] 56 :: _) _ := (h.front 3).set 3 v
  have e : x.ins ys = ⟨x.batch, x.room, x.low, x.bs ++ [ys]⟩ := by simp [TC.ins, hl, hroom]
  rw [e]
  refine tcache_shut (v := v) (vs := vs ++ [v1]) ?_
  rw [rowsC_snoc _ _ _ _ hvl, List.length_append]
  exact (St.two.2 (h1.pick 5 [4, 3, 0, 1])).pick 3 [1, 2, 0]
set_option maxHeartbeats 1000000 in
theorem insert_some (w0 w : World) (F : List HP) (c : Nat) (x : TC) (hx : x.ok) (hs : St w0 (tcache c x :: F) w) (a : Option Addr) (cap : Nat) (ys : List Int)
    (hr : IntsAt w (.slice a ys.length cap) ys) (hl : (ys.length : Int) = x.batch) (hroom : (x.bs.length : Int) < x.room) :
    Calls Try.prog 12 #[.pointer (some ⟨c, 0, none⟩), .slice a ys.length cap] w fun e w' => e = .returned (.tuple #[.bool true, .int .i64 0]) ∧ St w0 (tcache c (x.ins ys) :: F) w' := by
  obtain ⟨x1, x2, x3, x4, x5, x6, x7, x8⟩ := hx
  obtain ⟨a2, cap2, vs, hvl, hs⟩ := tcache_open hs
  obtain ⟨c0, c1, c2, c3⟩ := hs.cells4
  have hb : ((ys.length : Int) != x.batch) = false := by simp [hl]
  have hyl : ys.length ≤ 32 := by omega
  have HL := Lib.hid hl
  clear hl
  obtain ⟨i0, hi, hz0, hz1, hz2⟩ := info_parts info27
  go_enter Try.func12, Try.ntmps12
  go_wp2_with (go_at_call 29; refine (made_true _ _ _ c0 x1).mono ?_; rintro e w' ⟨rfl, rfl⟩)
  go_quiet (fail)
  go_wp2_with fail
  go_region_law (first
      | (refine step_append_st rfl _ _ 26 rfl 27 i0 _ 1 24 Try.underlying26 hi hz0 hz1 hz2 rfl (.slice a2 x.bs.length cap2) _ rfl rfl x.bs.length vs (by exact hs2.front 3) 1 [.slice a1 ys.length p1] (by exact HP.arr_reads hs2) (by intro u hu; simp at hu; subst hu; rfl) (by unfold maxLen; omega) (by omega) ?_; intro v' w2 hs3 hv3; clear hv3; obtain ⟨a3, p3, rfl⟩ := (HP.arr_reads hs3).form; have f3 := (hs3.front 3).frozen 3; have c3' := (hs3.front 3).cells4.2.2.2)
      | (go_simp; go_at_call 30; go_must (refine (clone_any w0 _ _ _ _ _ _ (by exact (hs.drewN _).drew) (by exact hr.same_heap rfl) (oneCell_ints ys) (by omega)).mono ?_); rintro e w1 ⟨a1, p1, rfl, hs1⟩; have hs2 := hs1.oneArr 27 (.slice a1 ys.length p1); have c3' := (hs1.front 1).cells4.2.2.2; have c3b := (hs2.front 2).cells4.2.2.2))
  all_goals go_wp2
  all_goals go_ret2
  all_goals exact ⟨rfl, insert_end hvl HL.out hroom hs3⟩
end Go.Proofs.Ythlmjdkpkikcpaa

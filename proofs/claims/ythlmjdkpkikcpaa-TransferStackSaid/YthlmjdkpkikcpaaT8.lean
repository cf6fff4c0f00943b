/-
  The examples of the chapter hold (alive); great, batch, do, made.
-/
import Derived.Test.YthlmjdkpkikcpaaT7
namespace Go.Proofs.Ythlmjdkpkikcpaa
open Go.RowKit

theorem ints_at {w0 w : World} {F : List HP} {v : Value} {xs : List Int} (h : St w0 (ints v xs :: F) w) : IntsAt w v xs := HP.arr_reads h
theorem rows_at {w0 w : World} {F : List HP} {v : Value} {bs : List (List Int)} (h : St w0 (rows v bs :: F) w) : ∃ vs, RowsAt w v bs.length vs bs := by
  obtain ⟨a, cap, vs, rfl, hl, h⟩ := rows_open h
  exact ⟨vs, rows_read hl h⟩
theorem tclit (l : Int) (bs : List (List Int)) (h : 0 ≤ l ∧ l ≤ bs.length ∧ (bs.length : Int) ≤ 3 ∧ ∀ x ∈ bs, (x.length : Int) = 2) : TC.ok ⟨2, 3, l, bs⟩ := by
  obtain ⟨h1, h2, h3, h4⟩ := h
  have e1 : (1 : Int) ≤ 2 := by decide
  have e2 : (2 : Int) ≤ 32 := by decide
  have e3 : (0 : Int) ≤ 3 := by decide
  have e4 : (3 : Int) ≤ 8 := by decide
  exact ⟨e1, e2, e3, e4, h1, h2, h3, h4⟩
/-- Insert, where what it gives is known -/
theorem insert_is (w0 w : World) (F : List HP) (c : Nat) (x y : TC) (b : Bool) (n : Int) (hx : x.ok) (a : Option Addr) (cap m : Nat) (ys : List Int) (hm : ys.length = m) (hb : x.insB ys = b) (he : x.insE ys = n) (hy : x.ins ys = y) (hs : St w0 (tcache c x :: F) w)
    (hr : Reads w 1 (.slice a m cap) m (ys.map (Value.int .i64))) (hn : (m : Int) ≤ 9223372036854775807) :
    Calls Try.prog 12 #[.pointer (some ⟨c, 0, none⟩), .slice a m cap] w fun e w' => e = .returned (.tuple #[.bool b, .int .i64 n]) ∧ St w0 (tcache c y :: F) w' := by
  subst hm hb he hy
  exact insert_any w0 w F c x hx hs a cap ys hr hn

theorem Ints_is (w : World) (b : Bool) (a1 a2 : Option Addr) (m ca cb : Nat) (xs ys : List Int) (h1 : xs.length = m) (h2 : ys.length = m) (hb : decide (xs = ys) = b) (hx : Reads w 1 (.slice a1 m ca) m (xs.map (Value.int .i64)))
    (hy : Reads w 1 (.slice a2 m cb) m (ys.map (Value.int .i64))) (hn : m ≤ 9223372036854775807) :
    Calls Try.prog 14 #[.slice a1 m ca, .slice a2 m cb] w fun e w' => e = .returned (.bool b) ∧ ∃ n, w' = w.drewN n := by
  subst h1 hb
  have h := Ints_any w a1 a2 ca cb xs ys hx (by unfold IntsAt; rw [h2]; exact hy) hn (by omega)
  rw [h2] at h
  exact h

theorem Same_is (w : World) (b : Bool) (a1 a2 : Option Addr) (m ca cb : Nat) (us vs : List Value) (xss yss : List (List Int)) (h1 : xss.length = m) (h2 : yss.length = m) (hb : decide (xss = yss) = b) (hx : RowsAt w (.slice a1 m ca) m us xss)
    (hy : RowsAt w (.slice a2 m cb) m vs yss) (hn : m ≤ 1000) (k1 : ∀ x ∈ xss, x.length ≤ 1000) (k2 : ∀ x ∈ yss, x.length ≤ 1000) :
    Calls Try.prog 17 #[.slice a1 m ca, .slice a2 m cb] w fun e w' => e = .returned (.bool b) ∧ ∃ n, w' = w.drewN n := by
  subst h1 hb
  have h := Same_any w a1 a2 ca cb us vs xss yss hx (by rw [h2]; exact hy) hn (by omega) k1 k2
  rw [h2] at h
  exact h
/-- a list of one batch, just made -/
theorem one_row {w0 w : World} {F : List HP} {v v1 : Value} {b : List Int} (h : St w0 (HP.arr 27 1 v 1 [v1] :: ints v1 b :: F) w) : RowsAt w v 1 [v1] [b] := by
  have h2 := (St.two.2 (St.emp.2 (h.swap)).swap).swap
  exact rows_read (bs := [b]) (vs := [v1]) rfl h2

set_option maxHeartbeats 4000000 in
theorem alive_any (w0 w : World) (F : List HP) (hs : St w0 F w) : Calls Try.prog 10 #[] w fun e w' => e = .returned (.bool true) ∧ St w0 F w' := by
  have k0 : TC.ok ⟨2, 3, 0, []⟩ := tclit _ _ (by simp)
  have k1 : TC.ok ⟨2, 3, 0, [[8, 16]]⟩ := tclit _ _ (by simp)
  have k2 : TC.ok ⟨2, 3, 0, [[8, 16], [24, 32]]⟩ := tclit _ _ (by simp)
  have k3 : TC.ok ⟨2, 3, 1, [[8, 16]]⟩ := tclit _ _ (by simp)
  go_enter Try.func10, Try.ntmps10
  go_wp2_with fail
  refine (new_good w0 w F 2 3 (by decide) (by decide) (by decide) (by decide) hs).mono ?_
  rintro e w1 ⟨c, rfl, h1⟩
  have i1 := St.newArr h1 3 1 2 [.int .i64 8, .int .i64 16] rfl (by unfold maxLen; omega)
  go_wp2_with fail
  refine (insert_is w0 _ _ c ⟨2, 3, 0, []⟩ ⟨2, 3, 0, [[8, 16]]⟩ true 0 k0 _ 2 2 [8, 16] rfl rfl rfl rfl (i1.front 1) (HP.arr_reads i1) (by decide)).mono ?_
  rintro e w2 ⟨rfl, h2⟩
  have i2 := St.newArr h2 3 1 2 [.int .i64 24, .int .i64 32] rfl (by unfold maxLen; omega)
  go_wp2_with fail
  refine (insert_is w0 _ _ c ⟨2, 3, 0, [[8, 16]]⟩ ⟨2, 3, 0, [[8, 16], [24, 32]]⟩ true 0 k1 _ 2 2 [24, 32] rfl rfl rfl rfl (i2.front 1) (HP.arr_reads i2) (by decide)).mono ?_
  rintro e w3 ⟨rfl, h3⟩
  go_wp2_with fail
  refine (remove_some w0 w3 _ c 2 3 0 [[8, 16]] [24, 32] (by decide) (by decide) (by decide) (by decide) h3).mono ?_
  rintro e w4 ⟨ar, pr, rfl, h4⟩
  have h4 : St w0 (ints (.slice ar 2 pr) [24, 32] :: tcache c ⟨2, 3, 0, [[8, 16]]⟩ :: F) w4 := h4.pick 4 [0, 1]
  go_wp2_with fail
  refine (len_any w0 w4 _ c ⟨2, 3, 0, [[8, 16]]⟩ k1 (h4.front 1)).mono ?_
  rintro e w' ⟨rfl, rfl⟩
  go_wp2_with fail
  refine (low_any w0 _ _ c ⟨2, 3, 0, [[8, 16]]⟩ k1 (h4.front 1)).mono ?_
  rintro e w' ⟨rfl, rfl⟩
  go_wp2_with fail
  refine (tick_any w0 _ _ c ⟨2, 3, 0, [[8, 16]]⟩ k1 0 rfl (h4.front 1)).mono ?_
  rintro e w5 ⟨a5, p5, rfl, h5⟩
  have h5 : St w0 (tcache c ⟨2, 3, 1, [[8, 16]]⟩ :: ints (.slice ar 2 pr) [24, 32] :: F) w5 := h5.drop
  go_wp2_with fail
  refine (low_any w0 _ _ c ⟨2, 3, 1, [[8, 16]]⟩ k3 h5).mono ?_
  rintro e w' ⟨rfl, rfl⟩
  go_wp2_with fail
  refine (tick_any w0 _ _ c ⟨2, 3, 1, [[8, 16]]⟩ k3 1 rfl h5).mono ?_
  rintro e w6 ⟨a6, p6, rfl, h6⟩
  have h6 : St w0 (rows (.slice a6 1 p6) [[8, 16]] :: tcache c ⟨2, 3, 0, []⟩ :: ints (.slice ar 2 pr) [24, 32] :: F) w6 := h6
  have i6 := St.newArr h6 3 1 1 [.int .i64 8] rfl (by unfold maxLen; omega)
  go_wp2_with fail
  refine (insert_is w0 _ _ c ⟨2, 3, 0, []⟩ ⟨2, 3, 0, []⟩ false 1 k0 _ 1 1 [8] rfl rfl rfl rfl (i6.front 2) (HP.arr_reads i6) (by decide)).mono ?_
  rintro e w7 ⟨rfl, h7⟩
  have h7 : St w0 (rows (.slice a6 1 p6) [[8, 16]] :: ints (.slice ar 2 pr) [24, 32] :: F) w7 := h7.pick 4 [2, 3]
  have i7 := St.newArr h7 3 1 2 [.int .i64 24, .int .i64 32] rfl (by unfold maxLen; omega)
  go_wp2_with fail
  refine (Ints_is _ true ar _ 2 pr 2 [24, 32] [24, 32] rfl rfl rfl (HP.arr_reads (i7.front 2)) (HP.arr_reads i7) (by decide)).mono ?_
  rintro e w' ⟨rfl, n8, rfl⟩
  have i8 := i7.drewN n8
  have i9 := St.newArr i8 3 1 2 [.int .i64 8, .int .i64 16] rfl (by unfold maxLen; omega)
  rw [show ((w7.alloc (.cells [Value.int .i64 24, .int .i64 32].toArray 3)).drewN n8).heap.size = w7.heap.size + 1 by simp [World.drewN]] at i9
  have i10 := St.newArr i9 27 1 1 [.slice (some ⟨w7.heap.size + 1, 0, none⟩) 2 2] rfl (by unfold maxLen; omega)
  have hz : (((w7.alloc (.cells [Value.int .i64 24, .int .i64 32].toArray 3)).drewN n8).alloc (.cells [Value.int .i64 8, .int .i64 16].toArray 3)).heap.size = w7.heap.size + 1 + 1 := by simp [World.drewN]
  rw [hz] at i10
  obtain ⟨us, hrow⟩ := rows_at (i10.front 3)
  have hrow2 := one_row (b := [8, 16]) i10
  go_wp2_with fail
  refine (Same_is _ true a6 _ 1 p6 1 us _ [[8, 16]] [[8, 16]] rfl rfl rfl hrow hrow2 (by decide) (by simp) (by simp)).mono ?_
  rintro e w' ⟨rfl, n9, rfl⟩
  go_wp2_with fail
  go_ret
  exact ⟨rfl, (i10.drewN n9).pick 5 []⟩
end Go.Proofs.Ythlmjdkpkikcpaa

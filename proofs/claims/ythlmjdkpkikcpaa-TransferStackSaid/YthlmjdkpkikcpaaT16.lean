/-
  The law's own play and Same: a cache and its reference, call by call.
-/
import Derived.Test.YthlmjdkpkikcpaaT15
import Derived.Test.YthlmjdkpkikcpaaT11
namespace Go.Proofs.Ythlmjdkpkikcpaa
open Go.RowKit

theorem NotMade.lay {w : World} {p : Option Addr} (h : NotMade w p) (o : Obj) : NotMade (w.alloc o) p := h.alloc o
theorem flat_le {x : TC} (h : x.ok) : (flat x.bs).length ≤ 9223372036854775807 := by
  have h1 := h.sum
  have h2 := flatten_length x.bs
  omega

set_option maxHeartbeats 1000000 in
theorem lawSame_x (w0 w : World) (F : List HP) (c t : Nat) (x : TC) (hx : x.ok) (hs : St w0 (tcache c x :: rcache t x :: F) w) :
    Calls Try.prog 28 #[.pointer (some ⟨c, 0, none⟩), .pointer (some ⟨t, 0, none⟩)] w fun e w' => e = .returned (.bool true) ∧ St w0 (tcache c x :: rcache t x :: F) w' := by
  have hf := Lib.hid (flat_le hx)
  go_enter Try.func28, Try.ntmps28
  go_wp2_with fail
  refine (len_any w0 w _ c x hx hs).mono ?_
  rintro e w' ⟨rfl, rfl⟩
  go_wp2_with fail
  refine (rlen_any w0 w _ t x hx hs.swap).mono ?_
  rintro e w' ⟨rfl, rfl⟩
  go_wp2_with fail
  refine (low_any w0 w _ c x hx hs).mono ?_
  rintro e w' ⟨rfl, rfl⟩
  go_wp2_with fail
  refine (rlow_any w0 w _ t x hx hs.swap).mono ?_
  rintro e w' ⟨rfl, rfl⟩
  go_wp2_with fail
  refine (objects_any w0 w _ c x hx hs).mono ?_
  rintro e w1 ⟨a1, p1, rfl, h1⟩
  go_wp2_with fail
  refine (robjects_any w0 w1 _ t x hx (h1.front 2)).mono ?_
  rintro e w2 ⟨a2, p2, rfl, h2⟩
  have h2 : St w0 (ints (.slice a2 (flat x.bs).length p2) (flat x.bs) :: rcache t x :: ints (.slice a1 (flat x.bs).length p1) (flat x.bs) :: tcache c x :: F) w2 := h2
  have i2 := ints_at h2
  have i1 := ints_at (h2.front 2)
  go_wp2_with fail
  refine (Ints_any w2 a1 a2 p1 p2 _ _ i1 i2 hf.out hf.out).mono ?_
  rintro e w' ⟨rfl, n, rfl⟩
  rw [decide_eq_true (rfl : flat x.bs = flat x.bs)]
  go_wp2_with fail
  go_ret
  exact ⟨rfl, (h2.drewN n).pick 4 [3, 1]⟩

theorem lawSame_not (w : World) (p : Option Addr) (hp : NotMade w p) : Calls Try.prog 28 #[.pointer p, .pointer none] w fun e w' => e = .returned (.bool true) ∧ ∃ n, w' = w.drewN n := by
  have H := Lib.hid hp
  clear hp
  go_enter Try.func28, Try.ntmps28
  go_wp2_with fail
  refine (len_not w p H.out).mono ?_
  rintro e w' ⟨rfl, rfl⟩
  go_wp2_with fail
  refine (rlen_nil w).mono ?_
  rintro e w' ⟨rfl, rfl⟩
  go_wp2_with fail
  refine (low_not w p H.out).mono ?_
  rintro e w' ⟨rfl, rfl⟩
  go_wp2_with fail
  refine (rlow_nil w).mono ?_
  rintro e w' ⟨rfl, rfl⟩
  go_wp2_with fail
  refine (objects_not w p H.out).mono ?_
  rintro e w' ⟨rfl, rfl⟩
  go_wp2_with fail
  refine (robjects_nil w).mono ?_
  rintro e w' ⟨rfl, rfl⟩
  go_wp2_with fail
  refine (Ints_nil w).mono ?_
  rintro e w' ⟨rfl, n, rfl⟩
  go_wp2_with fail
  go_ret
  exact ⟨rfl, n, rfl⟩


theorem TC.ok.rows {x : TC} (h : x.ok) : x.bs.length ≤ 1000 ∧ ∀ b ∈ x.bs, b.length ≤ 1000 := by
  obtain ⟨x1, x2, x3, x4, x5, x6, x7, x8⟩ := h
  exact ⟨by omega, fun b hb => by have := x8 b hb; omega⟩

section
variable (w0 w : World) (F : List HP) (c t : Nat) (x : TC) (hx : x.ok) (hs : St w0 (tcache c x :: rcache t x :: F) w) (a : Option Addr) (cap : Nat) (l : List Int)
include hx hs
set_option maxHeartbeats 1000000

theorem play_0 (hl : IntsAt w0 (.slice a l.length cap) l) (hn : l.length ≤ 9223372036854775807) :
    Calls Try.prog 27 #[.pointer (some ⟨c, 0, none⟩), .pointer (some ⟨t, 0, none⟩), .agg #[.int .i64 0, .slice a l.length cap]] w fun e w' => e = .returned (.bool true) ∧ St w0 (tcache c (x.ins l) :: rcache t (x.ins l) :: F) w' := by
  have hs1 : St w0 (tcache c x :: HP.blk w.heap.size #[.int .i64 0, .slice a l.length cap] 42 :: rcache t x :: F) _ := (hs.allocRow #[.int .i64 0, .slice a l.length cap] 42).front 1
  have HL := Lib.hid hl
  clear hl hs
  go_enter Try.func27, Try.ntmps27
  go_wp2_with fail
  refine (insert_any w0 _ _ c x hx hs1 a cap l (hs1.reads0 HL.out) (by omega)).mono ?_
  rintro e w1 ⟨rfl, h1⟩
  obtain ⟨k0, k1⟩ := (h1.front 1).cells2
  go_wp2_with fail
  refine (rinsert_any w0 w1 _ t x hx (h1.front 2) a cap l (h1.reads0 HL.out) (by omega)).mono ?_
  rintro e w2 ⟨rfl, h2⟩
  have h2 : St w0 (tcache c (x.ins l) :: rcache t (x.ins l) :: F) w2 := h2.pick 3 [1, 0]
  go_wp2_with fail
  go_ret
  exact ⟨rfl, h2⟩

theorem play_1 : Calls Try.prog 27 #[.pointer (some ⟨c, 0, none⟩), .pointer (some ⟨t, 0, none⟩), .agg #[.int .i64 1, .slice a l.length cap]] w fun e w' => e = .returned (.bool true) ∧ St w0 (tcache c x.rem :: rcache t x.rem :: F) w' := by
  have hs1 : St w0 (tcache c x :: HP.blk w.heap.size #[.int .i64 1, .slice a l.length cap] 42 :: rcache t x :: F) _ := (hs.allocRow #[.int .i64 1, .slice a l.length cap] 42).front 1
  clear hs
  by_cases h0 : x.bs = []
  · have er : x.rem = x := by simp [TC.rem, h0]
    rw [er]
    go_enter Try.func27, Try.ntmps27
    go_wp2_with fail
    refine (remove_none w0 _ _ c x hx hs1 h0).mono ?_
    rintro e w1 ⟨rfl, h1⟩
    go_wp2_with fail
    refine (rremove_none w0 w1 _ t x hx (h1.front 2) h0).mono ?_
    rintro e w2 ⟨rfl, h2⟩
    go_wp2_with fail
    refine (Ints_nil w2).mono ?_
    rintro e w' ⟨rfl, n, rfl⟩
    have h3 : St w0 (tcache c x :: rcache t x :: F) (w2.drewN n) := (h2.drewN n).pick 3 [1, 0]
    go_wp2_with fail
    go_ret
    exact ⟨rfl, h3⟩
  · obtain ⟨bi, b1, hbs⟩ : ∃ bi b1, x.bs = bi ++ [b1] := by
      rcases List.eq_nil_or_concat x.bs with h | ⟨bi, b1, h⟩
      · exact absurd h h0
      · exact ⟨bi, b1, by simpa using h⟩
    clear h0
    have hxb := hx.rows.2 b1 (by rw [hbs]; simp)
    obtain ⟨batch, room, low, bs⟩ := x
    simp only at hbs
    subst hbs
    obtain ⟨x1, x2, x3, x4, x5, x6, x7, x8⟩ := hx
    simp only [List.length_append, List.length_singleton] at x1 x2 x3 x4 x5 x6 x7 x8
    have er : TC.rem ⟨batch, room, low, bi ++ [b1]⟩ = ⟨batch, room, min low bi.length, bi⟩ := by simp [TC.rem]
    rw [er]
    clear er
    go_enter Try.func27, Try.ntmps27
    go_wp2_with fail
    refine (remove_some w0 _ _ c batch room low bi b1 x1 (by omega) x5 (by omega) hs1).mono ?_
    rintro e w1 ⟨a1, p1, rfl, h1⟩
    go_wp2_with fail
    refine (rremove_some w0 w1 _ t batch room low bi b1 x1 (by omega) (by omega) (h1.front 3)).mono ?_
    rintro e w2 ⟨a2, p2, rfl, h2⟩
    have i2 := ints_at h2
    have i1 := ints_at (h2.front 2)
    go_wp2_with fail
    refine (Ints_any w2 a1 a2 p1 p2 _ _ i1 i2 (by omega) (by omega)).mono ?_
    rintro e w' ⟨rfl, n, rfl⟩
    rw [decide_eq_true (rfl : b1 = b1)]
    have h3 : St w0 (tcache c ⟨batch, room, min low bi.length, bi⟩ :: rcache t ⟨batch, room, min low bi.length, bi⟩ :: F) (w2.drewN n) := (h2.drewN n).pick 5 [3, 1]
    go_wp2_with fail
    go_ret
    exact ⟨rfl, h3⟩

theorem play_2 : Calls Try.prog 27 #[.pointer (some ⟨c, 0, none⟩), .pointer (some ⟨t, 0, none⟩), .agg #[.int .i64 2, .slice a l.length cap]] w fun e w' => e = .returned (.bool true) ∧ St w0 (tcache c x.tick :: rcache t x.tick :: F) w' := by
  have hs1 : St w0 (tcache c x :: HP.blk w.heap.size #[.int .i64 2, .slice a l.length cap] 42 :: rcache t x :: F) _ := (hs.allocRow #[.int .i64 2, .slice a l.length cap] 42).front 1
  clear hs
  have hn := hx.tickN.2
  obtain ⟨hr1, hr2⟩ := hx.rows
  have hlen : (x.bs.take x.tickN).length = x.tickN := by rw [List.length_take]; omega
  have HR := Lib.hid (fun b (hb : b ∈ x.bs.take x.tickN) => hr2 b (List.mem_of_mem_take hb))
  clear hr2
  go_enter Try.func27, Try.ntmps27
  go_wp2_with fail
  refine (tick_x w0 _ _ c x hx hs1).mono ?_
  rintro e w1 ⟨a1, p1, rfl, h1⟩
  go_wp2_with fail
  refine (rtick_x w0 w1 _ t x hx (h1.front 3)).mono ?_
  rintro e w2 ⟨a2, p2, rfl, h2⟩
  obtain ⟨vs2, i2⟩ := rows_at h2
  obtain ⟨vs1, i1⟩ := rows_at (h2.front 2)
  rw [hlen] at i1 i2
  go_wp2_with fail
  refine (Same_is w2 true a1 a2 _ p1 p2 vs1 vs2 _ _ hlen hlen (decide_eq_true rfl) i1 i2 (by omega) HR.out HR.out).mono ?_
  rintro e w' ⟨rfl, n, rfl⟩
  have h3 : St w0 (tcache c x.tick :: rcache t x.tick :: F) (w2.drewN n) := (h2.drewN n).pick 5 [3, 1]
  go_wp2_with fail
  go_ret
  exact ⟨rfl, h3⟩

theorem play_3 : Calls Try.prog 27 #[.pointer (some ⟨c, 0, none⟩), .pointer (some ⟨t, 0, none⟩), .agg #[.int .i64 3, .slice a l.length cap]] w fun e w' => e = .returned (.bool true) ∧ St w0 (tcache c x.drain :: rcache t x.drain :: F) w' := by
  have hs1 : St w0 (tcache c x :: HP.blk w.heap.size #[.int .i64 3, .slice a l.length cap] 42 :: rcache t x :: F) _ := (hs.allocRow #[.int .i64 3, .slice a l.length cap] 42).front 1
  clear hs
  obtain ⟨hr1, hr2⟩ := hx.rows
  have HR := Lib.hid hr2
  clear hr2
  go_enter Try.func27, Try.ntmps27
  go_wp2_with fail
  refine (drain_any w0 _ _ c x hx hs1).mono ?_
  rintro e w1 ⟨a1, p1, rfl, h1⟩
  go_wp2_with fail
  refine (rdrain_x w0 w1 _ t x hx (h1.front 3)).mono ?_
  rintro e w2 ⟨a2, p2, rfl, h2⟩
  obtain ⟨vs2, i2⟩ := rows_at h2
  obtain ⟨vs1, i1⟩ := rows_at (h2.front 2)
  go_wp2_with fail
  refine (Same_any w2 a1 a2 p1 p2 vs1 vs2 _ _ i1 i2 hr1 hr1 HR.out HR.out).mono ?_
  rintro e w' ⟨rfl, n, rfl⟩
  rw [decide_eq_true (rfl : x.bs = x.bs)]
  have h3 : St w0 (tcache c x.drain :: rcache t x.drain :: F) (w2.drewN n) := (h2.drewN n).pick 5 [3, 1]
  go_wp2_with fail
  go_ret
  exact ⟨rfl, h3⟩

theorem play_x (k : Int) (hl : IntsAt w0 (.slice a l.length cap) l) (hn : l.length ≤ 9223372036854775807) :
    Calls Try.prog 27 #[.pointer (some ⟨c, 0, none⟩), .pointer (some ⟨t, 0, none⟩), .agg #[.int .i64 k, .slice a l.length cap]] w fun e w' => e = .returned (.bool true) ∧ St w0 (tcache c (x.act k l) :: rcache t (x.act k l) :: F) w' := by
  by_cases h0 : k = 0
  · subst h0
    exact play_0 w0 w F c t x hx hs a cap l hl hn
  by_cases h1 : k = 1
  · subst h1
    exact play_1 w0 w F c t x hx hs a cap l
  by_cases h2 : k = 2
  · subst h2
    exact play_2 w0 w F c t x hx hs a cap l
  by_cases h3 : k = 3
  · subst h3
    exact play_3 w0 w F c t x hx hs a cap l
  have hs1 := hs.allocRow #[.int .i64 k, .slice a l.length cap] 42
  have b0 : (k == 0) = false := by simpa using h0
  have b1 : (k == 1) = false := by simpa using h1
  have b2 : (k == 2) = false := by simpa using h2
  have b3 : (k == 3) = false := by simpa using h3
  have e : x.act k l = x := by simp [TC.act, h0, h1, h2, h3]
  rw [e]
  clear h0 h1 h2 h3 e hs
  go_enter Try.func27, Try.ntmps27
  go_wp2_with fail
  go_ret
  exact ⟨rfl, hs1.drop⟩
end

/-- a cache that nobody made -/
theorem play_not (w0 w : World) (F : List HP) (hs : St w0 F w) (p : Option Addr) (hp : NotMade w p) (k : Int) (a : Option Addr) (cap n : Nat) :
    Calls Try.prog 27 #[.pointer p, .pointer none, .agg #[.int .i64 k, .slice a n cap]] w fun e w' => e = .returned (.bool true) ∧ St w0 F w' := by
  have hs1 := hs.allocRow #[.int .i64 k, .slice a n cap] 42
  have hp1 := Lib.hid (hp.alloc (.cells #[.int .i64 k, .slice a n cap] 42))
  clear hp hs
  by_cases h0 : k = 0
  · subst h0
    go_enter Try.func27, Try.ntmps27
    go_wp2_with fail
    refine (insert_not _ p _ hp1.out).mono ?_
    rintro e w' ⟨rfl, rfl⟩
    go_wp2_with fail
    refine (rinsert_nil _ _).mono ?_
    rintro e w' ⟨rfl, rfl⟩
    go_wp2_with fail
    go_ret
    exact ⟨rfl, hs1.drop⟩
  by_cases h1 : k = 1
  · subst h1
    clear h0
    go_enter Try.func27, Try.ntmps27
    go_wp2_with fail
    refine (remove_not _ p hp1.out).mono ?_
    rintro e w' ⟨rfl, rfl⟩
    go_wp2_with fail
    refine (rremove_nil _).mono ?_
    rintro e w' ⟨rfl, rfl⟩
    go_wp2_with fail
    refine (Ints_nil _).mono ?_
    rintro e w' ⟨rfl, m, rfl⟩
    have h3 := (hs1.drewN m).drop
    go_wp2_with fail
    go_ret
    exact ⟨rfl, h3⟩
  by_cases h2 : k = 2
  · subst h2
    clear h0 h1
    go_enter Try.func27, Try.ntmps27
    go_wp2_with fail
    refine (tick_not _ p hp1.out).mono ?_
    rintro e w' ⟨rfl, o, rfl⟩
    go_wp2_with fail
    refine (rtick_nil _).mono ?_
    rintro e w' ⟨rfl, rfl⟩
    go_wp2_with fail
    refine (Same_nil _).mono ?_
    rintro e w' ⟨rfl, m, rfl⟩
    have h3 := ((St.alloc hs1 o).drewN m).drop.drop
    go_wp2_with fail
    go_ret
    exact ⟨rfl, h3⟩
  by_cases h3 : k = 3
  · subst h3
    clear h0 h1 h2
    go_enter Try.func27, Try.ntmps27
    go_wp2_with fail
    refine (drain_not _ p hp1.out).mono ?_
    rintro e w' ⟨rfl, o, rfl⟩
    go_wp2_with fail
    refine (rdrain_nil _).mono ?_
    rintro e w' ⟨rfl, rfl⟩
    go_wp2_with fail
    refine (Same_nil _).mono ?_
    rintro e w' ⟨rfl, m, rfl⟩
    have h3 := ((St.alloc hs1 o).drewN m).drop.drop
    go_wp2_with fail
    go_ret
    exact ⟨rfl, h3⟩
  have b0 : (k == 0) = false := by simpa using h0
  have b1 : (k == 1) = false := by simpa using h1
  have b2 : (k == 2) = false := by simpa using h2
  have b3 : (k == 3) = false := by simpa using h3
  clear h0 h1 h2 h3
  go_enter Try.func27, Try.ntmps27
  go_wp2_with fail
  go_ret
  exact ⟨rfl, hs1.drop⟩
end Go.Proofs.Ythlmjdkpkikcpaa

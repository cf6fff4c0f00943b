/-
  The reference's cache: Insert, Remove, first, Tick, Drain, Len, Low, Objects, New, Clone.
-/
import Derived.Test.YthlmjdkpkikcpaaT10
namespace Go.Proofs.Ythlmjdkpkikcpaa
open Go.RowKit

theorem rinsert_end {w0 w : World} {F : List HP} {c : Nat} {x : TC} {v v1 b3 : Value} {vs : List Value} {ys : List Int} {A : HP} (hvl : vs.length = x.bs.length) (hl : (ys.length : Int) = x.batch) (hroom : (x.bs.length : Int) < x.room)
    (h : St w0 (HP.arr 27 1 v (x.bs.length + 1) (vs ++ [v1]) :: A :: HP.arr 3 1 v1 ys.length (ys.map (Value.int .i64)) ::
      HP.blk c #[.int .i64 x.batch, .int .i64 x.room, b3, .int .i64 x.low] 66 :: rowsC vs x.bs :: F) w) : St w0 (rcache c (x.ins ys) :: F) (w.setCell ⟨c, 2, none⟩ v) := by
  have h1 : St w0 (HP.blk c #[.int .i64 x.batch, .int .i64 x.room, v, .int .i64 x.low] 66 :: _) _ := (h.front 3).set 2 v
  have e : x.ins ys = ⟨x.batch, x.room, x.low, x.bs ++ [ys]⟩ := by simp [TC.ins, hl, hroom]
  rw [e]
  refine rcache_shut (v := v) (vs := vs ++ [v1]) ?_
  rw [rowsC_snoc _ _ _ _ hvl, List.length_append]
  exact (St.two.2 (h1.pick 5 [4, 3, 0, 1])).pick 3 [1, 2, 0]
set_option maxHeartbeats 2000000 in
theorem rinsert_some (w0 w : World) (F : List HP) (c : Nat) (x : TC) (hx : x.ok) (hs : St w0 (rcache c x :: F) w) (a : Option Addr) (cap : Nat) (ys : List Int)
    (hr : IntsAt w (.slice a ys.length cap) ys) (hl : (ys.length : Int) = x.batch) (hroom : (x.bs.length : Int) < x.room) :
    Calls Try.prog 36 #[.pointer (some ⟨c, 0, none⟩), .slice a ys.length cap] w fun e w' => e = .returned (.tuple #[.bool true, .int .i64 0]) ∧ St w0 (rcache c (x.ins ys) :: F) w' := by
  obtain ⟨x1, x2, x3, x4, x5, x6, x7, x8⟩ := hx
  obtain ⟨a2, cap2, vs, hvl, hs⟩ := rcache_open hs
  obtain ⟨c0, c1, c2, c3⟩ := hs.cells4
  have hb : ((ys.length : Int) != x.batch) = false := by simp [hl]
  have hyl : ys.length ≤ 32 := by omega
  have HL := Lib.hid hl
  clear hl
  obtain ⟨i0, hi, hz0, hz1, hz2⟩ := info_parts info27
  obtain ⟨j0, hj, hy0, hy1, hy2⟩ := info_parts info3
  go_enter Try.func36, Try.ntmps36
  go_wp2_with (go_at_call 35; refine (rmade_true _ _ _ c0 x1).mono ?_; rintro e w' ⟨rfl, rfl⟩)
  go_quiet (fail)
  go_wp2_with fail
  have hs0 : St w0 (HP.arr 3 1 (.slice (some ⟨w.heap.size, 0, none⟩) 0 0) 0 [] :: _) ((w.drewN (nq + 1)).alloc (.cells #[] 3)) := (hs.drewN (nq + 1)).newArr 3 1 0 [] rfl (by decide)
  have hr0 := ((hr.same_heap (w' := w.drewN (nq + 1)) rfl).alloc (.cells #[] 3))
  have c2a := (hs0.front 1).cells4.2.2.1
  go_region_law (first
      | (refine step_append_st rfl _ _ 27 rfl 3 j0 _ 1 8 Try.underlying27 hj hy0 hy1 hy2 rfl _ _ rfl rfl 0 [] (by exact hs0) ys.length (ys.map (Value.int .i64)) (by exact hr0) (oneCell_ints ys) (by unfold maxLen; omega) (by omega) ?_; intro v' w1 hs1 hv3; clear hv3; rw [Nat.zero_add, List.nil_append] at hs1; obtain ⟨a1, p1, rfl⟩ := (HP.arr_reads hs1).form; have c2b := (hs1.front 1).cells4.2.2.1; have hs2 := hs1.oneArr 27 (.slice a1 ys.length p1); have c2c := (hs2.front 2).cells4.2.2.1)
      | (refine step_append_st rfl _ _ 26 rfl 27 i0 _ 1 24 Try.underlying26 hi hz0 hz1 hz2 rfl (.slice a2 x.bs.length cap2) _ rfl rfl x.bs.length vs (by exact hs2.front 3) 1 [.slice a1 ys.length p1] (by exact HP.arr_reads hs2) (by intro u hu; simp at hu; subst hu; rfl) (by unfold maxLen; omega) (by omega) ?_; intro v' w2 hs3 hv3; clear hv3; obtain ⟨a3, p3, rfl⟩ := (HP.arr_reads hs3).form; have f3 := (hs3.front 3).frozen 2; have c3' := (hs3.front 3).cells4.2.2.1))
  all_goals go_wp2
  all_goals go_ret2
  all_goals exact ⟨rfl, rinsert_end hvl HL.out hroom hs3⟩
theorem rinsert_arg (w0 w : World) (F : List HP) (c : Nat) (x : TC) (hx : x.ok) (hs : St w0 (rcache c x :: F) w) (a : Option Addr) (cap : Nat) (n : Nat)
    (hl : ¬ (n : Int) = x.batch) (_hn : (n : Int) ≤ 9223372036854775807) :
    Calls Try.prog 36 #[.pointer (some ⟨c, 0, none⟩), .slice a n cap] w fun e w' => e = .returned (.tuple #[.bool false, .int .i64 1]) ∧ St w0 (rcache c x :: F) w' := by
  have HS := Lib.hid hs
  obtain ⟨x1, x2, x3, x4, x5, x6, x7, x8⟩ := hx
  obtain ⟨a2, cap2, vs, hvl, hs⟩ := rcache_open hs
  obtain ⟨c0, c1, c2, c3⟩ := hs.cells4
  have hb : ((n : Int) != x.batch) = true := by simp [hl]
  clear hl
  go_enter Try.func36, Try.ntmps36
  go_wp2_with (go_at_call 35; refine (rmade_true _ _ _ c0 x1).mono ?_; rintro e w' ⟨rfl, rfl⟩)
  go_ret2
  exact ⟨rfl, HS.out⟩
theorem rinsert_full (w0 w : World) (F : List HP) (c : Nat) (x : TC) (hx : x.ok) (hs : St w0 (rcache c x :: F) w) (a : Option Addr) (cap : Nat) (n : Nat)
    (hl : (n : Int) = x.batch) (hroom : ¬ (x.bs.length : Int) < x.room) :
    Calls Try.prog 36 #[.pointer (some ⟨c, 0, none⟩), .slice a n cap] w fun e w' => e = .returned (.tuple #[.bool false, .int .i64 0]) ∧ St w0 (rcache c x :: F) w' := by
  have HS := Lib.hid hs
  obtain ⟨x1, x2, x3, x4, x5, x6, x7, x8⟩ := hx
  obtain ⟨a2, cap2, vs, hvl, hs⟩ := rcache_open hs
  obtain ⟨c0, c1, c2, c3⟩ := hs.cells4
  have hb : ((n : Int) != x.batch) = false := by simp [hl]
  have hd : decide (x.room ≤ (x.bs.length : Int)) = true := by simp; omega
  clear hl hroom
  go_enter Try.func36, Try.ntmps36
  go_wp2_with (go_at_call 35; refine (rmade_true _ _ _ c0 x1).mono ?_; rintro e w' ⟨rfl, rfl⟩)
  go_quiet (fail)
  go_wp2
  go_ret2
  exact ⟨rfl, HS.out.drewN _⟩

/-- Insert of a cache that was made -/
theorem rinsert_any (w0 w : World) (F : List HP) (c : Nat) (x : TC) (hx : x.ok) (hs : St w0 (rcache c x :: F) w) (a : Option Addr) (cap : Nat) (ys : List Int)
    (hr : IntsAt w (.slice a ys.length cap) ys) (hn : (ys.length : Int) ≤ 9223372036854775807) :
    Calls Try.prog 36 #[.pointer (some ⟨c, 0, none⟩), .slice a ys.length cap] w fun e w' => e = .returned (.tuple #[.bool (x.insB ys), .int .i64 (x.insE ys)]) ∧ St w0 (rcache c (x.ins ys) :: F) w' := by
  by_cases hl : (ys.length : Int) = x.batch
  · by_cases hroom : (x.bs.length : Int) < x.room
    · refine (rinsert_some w0 w F c x hx hs a cap ys hr hl hroom).mono fun e w' h => ?_
      simpa [TC.insB, TC.insE, hl, hroom] using h
    · refine (rinsert_full w0 w F c x hx hs a cap _ hl hroom).mono fun e w' h => ?_
      simpa [TC.insB, TC.insE, TC.ins, hl, hroom] using h
  · refine (rinsert_arg w0 w F c x hx hs a cap _ hl hn).mono fun e w' h => ?_
    simpa [TC.insB, TC.insE, TC.ins, hl] using h

theorem rremove_none (w0 w : World) (F : List HP) (c : Nat) (x : TC) (hx : x.ok) (hs : St w0 (rcache c x :: F) w) (h0 : x.bs = []) :
    Calls Try.prog 37 #[.pointer (some ⟨c, 0, none⟩)] w fun e w' => e = .returned (.tuple #[.slice none 0 0, .int .i64 4]) ∧ St w0 (rcache c x :: F) w' := by
  have HS := Lib.hid hs
  obtain ⟨x1, x2, x3, x4, x5, x6, x7, x8⟩ := hx
  obtain ⟨a2, cap2, vs, hvl, hs⟩ := rcache_open hs
  obtain ⟨c0, c1, c2, c3⟩ := hs.cells4
  have hb : ((x.bs.length : Int) == 0) = true := by simp [h0]
  clear h0
  go_enter Try.func37, Try.ntmps37
  go_wp2_with (go_at_call 35; refine (rmade_true _ _ _ c0 x1).mono ?_; rintro e w' ⟨rfl, rfl⟩)
  go_ret2
  exact ⟨rfl, HS.out⟩

theorem rremove_end {w0 w : World} {F : List HP} {c : Nat} {batch room low m : Int} {bi : List (List Int)} {b1 : List Int} {u v1 : Value} {vi : List Value} {a : Addr} {cap : Nat} (hvi : vi.length = bi.length) (hm : m = min low bi.length) (hcap : bi.length + 1 ≤ cap)
    (h : St w0 (HP.blk c #[.int .i64 batch, .int .i64 room, u, .int .i64 low] 66 :: HP.arr 27 1 (.slice (some a) (bi.length + 1) cap) (bi.length + 1) (vi ++ [v1]) :: rowsC vi bi :: ints v1 b1 :: F) w) :
    St w0 (ints v1 b1 :: rcache c ⟨batch, room, min low bi.length, bi⟩ :: F) ((w.setCell ⟨c, 2, none⟩ (.slice (some a) bi.length cap)).setCell ⟨c, 3, none⟩ (.int .i64 m)) := by
  subst hm
  have h1 : St w0 (HP.blk c #[.int .i64 batch, .int .i64 room, .slice (some a) bi.length cap, .int .i64 (min low bi.length)] 66 :: _) _ := (h.set 2 _).set 3 _
  have h2 := h1.swap.mono (HP.arr_take (k := bi.length) (by omega) hcap)
  rw [show (vi ++ [v1]).take (bi.length * 1) = vi by rw [Nat.mul_one, ← hvi]; exact List.take_left] at h2
  exact (rcache_shut h2.swap).swap
set_option maxHeartbeats 2000000 in
theorem rremove_some (w0 w : World) (F : List HP) (c : Nat) (batch room low : Int) (bi : List (List Int)) (b1 : List Int) (h1 : 1 ≤ batch) (h2 : bi.length ≤ 8) (h4 : low ≤ bi.length + 1) (hs : St w0 (rcache c ⟨batch, room, low, bi ++ [b1]⟩ :: F) w) :
    Calls Try.prog 37 #[.pointer (some ⟨c, 0, none⟩)] w fun e w' => ∃ a cap, e = .returned (.tuple #[.slice a b1.length cap, .int .i64 0]) ∧ St w0 (ints (.slice a b1.length cap) b1 :: rcache c ⟨batch, room, min low bi.length, bi⟩ :: F) w' := by
  obtain ⟨a2, cap2, vs, hvl, hs⟩ := rcache_open hs
  simp only [List.length_append, List.length_cons, List.length_nil, Nat.zero_add] at hvl hs
  obtain ⟨vi, v1, rfl⟩ : ∃ vi v1, vs = vi ++ [v1] := by
    rcases List.eq_nil_or_concat vs with h | ⟨vi, v1, h⟩
    · subst h; simp at hvl
    · exact ⟨vi, v1, by simpa using h⟩
  have hvi : vi.length = bi.length := by simpa using hvl
  clear hvl
  rw [rowsC_snoc _ _ _ _ hvi] at hs
  have hs := (St.two.1 (hs.pick 3 [2, 0, 1])).pick 4 [2, 3, 0, 1]
  obtain ⟨a1, p1, rfl⟩ := (HP.arr_reads (hs.front 3)).form
  obtain ⟨b, off, cap, hv, hcap, hcells⟩ := HP.arr_some (hs.front 1) (by omega)
  cases hv
  have cl := hcells bi.length (.slice a1 b1.length p1) (by rw [List.getElem?_append_right (by omega)]; simp [hvi])
  clear hcells
  obtain ⟨c0, c1, c2, c3⟩ := hs.cells4
  have f3 := hs.frozen 3
  have f2 := hs.frozen 2
  have hb : (((bi.length + 1 : Nat) : Int) == 0) = false := by simp; omega
  have hk0 : (0 : Int) ≤ (bi.length : Int) := Int.natCast_nonneg _
  have hk1 : (bi.length : Int) < ((bi.length + 1 : Nat) : Int) := by omega
  go_enter Try.func37, Try.ntmps37
  go_wp2_with (go_at_call 35; refine (rmade_true _ _ _ c0 h1).mono ?_; rintro e w' ⟨rfl, rfl⟩)
  go_quiet (fail)
  go_wp2_with fail
  have hwr : IntKind.i64.wrap (bi.length : Int) = bi.length := IntWalk.i64_in _ (by omega)
  have hle : (bi.length : Int) ≤ (cap2 : Int) := by omega
  refine wp_region_tail_drew 12 (by kernel_rfl) (by kernel_rfl) ?_
  simp only [List.take_succ_cons, List.take_zero, List.drop_succ_cons, List.drop_zero]
  repeat still_step
  refine wpStill_nil ?_
  clear hwr
  go_wp2_with fail
  refine wp_region_tail_drew 11 (by kernel_rfl) (by kernel_rfl) ?_
  simp only [List.take_succ_cons, List.take_zero, List.drop_succ_cons, List.drop_zero]
  repeat still_step
  refine wpStill_nil ?_
  go_wp2_with fail
  all_goals go_ret2
  all_goals refine ⟨_, _, rfl, (rremove_end hvi ?_ hcap (hs.drewN (nq + 1))).drew⟩
  all_goals omega

/-- how many batches 'first' has taken and left when it comes to the k-th -/
theorem first_in {vs : List Value} {n k P Q : Nat} {u : Value} (hP : P = min n k ∧ Q = k - n) (hu : vs[k]? = some u) (h : k < n) : (P + 1 = min n (k + 1) ∧ Q = k + 1 - n) ∧ (vs.take n).take (k + 1) = (vs.take n).take k ++ [u] ∧ (vs.take (k + 1)).drop n = (vs.take k).drop n := by
  have hk := (List.getElem?_eq_some_iff.1 hu).1
  refine ⟨by omega, ?_, ?_⟩
  · rw [List.take_add_one, List.getElem?_take_of_lt h, hu]
    rfl
  · rw [List.drop_eq_nil_of_le (by rw [List.length_take]; omega), List.drop_eq_nil_of_le (by rw [List.length_take]; omega)]
theorem first_out {vs : List Value} {n k P Q : Nat} {u : Value} (hP : P = min n k ∧ Q = k - n) (hu : vs[k]? = some u) (h : n ≤ k) : (P = min n (k + 1) ∧ Q + 1 = k + 1 - n) ∧ (vs.take n).take (k + 1) = (vs.take n).take k ∧ (vs.take (k + 1)).drop n = (vs.take k).drop n ++ [u] := by
  have hk := (List.getElem?_eq_some_iff.1 hu).1
  refine ⟨by omega, ?_, ?_⟩
  · rw [List.take_take, List.take_take, Nat.min_eq_right (by omega), Nat.min_eq_right (by omega)]
  · rw [List.take_add_one, hu, List.drop_append_of_le_length (by rw [List.length_take]; omega)]
    rfl

theorem rowsC_parts {w0 w : World} {F : List HP} (n : Nat) {vs : List Value} {bs : List (List Int)} (hl : vs.length = bs.length) (h : St w0 (rowsC vs bs :: F) w) : St w0 (rowsC (vs.take n) (bs.take n) :: rowsC (vs.drop n) (bs.drop n) :: F) w :=
  St.two.1 (h.eq (rowsC_split n vs bs hl))

set_option maxHeartbeats 2000000 in
theorem first_any (w0 w : World) (F : List HP) (c : Nat) (x : TC) (hx : x.ok) (n : Nat) (hn : n ≤ x.bs.length) (hs : St w0 (rcache c x :: F) w) :
    Calls Try.prog 45 #[.pointer (some ⟨c, 0, none⟩), .int .i64 n] w fun e w' => ∃ a cap, e = .returned (.slice a n cap) ∧
      St w0 (rows (.slice a n cap) (x.bs.take n) :: rcache c ⟨x.batch, x.room, x.low, x.bs.drop n⟩ :: F) w' := by
  obtain ⟨x1, x2, x3, x4, x5, x6, x7, x8⟩ := hx
  obtain ⟨a2, cap2, vs, hvl, hs⟩ := rcache_open hs
  obtain ⟨i0, hi, hz0, hz1, hz2⟩ := info_parts info27
  have hl8 : x.bs.length ≤ 8 := by omega
  go_enter Try.func45, Try.ntmps45
  go_wp2_with fail
  go_loopw [5, 6, 7] (fun u v i wr => ∃ k : Nat, k ≤ x.bs.length ∧ i = .int .i64 k ∧ ∃ P Q a3 p3 a4 p4, Hid (P = min n k ∧ Q = k - n) ∧ u = .slice a3 P p3 ∧ v = .slice a4 Q p4 ∧
      St w0 (HP.arr 27 1 u P ((vs.take n).take k) :: HP.arr 27 1 v Q ((vs.take k).drop n) :: HP.blk c #[.int .i64 x.batch, .int .i64 x.room, .slice a2 x.bs.length cap2, .int .i64 x.low] 66 ::
        HP.arr 27 1 (.slice a2 x.bs.length cap2) x.bs.length vs :: rowsC vs x.bs :: F) wr) (fun _ _ i _ => x.bs.length - (intOf i).toNat)
  case atStart => exact ⟨0, Nat.zero_le _, rfl, 0, 0, none, 0, none, 0, by unfold Hid; omega, rfl, rfl, by simpa using ((hs.arr_nil 27 1).arr_nil 27 1)⟩
  case round =>
    obtain ⟨k, hk, rfl, P, Q, a3, p3, a4, p4, HPQ, rfl, rfl, hs1⟩ := hrel
    obtain ⟨c0, c1, c2, c3⟩ := (hs1.front 2).cells4
    have hP8 : P ≤ 8 := by have := HPQ.out.1; omega
    have hQ8 : Q ≤ 8 := by have := HPQ.out.2; omega
    by_cases hlt : k < x.bs.length
    · have hrow := HP.arr_reads (hs1.front 3)
      obtain ⟨b0, off, cap', he, hcap, hx⟩ := hrow.lies (by omega)
      obtain ⟨u, hu⟩ : ∃ u, vs[k]? = some u := ⟨vs[k]'(by omega), List.getElem?_eq_getElem _⟩
      have hcell := hx k u hu
      obtain ⟨ak, ck, hvk⟩ : ∃ ak ck, u = .slice ak (x.bs.getD k []).length ck := by
        obtain ⟨b, hb⟩ : ∃ b, x.bs[k]? = some b := ⟨x.bs[k], List.getElem?_eq_getElem hlt⟩
        obtain ⟨ak, ck, hv, _⟩ := rowsC_read hvl (hs1.front 4) k b hb
        rw [hu] at hv
        exact ⟨ak, ck, by rw [Option.some.inj hv, List.getD_eq_getElem?_getD, hb]; rfl⟩
      generalize (x.bs.getD k []).length = lk at hvk
      subst hvk
      injection he with he1 he2 he3
      clear he2 he3 hx hrow
      subst he1
      have HU := Lib.hid hu
      clear hu
      have hnew := hs1.oneArr 27 (.slice ak lk ck)
      obtain ⟨d0, d1, d2, d3⟩ := (hnew.front 3).cells4
      have hcell2 := ((HP.arr_reads (hnew.front 4)).lies (by omega))
      obtain ⟨b1, off1, cap1, he, _, hx⟩ := hcell2
      injection he with he1 he2 he3
      injection he1 with he1
      injection he1 with hb1 ho1
      subst hb1 ho1
      have hcell2 := hx k _ HU.out
      clear he2 he3 hx
      by_cases hin : k < n
      · go_wp2_with (at_builtin; refine wpList_append_st rfl _ _ 26 rfl 27 i0 _ 1 24 Try.underlying26 hi hz0 hz1 hz2 rfl _ _ rfl rfl P ((vs.take n).take k) (by exact hnew.front 1) 1 [.slice ak lk ck] (by exact HP.arr_reads hnew) (by intro u hu; simp at hu; subst hu; rfl) (by unfold maxLen; omega) (by omega) ?_; intro v' w' hs2 hv3; clear hv3; obtain ⟨a5, p5, rfl⟩ := (HP.arr_reads hs2).form)
        go_roundw
        case rel =>
          obtain ⟨h1, h2, h3⟩ := first_in HPQ.out HU.out hin
          refine ⟨k + 1, hlt, by go_num, P + 1, Q, a5, p5, a4, p4, h1, rfl, rfl, ?_⟩
          rw [h2, h3]
          exact hs2.pick 6 [0, 2, 3, 4, 5]
        case measure => simp [intOf]; omega
      · go_wp2_with (at_builtin; refine wpList_append_st rfl _ _ 26 rfl 27 i0 _ 1 24 Try.underlying26 hi hz0 hz1 hz2 rfl _ _ rfl rfl Q ((vs.take k).drop n) (by exact hnew.front 2) 1 [.slice ak lk ck] (by exact HP.arr_reads hnew) (by intro u hu; simp at hu; subst hu; rfl) (by unfold maxLen; omega) (by omega) ?_; intro v' w' hs2 hv3; clear hv3; obtain ⟨a5, p5, rfl⟩ := (HP.arr_reads hs2).form)
        go_roundw
        case rel =>
          obtain ⟨h1, h2, h3⟩ := first_out HPQ.out HU.out (by omega)
          refine ⟨k + 1, hlt, by go_num, P, Q + 1, a3, p3, a5, p5, h1, rfl, rfl, ?_⟩
          rw [h2, h3]
          exact hs2.pick 6 [2, 0, 3, 4, 5]
        case measure => simp [intOf]; omega
    · have HPn : Hid (P = n ∧ Q = x.bs.length - n) := by have := HPQ.out; unfold Hid; omega
      have f2 := (hs1.front 2).frozen 2
      clear HPQ
      go_wp2
      go_ret
      obtain ⟨rfl, rfl⟩ := HPn.out
      refine ⟨_, _, rfl, ?_⟩
      have e2 : (vs.take P).take k = vs.take P := List.take_of_length_le (by rw [List.length_take]; omega)
      have e3 : vs.take k = vs := List.take_of_length_le (by omega)
      rw [e2, e3] at hs1
      have h1 : St w0 (HP.blk c #[.int .i64 x.batch, .int .i64 x.room, .slice a4 (x.bs.length - P) p4, .int .i64 x.low] 66 :: HP.arr 27 1 (.slice a3 P p3) P (vs.take P) :: HP.arr 27 1 (.slice a4 (x.bs.length - P) p4) (x.bs.length - P) (vs.drop P) :: _ :: rowsC vs x.bs :: F) _ := (hs1.front 2).set 2 _
      have h2 := rowsC_parts P hvl (h1.front 4)
      have e1 : (x.bs.take P).length = P := by rw [List.length_take]; omega
      have h3 := rows_shut (bs := x.bs.take P) (by rw [e1]; exact h2.pick 6 [3, 0, 2, 4, 1])
      have h4 := rcache_shut (bs := x.bs.drop P) (by rw [List.length_drop]; exact h3.pick 4 [1, 2, 3, 0])
      exact h4.swap
end Go.Proofs.Ythlmjdkpkikcpaa

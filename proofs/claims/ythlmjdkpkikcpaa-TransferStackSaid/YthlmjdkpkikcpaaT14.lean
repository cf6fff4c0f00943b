/-
  The reference's Clone.
-/
import Derived.Test.YthlmjdkpkikcpaaT13
namespace Go.Proofs.Ythlmjdkpkikcpaa
open Go.RowKit

theorem rclone_end {w0 w : World} {F : List HP} {c2 : Nat} {batch room low : Int} {v v1 b3 : Value} {vs : List Value} {bs : List (List Int)} {ys : List Int} {A : HP} {k : Nat} (hvl : vs.length = k) (hk : bs.length = k)
    (h : St w0 (HP.arr 27 1 v (k + 1) (vs ++ [v1]) :: A :: HP.arr 3 1 v1 ys.length (ys.map (Value.int .i64)) ::
      HP.blk c2 #[.int .i64 batch, .int .i64 room, b3, .int .i64 low] 66 :: rowsC vs bs :: F) w) : St w0 (rcache c2 ⟨batch, room, low, bs ++ [ys]⟩ :: F) (w.setCell ⟨c2, 2, none⟩ v) := by
  subst hk
  have h1 : St w0 (HP.blk c2 #[.int .i64 batch, .int .i64 room, v, .int .i64 low] 66 :: _) _ := (h.front 3).set 2 v
  refine rcache_shut (v := v) (vs := vs ++ [v1]) ?_
  rw [rowsC_snoc _ _ _ _ hvl, List.length_append]
  exact (St.two.2 (h1.pick 5 [4, 3, 0, 1])).pick 3 [1, 2, 0]
set_option maxHeartbeats 4000000 in
theorem rclone_any (w0 w : World) (F : List HP) (c : Nat) (x : TC) (hx : x.ok) (hs : St w0 (rcache c x :: F) w) :
    Calls Try.prog 26 #[.pointer (some ⟨c, 0, none⟩)] w fun e w' => ∃ c2, e = .returned (.pointer (some ⟨c2, 0, none⟩)) ∧ St w0 (rcache c2 x :: rcache c x :: F) w' := by
  obtain ⟨x1, x2, x3, x4, x5, x6, x7, x8⟩ := hx
  obtain ⟨a2, cap2, vs, hvl, hs⟩ := rcache_open hs
  obtain ⟨c0, c1, c2, c3⟩ := hs.cells4
  obtain ⟨i0, hi, hz0, hz1, hz2⟩ := info_parts info27
  obtain ⟨j0, hj, hy0, hy1, hy2⟩ := info_parts info3
  go_enter Try.func26, Try.ntmps26
  go_wp2_with (first | (go_at_call 35; refine (rmade_true _ _ _ c0 x1).mono ?_; rintro e w' ⟨rfl, rfl⟩))
  refine wp_region_tail_drew 13 (by kernel_rfl) (by kernel_rfl) ?_
  simp only [List.take_succ_cons, List.take_zero, List.drop_succ_cons, List.drop_zero]
  repeat still_step
  refine wpStill_nil ?_
  go_wp2_with fail
  have hs1 : St w0 (HP.blk w.heap.size #[.int .i64 x.batch, .int .i64 x.room, .slice none 0 0, .int .i64 x.low] 66 :: _) (w.drew.alloc (.cells #[.int .i64 x.batch, .int .i64 x.room, .slice none 0 0, .int .i64 x.low] 66)) := hs.drew.allocRow #[.int .i64 x.batch, .int .i64 x.room, .slice none 0 0, .int .i64 x.low] 66
  have hs2 := (rcache_shut (bs := []) (vs := []) ((St.emp.2 (hs1.arr_nil 27 1).swap).rot'))
  clear hs1
  go_loopw [4] (fun i wr => ∃ k : Nat, k ≤ x.bs.length ∧ i = .int .i64 k ∧ St w0 (rcache w.heap.size ⟨x.batch, x.room, x.low, x.bs.take k⟩ :: HP.blk c #[.int .i64 x.batch, .int .i64 x.room, .slice a2 x.bs.length cap2, .int .i64 x.low] 66 ::
      HP.arr 27 1 (.slice a2 x.bs.length cap2) x.bs.length vs :: rowsC vs x.bs :: F) wr) (fun i _ => x.bs.length - (intOf i).toNat)
  case atStart => exact ⟨0, Nat.zero_le _, rfl, hs2⟩
  case round =>
    clear c0 c1 c2 c3
    obtain ⟨k, hk, rfl, hsr⟩ := hrel
    obtain ⟨c0, c1, c2, c3⟩ := (hsr.front 1).cells4
    by_cases hlt : k < x.bs.length
    · obtain ⟨b, hb⟩ : ∃ b, x.bs[k]? = some b := ⟨x.bs[k], List.getElem?_eq_getElem hlt⟩
      obtain ⟨b0, off, cp, ak, ck, he, hcell, hib⟩ := (rows_read hvl (hsr.pick 4 [2, 3])).cell hb
      have hbl : (b.length : Int) = x.batch := x8 b (List.mem_of_getElem? hb)
      have hbl2 : b.length ≤ 32 := by omega
      have hsr0 := hsr
      obtain ⟨a3, cap3, us, hul, hsr⟩ := rcache_open hsr
      have htl : (x.bs.take k).length = k := by rw [List.length_take]; omega
      simp only [htl] at hul hsr
      obtain ⟨e0, e1, e2, e3⟩ := hsr.cells4
      injection he with he1 he2 he3
      subst he1
      have HB := Lib.hid hb
      clear hb hbl he2 he3 htl hsr0
      go_wp2_with fail
      have hsN := hsr.newArr 3 1 0 [] rfl (by decide)
      have hs0 := hsN.drew
      have hr0 := (hib.alloc (.cells #[] 3)).drew
      have hk0 : (0 : Int) ≤ (k : Int) := Int.natCast_nonneg _
      have hk1 : (k : Int) < (x.bs.length : Int) := by omega
      have e2a := (hsN.front 1).cells4.2.2.1
      have c2a := (hsN.front 4).cells4.2.2.1
      have hcell2 : (wr.alloc (.cells #[] 3)).cell? ⟨b0, off + k, none⟩ = some (.slice ak b.length ck) := by
        rw [World.cell?_of_block (heap_alloc_old wr _ (World.block_lt_of_cell? wr _ hcell))]
        exact hcell
      go_region_law (first
        | (refine step_append_st rfl _ _ 27 rfl 3 j0 _ 1 8 Try.underlying27 hj hy0 hy1 hy2 rfl _ _ rfl rfl 0 [] (by exact hs0) b.length (b.map (Value.int .i64)) (by exact hr0) (oneCell_ints b) (by unfold maxLen; omega) (by omega) ?_; intro v' w1 hs1 hv3; clear hv3; rw [Nat.zero_add, List.nil_append] at hs1; obtain ⟨a1, p1, rfl⟩ := (HP.arr_reads hs1).form; have e2b := (hs1.front 1).cells4.2.2.1; have hs2 := hs1.oneArr 27 (.slice a1 b.length p1); have e2c := (hs2.front 2).cells4.2.2.1)
        | (refine step_append_st rfl _ _ 26 rfl 27 i0 _ 1 24 Try.underlying26 hi hz0 hz1 hz2 rfl (.slice a3 k cap3) _ rfl rfl k us (by exact hs2.front 3) 1 [.slice a1 b.length p1] (by exact HP.arr_reads hs2) (by intro u hu; simp at hu; subst hu; rfl) (by unfold maxLen; omega) (by omega) ?_; intro v' w2 hs3 hv3; clear hv3; obtain ⟨a5, p5, rfl⟩ := (HP.arr_reads hs3).form; have f3 := (hs3.front 3).frozen 2; have e2d := (hs3.front 3).cells4.2.2.1))
      all_goals go_wp2
      all_goals
        go_roundw
        case rel =>
          refine ⟨k + 1, hlt, by go_num, ?_⟩
          rw [List.take_add_one, HB.out]
          exact rclone_end hul (by rw [List.length_take]; omega) hs3
        case measure => simp [intOf]; omega
    · have e : x.bs.take k = x.bs := List.take_of_length_le (by omega)
      rw [e] at hsr
      have hend := Lib.hid (St.swap (rcache_shut (St.rotl hsr)))
      clear e hsr
      go_wp2_with fail
      go_ret
      exact ⟨_, rfl, hend.out⟩
end Go.Proofs.Ythlmjdkpkikcpaa

/-
  Objects and Clone of a cache of package transfer.
-/
import Derived.Test.YthlmjdkpkikcpaaT5
namespace Go.Proofs.Ythlmjdkpkikcpaa
open Go.RowKit

theorem rowsC_read {w0 w : World} : ∀ {vs : List Value} {bs : List (List Int)} {F : List HP}, vs.length = bs.length → St w0 (rowsC vs bs :: F) w → ∀ (k : Nat) (b : List Int), bs[k]? = some b →
    ∃ a cap, vs[k]? = some (Value.slice a b.length cap) ∧ IntsAt w (.slice a b.length cap) b
  | [], [], _, _, _, k, b, hb => by simp at hb
  | v :: vs, b0 :: bs, F, hl, h, k, b, hb => by
    simp only [rowsC] at h
    have h := St.two.1 h
    cases k with
    | zero =>
      simp only [List.getElem?_cons_zero, Option.some.injEq] at hb ⊢
      subst hb
      have hr := HP.arr_reads h
      obtain ⟨a, cap, rfl⟩ := hr.form
      exact ⟨a, cap, rfl, hr⟩
    | succ k =>
      simp only [List.getElem?_cons_succ] at hb ⊢
      exact rowsC_read (by simpa using hl) h.swap k b hb
theorem rows_read {w0 w : World} {F : List HP} {v : Value} {vs : List Value} {bs : List (List Int)} (hl : vs.length = bs.length) (h : St w0 (HP.arr 27 1 v bs.length vs :: rowsC vs bs :: F) w) : RowsAt w v bs.length vs bs :=
  ⟨HP.arr_reads h, rfl, rowsC_read hl h.swap⟩
theorem sumLen_le {bs : List (List Int)} {n : Nat} (h : ∀ b ∈ bs, b.length ≤ n) : sumLen bs ≤ bs.length * n := by
  induction bs with
  | nil => simp [sumLen]
  | cons b bs ih =>
    have h1 := ih (fun x hx => h x (List.mem_cons_of_mem _ hx))
    have h2 := h b List.mem_cons_self
    have e : sumLen (b :: bs) = b.length + sumLen bs := by simp [sumLen]
    rw [e, List.length_cons, Nat.add_mul]
    omega
theorem TC.ok.sum {x : TC} (hx : x.ok) : sumLen x.bs ≤ 256 := by
  obtain ⟨x1, x2, x3, x4, x5, x6, x7, x8⟩ := hx
  have h := sumLen_le (n := 32) (fun b hb => by have := x8 b hb; omega)
  have : x.bs.length * 32 ≤ 8 * 32 := Nat.mul_le_mul_right _ (by omega)
  omega

theorem objects_any (w0 w : World) (F : List HP) (c : Nat) (x : TC) (hx : x.ok) (hs : St w0 (tcache c x :: F) w) :
    Calls Try.prog 22 #[.pointer (some ⟨c, 0, none⟩)] w fun e w' => ∃ a cap, e = .returned (.slice a (flat x.bs).length cap) ∧ St w0 (ints (.slice a (flat x.bs).length cap) (flat x.bs) :: tcache c x :: F) w' := by
  have hsum := hx.sum
  obtain ⟨x1, x2, x3, x4, x5, x6, x7, x8⟩ := hx
  obtain ⟨a2, cap2, vs, hvl, hs⟩ := tcache_open hs
  obtain ⟨c0, c1, c2, c3⟩ := hs.cells4
  have H := Lib.hid (concat_any w0 w _ a2 x.bs.length cap2 vs x.bs hs (fun w' h => rows_read hvl h.drop) (by omega) (by omega))
  go_enter Try.func22, Try.ntmps22
  go_wp2_with (first | (go_at_call 29; refine (made_true _ _ _ c0 x1).mono ?_; rintro e w' ⟨rfl, rfl⟩))
  refine H.out.mono ?_
  rintro e w1 ⟨a1, p1, rfl, hs1⟩
  go_wp2
  go_ret
  exact ⟨_, _, rfl, (tcache_shut hs1.rotl).swap⟩

/-- behind Clone's append and store -/
theorem clone_end {w0 w : World} {F : List HP} {c2 : Nat} {batch room low : Int} {v v1 b3 : Value} {vs : List Value} {bs : List (List Int)} {ys : List Int} {A : HP} {k : Nat} (hvl : vs.length = k) (hk : bs.length = k)
    (h : St w0 (HP.arr 27 1 v (k + 1) (vs ++ [v1]) :: A :: HP.arr 3 1 v1 ys.length (ys.map (Value.int .i64)) ::
      HP.blk c2 #[.int .i64 batch, .int .i64 room, .int .i64 low, b3] 56 :: rowsC vs bs :: F) w) : St w0 (tcache c2 ⟨batch, room, low, bs ++ [ys]⟩ :: F) (w.setCell ⟨c2, 3, none⟩ v) := by
  subst hk
  have h1 : St w0 (HP.blk c2 #[.int .i64 batch, .int .i64 room, .int .i64 low, v] 56 :: _) _ := (h.front 3).set 3 v
  refine tcache_shut (v := v) (vs := vs ++ [v1]) ?_
  rw [rowsC_snoc _ _ _ _ hvl, List.length_append]
  exact (St.two.2 (h1.pick 5 [4, 3, 0, 1])).pick 3 [1, 2, 0]
set_option maxHeartbeats 1000000 in
theorem tclone_any (w0 w : World) (F : List HP) (c : Nat) (x : TC) (hx : x.ok) (hs : St w0 (tcache c x :: F) w) :
    Calls Try.prog 25 #[.pointer (some ⟨c, 0, none⟩)] w fun e w' => ∃ c2, e = .returned (.pointer (some ⟨c2, 0, none⟩)) ∧ St w0 (tcache c2 x :: tcache c x :: F) w' := by
  obtain ⟨x1, x2, x3, x4, x5, x6, x7, x8⟩ := hx
  obtain ⟨a2, cap2, vs, hvl, hs⟩ := tcache_open hs
  obtain ⟨c0, c1, c2, c3⟩ := hs.cells4
  obtain ⟨i0, hi, hz0, hz1, hz2⟩ := info_parts info27
  have hs1 := hs.allocRow #[.int .i64 x.batch, .int .i64 x.room, .int .i64 x.low, .slice none 0 0] 56
  obtain ⟨d0, d1, d2, d3⟩ := (hs1.front 1).cells4
  have hs2 := (tcache_shut (bs := []) (vs := []) ((St.emp.2 (hs1.arr_nil 27 1).swap).rot'))
  have hlt0 := (hs.lt)
  go_enter Try.func25, Try.ntmps25
  go_wp2_with (first | (go_at_call 29; refine (made_true _ _ _ c0 x1).mono ?_; rintro e w' ⟨rfl, rfl⟩))
  go_loopw [18] (fun i wr => ∃ k : Nat, k ≤ x.bs.length ∧ i = .int .i64 k ∧ St w0 (tcache w.heap.size ⟨x.batch, x.room, x.low, x.bs.take k⟩ :: HP.blk c #[.int .i64 x.batch, .int .i64 x.room, .int .i64 x.low, .slice a2 x.bs.length cap2] 56 ::
      HP.arr 27 1 (.slice a2 x.bs.length cap2) x.bs.length vs :: rowsC vs x.bs :: F) wr) (fun i _ => x.bs.length - (intOf i).toNat)
  case atStart => exact ⟨0, Nat.zero_le _, rfl, hs2⟩
  case round =>
    obtain ⟨k, hk, rfl, hsr⟩ := hrel
    by_cases hlt : k < x.bs.length
    · obtain ⟨b, hb⟩ : ∃ b, x.bs[k]? = some b := ⟨x.bs[k], List.getElem?_eq_getElem hlt⟩
      have hrow := rows_read hvl (hsr.pick 4 [2, 3])
      obtain ⟨ak, ck, hv, hib⟩ := hrow.2.2 k b hb
      obtain ⟨b0, off, cap', he, hcap, hx⟩ := hrow.1.lies (by omega)
      have hcell := hx k _ hv
      have hbl : (b.length : Int) = x.batch := x8 b (List.mem_of_getElem? hb)
      have hbl2 : b.length ≤ 32 := by omega
      obtain ⟨a3, cap3, us, hul, hsr⟩ := tcache_open hsr
      have htl : (x.bs.take k).length = k := by rw [List.length_take]; omega
      simp only [htl] at hul hsr
      obtain ⟨e0, e1, e2, e3⟩ := hsr.cells4
      injection he with he1 he2 he3
      subst he1
      have HB := Lib.hid hb
      clear hb hrow hx hv hbl he2 he3 htl
      go_wp2_with fail
      go_region_law (first
          | (refine step_append_st rfl _ _ 26 rfl 27 i0 _ 1 24 Try.underlying26 hi hz0 hz1 hz2 rfl (.slice a3 k cap3) _ rfl rfl k us (by exact hs3.front 3) 1 [.slice a1 b.length p1] (by exact HP.arr_reads hs3) (by intro u hu; simp at hu; subst hu; rfl) (by unfold maxLen; omega) (by omega) ?_; intro v' w2 hs4 hv3; clear hv3; obtain ⟨a4, p4, rfl⟩ := (HP.arr_reads hs4).form; have f3 := (hs4.front 3).frozen 3; have c3' := (hs4.front 3).cells4.2.2.2)
          | (go_simp; go_at_call 30; go_must (refine (clone_any w0 _ _ _ _ _ _ (by exact hsr.drew) (by exact hib.same_heap rfl) (oneCell_ints b) (by omega)).mono ?_); rintro e w1 ⟨a1, p1, rfl, hs2⟩; have hs3 := hs2.oneArr 27 (.slice a1 b.length p1); have c3' := (hs2.front 1).cells4.2.2.2; have c3b := (hs3.front 2).cells4.2.2.2))
      all_goals go_wp2
      all_goals go_roundw
      case rel | rel | rel =>
        refine ⟨k + 1, hlt, by go_num, ?_⟩
        rw [List.take_add_one, HB.out]
        exact clone_end hul (by rw [List.length_take]; omega) hs4
      case measure | measure | measure => simp [intOf]; omega
    · have e : x.bs.take k = x.bs := List.take_of_length_le (by omega)
      rw [e] at hsr
      have hend := Lib.hid (St.swap (tcache_shut (St.rotl hsr)))
      clear e hsr
      go_wp2_with fail
      go_ret
      exact ⟨_, rfl, hend.out⟩
end Go.Proofs.Ythlmjdkpkikcpaa

/-
  The reference's add.
-/
import Derived.Test.YtcihbmifogfdpaaGreatDoorQD
import Derived.Test.YtcihbmifogfdpaaGreatDoorTC
namespace Go.Proofs.YtcihbmifogfdpaaGreatDoor
open Go.RowKit

theorem HP.arr_set1 {w0 w : World} {F : List HP} {t : TypeId} {sz n b off cap : Nat} {xs : List Value} (i : Nat) (u : Value) (hi : i < n * sz)
    (h : St w0 (HP.arr t sz (.slice (some ⟨b, off, none⟩) n cap) n xs :: F) w) : St w0 (HP.arr t sz (.slice (some ⟨b, off, none⟩) n cap) n (xs.set i u) :: F) (w.setCell ⟨b, off + i, none⟩ u) ∧ w.frozen? ⟨b, off + i, none⟩ = false := by
  obtain ⟨hb, m, ⟨m1, m2, ap, e, ⟨hl, ⟨hv, h0, _⟩ | ⟨b1, off1, cap1, c, hv, hc, hm, hs, hx, hme⟩⟩, h2⟩, hh⟩ := h
  · cases hv
  · cases hv
    have h3 : St w0 (HP.blk b c t :: F) w := ⟨hb, m, ⟨m1, m2, ap, e, hme, h2⟩, hh⟩
    have hcs : n * sz ≤ cap * sz := Nat.mul_le_mul_right _ hc
    refine ⟨(h3.set (off + i) u).mono (HP.arr_of_blk (by rw [List.length_set]; exact hl) hc hm (by simp; exact hs) fun j x hj => ?_), h3.frozen _⟩
    rw [Array.getElem?_setIfInBounds]
    by_cases hij : i = j
    · subst hij
      rw [List.getElem?_set_self (by omega)] at hj
      rw [if_pos rfl, if_pos (by omega)]
      exact hj
    · rw [List.getElem?_set_ne hij] at hj
      rw [if_neg (by omega)]
      exact hx j x hj


structure Rw.sm (r : Rw) : Prop where
  a : -2305843009213693952 ≤ r.a ∧ r.a ≤ 2305843009213693952
  b : -2305843009213693952 ≤ r.b ∧ r.b ≤ 2305843009213693952
  c : -2305843009213693952 ≤ r.c ∧ r.c ≤ 2305843009213693952
  d : -2305843009213693952 ≤ r.d ∧ r.d ≤ 2305843009213693952
theorem rowsC_app (l m : List Rw) : rowsC (l ++ m) = rowsC l ++ rowsC m := by simp [rowsC]
theorem rowsC_take : ∀ (l : List Rw) (k : Nat), rowsC (l.take k) = (rowsC l).take (k * 5)
  | [], k => by simp [rowsC]
  | r :: l, 0 => by simp [rowsC]
  | r :: l, k + 1 => by
    have := rowsC_take l k
    rw [show (k + 1) * 5 = 5 + k * 5 by omega]
    simp only [rowsC, List.take_succ_cons, List.flatMap_cons] at *
    rw [this, List.take_append]
    have e : r.cells.length = 5 := rfl
    rw [e, Nat.add_sub_cancel_left, List.take_of_length_le (l := r.cells) (by rw [e]; omega)]
theorem rowsC_drop : ∀ (l : List Rw) (k : Nat), rowsC (l.drop k) = (rowsC l).drop (k * 5)
  | [], k => by simp [rowsC]
  | r :: l, 0 => by simp [rowsC]
  | r :: l, k + 1 => by
    have := rowsC_drop l k
    rw [show (k + 1) * 5 = 5 + k * 5 by omega]
    simp only [rowsC, List.drop_succ_cons, List.flatMap_cons] at *
    rw [this, ← List.drop_drop]
    congr 1
theorem rowsC_one (l : List Rw) : ∀ u ∈ rowsC l, u.oneCell' = true := by
  intro u hu
  simp only [rowsC, List.mem_flatMap] at hu
  obtain ⟨r, _, hu⟩ := hu
  simp [Rw.cells] at hu
  rcases hu with rfl | rfl | rfl | rfl | rfl <;> rfl
theorem rows_take {w : World} {b o n cap k : Nat} {l : List Rw} (h : Reads w 5 (.slice (some ⟨b, o, none⟩) n cap) n (rowsC l)) (hk : k ≤ n) : Reads w 5 (.slice (some ⟨b, o, none⟩) k cap) k (rowsC (l.take k)) := by
  have hl := h.1
  rw [rowsC_take]
  refine ⟨by rw [List.length_take, hl]; omega, .inr ?_⟩
  rcases h.2 with ⟨h1, _⟩ | ⟨b1, o1, sp, c1, hv, hn, hs, hc⟩
  · cases h1
  · injection hv with e1 e2 e3
    cases e1
    subst e3
    refine ⟨b, o, none, cap, rfl, by omega, .inl rfl, fun i x hx => hc i x ?_⟩
    rw [List.getElem?_take] at hx
    split at hx
    · exact hx
    · cases hx
theorem rows_from {w : World} {b o n cap k : Nat} {l : List Rw} (h : Reads w 5 (.slice (some ⟨b, o, none⟩) n cap) n (rowsC l)) (hk : k ≤ n) : Reads w 5 (.slice (if cap = k then some ⟨b, o, none⟩ else some ⟨b, o + k * 5, none⟩) (n - k) (cap - k)) (n - k) (rowsC (l.drop k)) := by
  have hl := h.1
  rw [rowsC_drop]
  refine ⟨by rw [List.length_drop, hl]; omega, .inr ?_⟩
  rcases h.2 with ⟨h1, _⟩ | ⟨b1, o1, sp, c1, hv, hn, hs, hc⟩
  · cases h1
  · injection hv with e1 e2 e3
    cases e1
    subst e3
    split
    · rename_i e
      subst e
      refine ⟨b, o, none, cap - cap, rfl, by omega, .inl rfl, fun i x hx => ?_⟩
      rw [List.getElem?_drop] at hx
      have := (List.getElem?_eq_some_iff.1 hx).1
      omega
    · refine ⟨b, o + k * 5, none, cap - k, rfl, by omega, .inl rfl, fun i x hx => ?_⟩
      rw [List.getElem?_drop] at hx
      have := hc _ x hx
      rwa [← Nat.add_assoc] at this


theorem rowsC_set : ∀ (l : List Rw) (k : Nat) (x y : Rw) (j : Nat) (u : Value), l[k]? = some x → j < 5 → y.cells = x.cells.set j u → (rowsC l).set (k * 5 + j) u = rowsC (l.set k y)
  | [], k, x, y, j, u, h, _, _ => by simp at h
  | z :: l, 0, x, y, j, u, h, hj, he => by
    simp at h; subst h
    have e : z.cells.length = 5 := rfl
    simp only [rowsC, List.flatMap_cons, List.set_cons_zero]
    rw [List.set_append_left _ _ (by rw [e]; omega), he]
    congr 2
    omega
  | z :: l, k + 1, x, y, j, u, h, hj, he => by
    have := rowsC_set l k x y j u (by simpa using h) hj he
    have e : z.cells.length = 5 := rfl
    simp only [rowsC, List.flatMap_cons, List.set_cons_succ] at *
    rw [List.set_append_right _ _ (by rw [e]; omega), e, show (k + 1) * 5 + j - 5 = k * 5 + j by omega, this]

set_option maxRecDepth 10000 in
set_option maxHeartbeats 4000000 in
theorem radd_some (w : World) (b o cap : Nat) (l : List Rw) (r : Rw) (hl : l.length ≤ 1000000) (hcap : l.length ≤ cap) (hr : RowsAt w (.slice (some ⟨b, o, none⟩) l.length cap) l) (hs : ∀ x ∈ l, x.sm) (hsr : r.sm) :
    Calls Tryz.prog 72 #[.slice (some ⟨b, o, none⟩) l.length cap, r.val] w fun e w' => ∃ v, e = .returned v ∧ St w [HP.arr 47 5 v (addR r l).length (rowsC (addR r l))] w' := by
  obtain ⟨i0, hi0, hz0, hz1, hz2⟩ := info_row
  have HI := Lib.hid hi0; have Z0 := Lib.hid hz0; have Z1 := Lib.hid hz1; have Z2 := Lib.hid hz2
  clear hi0 hz0 hz1 hz2
  have HR := Lib.hid hr
  have HSM := Lib.hid hs
  have HSR := Lib.hid hsr
  obtain ⟨rs, ra, rb, rc, rd⟩ := r
  have H0 : Hid (St w [HP.blk w.heap.size #[.string rs, .int .i64 ra, .int .i64 rb, .int .i64 rc, .int .i64 rd] 47] (w.alloc (.cells #[.string rs, .int .i64 ra, .int .i64 rb, .int .i64 rc, .int .i64 rd] 47))) := Lib.hid ((St.start w).allocRow _ _)
  clear hr hs hsr
  simp only [Rw.val]
  have hcz : (l.length : Int) ≤ (cap : Int) := by omega
  go_enter Tryz.func72, Tryz.ntmps72
  go_wp2_with fail
  go_loopw [5] (fun i wr => ∃ k : Nat, k ≤ l.length ∧ i = .int .i64 k ∧ Hid (∀ j x, j < k → l[j]? = some x → ltB x.site rs = true) ∧ Hid (St w [HP.blk w.heap.size #[.string rs, .int .i64 ra, .int .i64 rb, .int .i64 rc, .int .i64 rd] 47] wr)) (fun i _ => l.length - (intOf i).toNat)
  case atStart => exact ⟨0, Nat.zero_le _, rfl, Lib.hid (fun j x hj => by omega), H0⟩
  case round =>
    clear H0
    obtain ⟨k, hk, rfl, HA, HS⟩ := hrel
    obtain ⟨r0, r1, r2, r3, r4⟩ := St.cells5 HS.out
    have ik0 : (0 : Int) ≤ (k : Int) := by omega
    have ikc : (k : Int) ≤ (cap : Int) := by omega
    have ikl : (k : Int) ≤ (l.length : Int) := by omega
    have kc : k ≤ cap := by omega
    by_cases hlt : k < l.length
    · obtain ⟨x, hxk⟩ : ∃ x, l[k]? = some x := ⟨l[k], List.getElem?_eq_getElem hlt⟩
      have ik1 : (k : Int) < (l.length : Int) := by omega
      obtain ⟨xb, xo, xc, e1, x0, x1, x2, x3, x4⟩ := RowsAt.at (Reads.grow HR.out HS.out.below) hxk
      injection e1 with e1 e11 e12
      injection e1 with e1
      injection e1 with e1 e13
      subst e1 e12 e13
      clear e11
      have HX := Lib.hid hxk
      have HD : Hid (l.drop k = x :: l.drop (k + 1)) := Lib.hid (by
        obtain ⟨h2, h3⟩ := List.getElem?_eq_some_iff.1 hxk
        rw [List.drop_eq_getElem_cons h2, h3])
      have hsx := HSM.out x (List.mem_of_getElem? hxk)
      have HAT := Lib.hid (addR_at (⟨rs, ra, rb, rc, rd⟩ : Rw) l k hk HA.out)
      clear hxk
      obtain ⟨xs, xa, xb', xc', xd⟩ := x
      simp only at x0 x1 x2 x3 x4
      by_cases hb : ltB xs rs = true
      · have HB := Lib.hid hb
        unfold ltB at hb
        go_wp2_with fail
        go_quiet (fail)
        go_wp2_with fail
        go_roundw
        case rel => exact ⟨k + 1, hlt, by go_num, Lib.hid (fun j x hj hjx => by
          rcases Nat.lt_succ_iff_lt_or_eq.1 hj with h | h
          · exact HA.out j x h hjx
          · subst h
            rw [HX.out] at hjx
            cases hjx
            exact HB.out), Lib.hid (HS.out.drewN _)⟩
        case measure => simp [intOf]; omega
      · rw [Bool.not_eq_true] at hb
        have HB := Lib.hid hb
        unfold ltB at hb
        by_cases hq : (xs.toList == rs.toList) = true
        · have HQ := Lib.hid hq
          go_wp2_with fail
          go_quiet (fail)
          obtain ⟨n1, hn1⟩ : ∃ n1, n1 = nq := ⟨nq, rfl⟩; subst hn1
          go_wp2_with fail
          go_quiet (fail)
          have HN := Lib.hid ((HS.out.drewN (n1 + nq)).newArr 47 5 0 [] rfl (by decide))
          clear r0 r1 r2 r3 r4 x0 x1 x2 x3 x4
          go_wp2_with (at_builtin; refine wpList_append_st rfl _ _ 22 rfl 47 i0 _ 5 48 Tryz.underlying22 HI.out Z0.out Z1.out Z2.out rfl _ _ rfl rfl 0 [] (by exact HN.out) l.length (rowsC l) (by exact (Reads.grow HR.out HN.out.below)) (rowsC_one _) (by unfold maxLen; omega) (by omega) ?_; intro v' w7 hs2 hv2; clear hv2; obtain ⟨a7, p7, rfl⟩ := (HP.arr_reads hs2).form; have H7 := Lib.hid hs2; clear hs2)
          have H8 : Hid (St w (HP.arr 47 5 (.slice a7 l.length p7) l.length (rowsC l) :: [HP.blk w.heap.size #[.string rs, .int .i64 ra, .int .i64 rb, .int .i64 rc, .int .i64 rd] 47]) w7) := Lib.hid (by simpa using H7.out)
          clear H7 HN
          rcases HP.arr_form H8.out with ⟨_, hz⟩ | ⟨g, go, gc, ev, hgc⟩
          · omega
          cases ev
          have ml : k < (l.set k ⟨xs, xa, xb', xc', xd⟩).length := by simp; exact hlt
          have hsr := HSR.out
          have s1 : IntKind.i64.wrap (xa + ra) = xa + ra := IntWalk.i64_in _ (by have := hsx.a; have := hsr.a; simp only at *; omega)
          have s2 : IntKind.i64.wrap (xb' + rb) = xb' + rb := IntWalk.i64_in _ (by have := hsx.b; have := hsr.b; simp only at *; omega)
          have s3 : IntKind.i64.wrap (xc' + rc) = xc' + rc := IntWalk.i64_in _ (by have := hsx.c; have := hsr.c; simp only at *; omega)
          have s4 : IntKind.i64.wrap (xd + rd) = xd + rd := IntWalk.i64_in _ (by have := hsx.d; have := hsr.d; simp only at *; omega)
          obtain ⟨m0, hm0⟩ : ∃ m0 : List Rw, m0 = l := ⟨_, rfl⟩
          have HM0 := Lib.hid hm0
          have HX0 : Hid (m0[k]? = some ⟨xs, xa, xb', xc', xd⟩) := Lib.hid (hm0 ▸ HX.out)
          have G0 : Hid (St w (HP.arr 47 5 (.slice (some ⟨g, go, none⟩) l.length p7) l.length (rowsC m0) :: [HP.blk w.heap.size #[.string rs, .int .i64 ra, .int .i64 rb, .int .i64 rc, .int .i64 rd] 47]) w7) := Lib.hid (hm0 ▸ H8.out)
          have L0 : Hid (m0.length = l.length) := Lib.hid (hm0 ▸ rfl)
          clear hm0 H8 hsr hsx
          generalize w7 = W0 at *
          obtain ⟨r0, r1, r2, r3, r4⟩ := St.cells5 (G0.out.front 1)
          obtain ⟨_, _, _, ee, y0, y1, y2, y3, y4⟩ := RowsAt.at (l := m0) (by unfold RowsAt; rw [L0.out]; exact HP.arr_reads G0.out) HX0.out
          rw [L0.out] at ee
          cases ee
          try simp only at y0 y1 y2 y3 y4
          have st1 := HP.arr_set1 (k * 5 + 1) (.int .i64 (xa + ra)) (by omega) G0.out
          rw [rowsC_set m0 k _ ⟨xs, (xa + ra), xb', xc', xd⟩ 1 _ HX0.out (by decide) rfl, ← Nat.add_assoc] at st1
          obtain ⟨sa1, fz1⟩ := st1
          have G1h := Lib.hid sa1.drew
          have HX1 : Hid ((m0.set k ⟨xs, (xa + ra), xb', xc', xd⟩)[k]? = some ⟨xs, (xa + ra), xb', xc', xd⟩) := Lib.hid (List.getElem?_set_self (by rw [L0.out]; exact hlt))
          have L1 : Hid ((m0.set k ⟨xs, (xa + ra), xb', xc', xd⟩).length = l.length) := Lib.hid (by rw [List.length_set]; exact L0.out)
          clear sa1
          refine wp_region_tail_drew 10 (by kernel_rfl) (by kernel_rfl) ?_
          simp only [List.take_succ_cons, List.take_zero, List.drop_succ_cons, List.drop_zero]
          repeat still_step
          refine wpStill_nil ?_
          go_wp2_with fail
          clear r0 r1 r2 r3 r4 y0 y1 y2 y3 y4 fz1
          have G1 := G1h
          clear G1h
          generalize hW1 : (W0.setCell _ _).drew = W1 at *
          generalize hm1 : m0.set k _ = m1 at *
          have HM1 := Lib.hid hm1
          clear hW1 hm1
          obtain ⟨r0, r1, r2, r3, r4⟩ := St.cells5 (G1.out.front 1)
          obtain ⟨_, _, _, ee, y0, y1, y2, y3, y4⟩ := RowsAt.at (l := m1) (by unfold RowsAt; rw [L1.out]; exact HP.arr_reads G1.out) HX1.out
          rw [L1.out] at ee
          cases ee
          try simp only at y0 y1 y2 y3 y4
          have st2 := HP.arr_set1 (k * 5 + 2) (.int .i64 (xb' + rb)) (by omega) G1.out
          rw [rowsC_set m1 k _ ⟨xs, (xa + ra), (xb' + rb), xc', xd⟩ 2 _ HX1.out (by decide) rfl, ← Nat.add_assoc] at st2
          obtain ⟨sa2, fz2⟩ := st2
          have G2h := Lib.hid sa2.drew
          have HX2 : Hid ((m1.set k ⟨xs, (xa + ra), (xb' + rb), xc', xd⟩)[k]? = some ⟨xs, (xa + ra), (xb' + rb), xc', xd⟩) := Lib.hid (List.getElem?_set_self (by rw [L1.out]; exact hlt))
          have L2 : Hid ((m1.set k ⟨xs, (xa + ra), (xb' + rb), xc', xd⟩).length = l.length) := Lib.hid (by rw [List.length_set]; exact L1.out)
          clear sa2
          refine wp_region_tail_drew 10 (by kernel_rfl) (by kernel_rfl) ?_
          simp only [List.take_succ_cons, List.take_zero, List.drop_succ_cons, List.drop_zero]
          repeat still_step
          refine wpStill_nil ?_
          go_wp2_with fail
          clear r0 r1 r2 r3 r4 y0 y1 y2 y3 y4 fz2
          have G2 := G2h
          clear G2h
          generalize hW2 : (W1.setCell _ _).drew = W2 at *
          generalize hm2 : m1.set k _ = m2 at *
          have HM2 := Lib.hid hm2
          clear hW2 hm2
          obtain ⟨r0, r1, r2, r3, r4⟩ := St.cells5 (G2.out.front 1)
          obtain ⟨_, _, _, ee, y0, y1, y2, y3, y4⟩ := RowsAt.at (l := m2) (by unfold RowsAt; rw [L2.out]; exact HP.arr_reads G2.out) HX2.out
          rw [L2.out] at ee
          cases ee
          try simp only at y0 y1 y2 y3 y4
          have st3 := HP.arr_set1 (k * 5 + 3) (.int .i64 (xc' + rc)) (by omega) G2.out
          rw [rowsC_set m2 k _ ⟨xs, (xa + ra), (xb' + rb), (xc' + rc), xd⟩ 3 _ HX2.out (by decide) rfl, ← Nat.add_assoc] at st3
          obtain ⟨sa3, fz3⟩ := st3
          have G3h := Lib.hid sa3.drew
          have HX3 : Hid ((m2.set k ⟨xs, (xa + ra), (xb' + rb), (xc' + rc), xd⟩)[k]? = some ⟨xs, (xa + ra), (xb' + rb), (xc' + rc), xd⟩) := Lib.hid (List.getElem?_set_self (by rw [L2.out]; exact hlt))
          have L3 : Hid ((m2.set k ⟨xs, (xa + ra), (xb' + rb), (xc' + rc), xd⟩).length = l.length) := Lib.hid (by rw [List.length_set]; exact L2.out)
          clear sa3
          refine wp_region_tail_drew 10 (by kernel_rfl) (by kernel_rfl) ?_
          simp only [List.take_succ_cons, List.take_zero, List.drop_succ_cons, List.drop_zero]
          repeat still_step
          refine wpStill_nil ?_
          go_wp2_with fail
          clear r0 r1 r2 r3 r4 y0 y1 y2 y3 y4 fz3
          have G3 := G3h
          clear G3h
          generalize hW3 : (W2.setCell _ _).drew = W3 at *
          generalize hm3 : m2.set k _ = m3 at *
          have HM3 := Lib.hid hm3
          clear hW3 hm3
          obtain ⟨r0, r1, r2, r3, r4⟩ := St.cells5 (G3.out.front 1)
          obtain ⟨_, _, _, ee, y0, y1, y2, y3, y4⟩ := RowsAt.at (l := m3) (by unfold RowsAt; rw [L3.out]; exact HP.arr_reads G3.out) HX3.out
          rw [L3.out] at ee
          cases ee
          try simp only at y0 y1 y2 y3 y4
          have st4 := HP.arr_set1 (k * 5 + 4) (.int .i64 (xd + rd)) (by omega) G3.out
          rw [rowsC_set m3 k _ ⟨xs, (xa + ra), (xb' + rb), (xc' + rc), (xd + rd)⟩ 4 _ HX3.out (by decide) rfl, ← Nat.add_assoc] at st4
          obtain ⟨sa4, fz4⟩ := st4
          have G4h := Lib.hid sa4.drew
          have HX4 : Hid ((m3.set k ⟨xs, (xa + ra), (xb' + rb), (xc' + rc), (xd + rd)⟩)[k]? = some ⟨xs, (xa + ra), (xb' + rb), (xc' + rc), (xd + rd)⟩) := Lib.hid (List.getElem?_set_self (by rw [L3.out]; exact hlt))
          have L4 : Hid ((m3.set k ⟨xs, (xa + ra), (xb' + rb), (xc' + rc), (xd + rd)⟩).length = l.length) := Lib.hid (by rw [List.length_set]; exact L3.out)
          clear sa4
          refine wp_region_tail_drew 10 (by kernel_rfl) (by kernel_rfl) ?_
          simp only [List.take_succ_cons, List.take_zero, List.drop_succ_cons, List.drop_zero]
          repeat still_step
          refine wpStill_nil ?_
          go_wp2_with fail
          clear r0 r1 r2 r3 r4 y0 y1 y2 y3 y4 fz4
          have G4 := G4h
          clear G4h
          generalize hW4 : (W3.setCell _ _).drew = W4 at *
          generalize hm4 : m3.set k _ = m4 at *
          have HM4 := Lib.hid hm4
          clear hW4 hm4
          go_ret
          refine ⟨_, rfl, ?_⟩
          have e1 : addR (⟨rs, ra, rb, rc, rd⟩ : Rw) l = m4 := by
            rw [HAT.out, HD.out, addR, if_neg (by rw [HB.out]; decide), if_pos HQ.out]
            rw [← HM4.out, ← HM3.out, ← HM2.out, ← HM1.out, HM0.out]
            simp only [List.set_set]
            rw [List.set_eq_take_append_cons_drop, if_pos hlt]
            rfl
          rw [e1, L4.out]
          have h := G4.out.pick 2 [0]
          simpa using h
        · rw [Bool.not_eq_true] at hq
          have HQ := Lib.hid hq
          go_wp2_with fail
          go_quiet (fail)
          obtain ⟨n1, hn1⟩ : ∃ n1, n1 = nq := ⟨nq, rfl⟩; subst hn1
          go_wp2_with fail
          go_quiet (fail)
          have HN := Lib.hid ((HS.out.drewN (n1 + nq)).newArr 47 5 0 [] rfl (by decide))
          have RT := Lib.hid (rows_take (Reads.grow HR.out HN.out.below) hk)
          clear r0 r1 r2 r3 r4 x0 x1 x2 x3 x4
          go_wp2_with (first
            | (at_builtin; refine wpList_append_st rfl _ _ 22 rfl 47 i0 _ 5 48 Tryz.underlying22 HI.out Z0.out Z1.out Z2.out rfl _ _ rfl rfl 0 [] (by exact HN.out) k (rowsC (l.take k)) (by exact RT.out) (rowsC_one _) (by unfold maxLen; omega) (by omega) ?_; intro v' w7 hs2 hv2; clear hv2; obtain ⟨a7, p7, rfl⟩ := (HP.arr_reads hs2).form; have H7 := Lib.hid hs2; clear hs2; have H8 : Hid (St w (HP.arr 47 5 (.slice a7 k p7) k (rowsC (l.take k)) :: [HP.blk w.heap.size #[.string rs, .int .i64 ra, .int .i64 rb, .int .i64 rc, .int .i64 rd] 47]) w7) := Lib.hid (by simpa using H7.out); obtain ⟨q0, q1, q2, q3, q4⟩ := St.cells5 (H8.out.front 1); have H9 := Lib.hid (H8.out.newArr 47 5 1 [.string rs, .int .i64 ra, .int .i64 rb, .int .i64 rc, .int .i64 rd] rfl (by decide)); clear H7 HN)
            | (at_builtin; refine wpList_append_st rfl _ _ 22 rfl 47 i0 _ 5 48 Tryz.underlying22 HI.out Z0.out Z1.out Z2.out rfl _ _ rfl rfl k (rowsC (l.take k)) (by exact H9.out.swap) 1 [.string rs, .int .i64 ra, .int .i64 rb, .int .i64 rc, .int .i64 rd] (by exact (HP.arr_reads H9.out)) (by intro u hu; simp at hu; rcases hu with rfl | rfl | rfl | rfl | rfl <;> rfl) (by unfold maxLen; omega) (by omega) ?_; intro v' w10 hs2 hv2; clear hv2; obtain ⟨a10, p10, rfl⟩ := (HP.arr_reads hs2).form; have H10 := Lib.hid hs2; clear hs2; have rf := rows_from (Reads.grow HR.out H10.out.below) hk; rw [if_neg (show ¬ cap = k by omega)] at rf; have RF := Lib.hid rf; clear rf; clear q0 q1 q2 q3 q4)
            | (at_builtin; refine wpList_append_st rfl _ _ 22 rfl 47 i0 _ 5 48 Tryz.underlying22 HI.out Z0.out Z1.out Z2.out rfl _ _ rfl rfl (k + 1) (rowsC (l.take k) ++ [.string rs, .int .i64 ra, .int .i64 rb, .int .i64 rc, .int .i64 rd]) (by exact H10.out) (l.length - k) (rowsC (l.drop k)) (by exact RF.out) (rowsC_one _) (by unfold maxLen; omega) (by omega) ?_; intro v' w11 hs2 hv2; clear hv2; obtain ⟨a11, p11, rfl⟩ := (HP.arr_reads hs2).form; have H11 := Lib.hid hs2; clear hs2))
          go_ret
          refine ⟨_, rfl, ?_⟩
          have e1 : addR (⟨rs, ra, rb, rc, rd⟩ : Rw) l = l.take k ++ [(⟨rs, ra, rb, rc, rd⟩ : Rw)] ++ l.drop k := by
            rw [HAT.out, HD.out, addR, if_neg (by rw [HB.out]; decide), if_neg (by rw [HQ.out]; decide)]
            simp
          have e2 : (addR (⟨rs, ra, rb, rc, rd⟩ : Rw) l).length = k + 1 + (l.length - k) := by rw [e1]; simp; omega
          rw [e2, e1, rowsC_app, rowsC_app]
          have h := H11.out.pick 3 [0]
          simpa [rowsC, Rw.cells] using h
    · have ik1 : ¬ (k : Int) < (l.length : Int) := by omega
      have HAT := Lib.hid (addR_at (⟨rs, ra, rb, rc, rd⟩ : Rw) l k hk HA.out)
      have HD : Hid (l.drop k = []) := Lib.hid (List.drop_eq_nil_of_le (by omega))
      clear HA
      by_cases hck : cap = k
      · have hc2 : k = cap := hck.symm
        clear hck
        subst hc2
        go_wp2_with fail
        go_quiet (fail)
        obtain ⟨n1, hn1⟩ : ∃ n1, n1 = nq := ⟨nq, rfl⟩; subst hn1
        go_wp2_with fail
        go_quiet (fail)
        have HN := Lib.hid ((HS.out.drewN (n1 + nq)).newArr 47 5 0 [] rfl (by decide))
        have RT := Lib.hid (rows_take (Reads.grow HR.out HN.out.below) hk)
        clear r0 r1 r2 r3 r4
        go_wp2_with (first
          | (at_builtin; refine wpList_append_st rfl _ _ 22 rfl 47 i0 _ 5 48 Tryz.underlying22 HI.out Z0.out Z1.out Z2.out rfl _ _ rfl rfl 0 [] (by exact HN.out) k (rowsC (l.take k)) (by exact RT.out) (rowsC_one _) (by unfold maxLen; omega) (by omega) ?_; intro v' w7 hs2 hv2; clear hv2; obtain ⟨a7, p7, rfl⟩ := (HP.arr_reads hs2).form; have H7 := Lib.hid hs2; clear hs2; have H8 : Hid (St w (HP.arr 47 5 (.slice a7 k p7) k (rowsC (l.take k)) :: [HP.blk w.heap.size #[.string rs, .int .i64 ra, .int .i64 rb, .int .i64 rc, .int .i64 rd] 47]) w7) := Lib.hid (by simpa using H7.out); obtain ⟨q0, q1, q2, q3, q4⟩ := St.cells5 (H8.out.front 1); have H9 := Lib.hid (H8.out.newArr 47 5 1 [.string rs, .int .i64 ra, .int .i64 rb, .int .i64 rc, .int .i64 rd] rfl (by decide)); clear H7 HN)
          | (at_builtin; refine wpList_append_st rfl _ _ 22 rfl 47 i0 _ 5 48 Tryz.underlying22 HI.out Z0.out Z1.out Z2.out rfl _ _ rfl rfl k (rowsC (l.take k)) (by exact H9.out.swap) 1 [.string rs, .int .i64 ra, .int .i64 rb, .int .i64 rc, .int .i64 rd] (by exact (HP.arr_reads H9.out)) (by intro u hu; simp at hu; rcases hu with rfl | rfl | rfl | rfl | rfl <;> rfl) (by unfold maxLen; omega) (by omega) ?_; intro v' w10 hs2 hv2; clear hv2; obtain ⟨a10, p10, rfl⟩ := (HP.arr_reads hs2).form; have H10 := Lib.hid hs2; clear hs2; have rf := rows_from (Reads.grow HR.out H10.out.below) hk; rw [if_pos rfl, Nat.sub_self, show l.length - k = 0 by omega] at rf; have RF := Lib.hid rf; clear rf; clear q0 q1 q2 q3 q4)
          | (at_builtin; refine wpList_append_st rfl _ _ 22 rfl 47 i0 _ 5 48 Tryz.underlying22 HI.out Z0.out Z1.out Z2.out rfl _ _ rfl rfl (k + 1) (rowsC (l.take k) ++ [.string rs, .int .i64 ra, .int .i64 rb, .int .i64 rc, .int .i64 rd]) (by exact H10.out) 0 (rowsC (l.drop k)) (by exact RF.out) (rowsC_one _) (by unfold maxLen; omega) (by omega) ?_; intro v' w11 hs2 hv2; clear hv2; obtain ⟨a11, p11, rfl⟩ := (HP.arr_reads hs2).form; have H11 := Lib.hid hs2; clear hs2))
        go_ret
        refine ⟨_, rfl, ?_⟩
        have e1 : addR (⟨rs, ra, rb, rc, rd⟩ : Rw) l = l.take k ++ [(⟨rs, ra, rb, rc, rd⟩ : Rw)] ++ l.drop k := by
          rw [HAT.out, HD.out, addR]
          simp
        have e2 : (addR (⟨rs, ra, rb, rc, rd⟩ : Rw) l).length = k + 1 := by rw [e1]; simp; omega
        rw [e2, e1, rowsC_app, rowsC_app]
        have h := H11.out.pick 3 [0]
        simpa [rowsC, Rw.cells] using h
      · go_wp2_with fail
        go_quiet (fail)
        obtain ⟨n1, hn1⟩ : ∃ n1, n1 = nq := ⟨nq, rfl⟩; subst hn1
        go_wp2_with fail
        go_quiet (fail)
        have HN := Lib.hid ((HS.out.drewN (n1 + nq)).newArr 47 5 0 [] rfl (by decide))
        have RT := Lib.hid (rows_take (Reads.grow HR.out HN.out.below) hk)
        clear r0 r1 r2 r3 r4
        go_wp2_with (first
          | (at_builtin; refine wpList_append_st rfl _ _ 22 rfl 47 i0 _ 5 48 Tryz.underlying22 HI.out Z0.out Z1.out Z2.out rfl _ _ rfl rfl 0 [] (by exact HN.out) k (rowsC (l.take k)) (by exact RT.out) (rowsC_one _) (by unfold maxLen; omega) (by omega) ?_; intro v' w7 hs2 hv2; clear hv2; obtain ⟨a7, p7, rfl⟩ := (HP.arr_reads hs2).form; have H7 := Lib.hid hs2; clear hs2; have H8 : Hid (St w (HP.arr 47 5 (.slice a7 k p7) k (rowsC (l.take k)) :: [HP.blk w.heap.size #[.string rs, .int .i64 ra, .int .i64 rb, .int .i64 rc, .int .i64 rd] 47]) w7) := Lib.hid (by simpa using H7.out); obtain ⟨q0, q1, q2, q3, q4⟩ := St.cells5 (H8.out.front 1); have H9 := Lib.hid (H8.out.newArr 47 5 1 [.string rs, .int .i64 ra, .int .i64 rb, .int .i64 rc, .int .i64 rd] rfl (by decide)); clear H7 HN)
          | (at_builtin; refine wpList_append_st rfl _ _ 22 rfl 47 i0 _ 5 48 Tryz.underlying22 HI.out Z0.out Z1.out Z2.out rfl _ _ rfl rfl k (rowsC (l.take k)) (by exact H9.out.swap) 1 [.string rs, .int .i64 ra, .int .i64 rb, .int .i64 rc, .int .i64 rd] (by exact (HP.arr_reads H9.out)) (by intro u hu; simp at hu; rcases hu with rfl | rfl | rfl | rfl | rfl <;> rfl) (by unfold maxLen; omega) (by omega) ?_; intro v' w10 hs2 hv2; clear hv2; obtain ⟨a10, p10, rfl⟩ := (HP.arr_reads hs2).form; have H10 := Lib.hid hs2; clear hs2; have rf := rows_from (Reads.grow HR.out H10.out.below) hk; rw [if_neg hck] at rf; have RF := Lib.hid rf; clear rf; clear q0 q1 q2 q3 q4)
          | (at_builtin; refine wpList_append_st rfl _ _ 22 rfl 47 i0 _ 5 48 Tryz.underlying22 HI.out Z0.out Z1.out Z2.out rfl _ _ rfl rfl (k + 1) (rowsC (l.take k) ++ [.string rs, .int .i64 ra, .int .i64 rb, .int .i64 rc, .int .i64 rd]) (by exact H10.out) (l.length - k) (rowsC (l.drop k)) (by exact RF.out) (rowsC_one _) (by unfold maxLen; omega) (by omega) ?_; intro v' w11 hs2 hv2; clear hv2; obtain ⟨a11, p11, rfl⟩ := (HP.arr_reads hs2).form; have H11 := Lib.hid hs2; clear hs2))
        go_ret
        refine ⟨_, rfl, ?_⟩
        have e1 : addR (⟨rs, ra, rb, rc, rd⟩ : Rw) l = l.take k ++ [(⟨rs, ra, rb, rc, rd⟩ : Rw)] ++ l.drop k := by
          rw [HAT.out, HD.out, addR]
          simp
        have e2 : (addR (⟨rs, ra, rb, rc, rd⟩ : Rw) l).length = k + 1 + (l.length - k) := by rw [e1]; simp; omega
        rw [e2, e1, rowsC_app, rowsC_app]
        have h := H11.out.pick 3 [0]
        simpa [rowsC, Rw.cells] using h
end Go.Proofs.YtcihbmifogfdpaaGreatDoor

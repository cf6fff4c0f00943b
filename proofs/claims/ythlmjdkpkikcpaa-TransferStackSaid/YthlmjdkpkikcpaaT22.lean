/-
  The statement TransferStack: its walk.
-/
import Derived.Test.YthlmjdkpkikcpaaT21
namespace Go.Proofs.Ythlmjdkpkikcpaa
open Go.RowKit

/-- a slice of small numbers that came in -/
def BytesAt (w : World) (v : Value) (l : List Int) : Prop := Reads w 1 v l.length (l.map (Value.int .u8)) ∧ ∀ z ∈ l, 0 ≤ z ∧ z ≤ 255
theorem BytesAt.cell {w : World} {v : Value} {l : List Int} (h : BytesAt w v l) {k : Nat} {z : Int} (hz : l[k]? = some z) :
    ∃ b off cap, v = .slice (some ⟨b, off, none⟩) l.length cap ∧ w.cell? ⟨b, off + k, none⟩ = some (.int .u8 z) := by
  have hk := (List.getElem?_eq_some_iff.1 hz).1
  obtain ⟨b, off, cap, hv, _, hc⟩ := h.1.lies (by omega)
  exact ⟨b, off, cap, hv, hc k _ (by rw [List.getElem?_map, hz]; rfl)⟩
theorem held_put {w0 w : World} {F : List HP} {c : Nat} {x y : TC} {v v1 : Value} {vs : List Value} {L : List Int} {A : HP} (hvl : vs.length = x.bs.length)
    (h : St w0 (HP.arr 27 1 v (x.bs.length + 1) (vs ++ [v1]) :: A :: tcache c y :: ints v1 L :: rowsC vs x.bs :: F) w) : St w0 (tcache c y :: rows v (x.bs ++ [L]) :: F) w := by
  have h1 : St w0 (rowsC vs x.bs * ints v1 L :: HP.arr 27 1 v (x.bs.length + 1) (vs ++ [v1]) :: tcache c y :: F) w := St.two.2 (h.pick 5 [4, 3, 0, 2])
  have h2 := h1.pick 3 [1, 0, 2]
  rw [← rowsC_snoc _ _ _ _ hvl] at h2
  have h3 : St w0 (HP.arr 27 1 v (x.bs ++ [L]).length (vs ++ [v1]) :: rowsC (vs ++ [v1]) (x.bs ++ [L]) :: tcache c y :: F) w := by rw [List.length_append]; exact h2
  exact (rows_shut h3).swap
theorem len_is (w0 w : World) (F : List HP) (c : Nat) (x : TC) (n : Nat) (hn : x.bs.length = n) (hx : x.ok) (hs : St w0 (tcache c x :: F) w) :
    Calls Try.prog 18 #[.pointer (some ⟨c, 0, none⟩)] w fun e w' => e = .returned (.int .i64 n) ∧ w = w' := by
  subst hn
  exact len_any w0 w F c x hx hs

set_option maxRecDepth 20000 in
set_option maxHeartbeats 8000000 in
theorem stack_walk (many : Int) (hw1 : (Lit.int .u8 many).wf = true) (room : Int) (hw2 : (Lit.int .u8 room).wf = true) (a : Option Addr) (cap : Nat) (l : List Int) (w : World) (h : BytesAt w (.slice a l.length cap) l) (hn : l.length ≤ 9223372036854775807) :
    Calls Try.prog 3 #[.int .u8 many, .int .u8 room, .slice a l.length cap] w fun e w' => e = .returned (.bool true) ∧ Below w.heap.size w w' := by
  have H := Lib.hid h
  clear h
  have hb1 : 0 ≤ many ∧ many ≤ 255 := by
    have h := hw1
    simp only [Lit.wf, decide_eq_true_eq, Bool.and_eq_true] at h
    exact h
  have hb2 : 0 ≤ room ∧ room ≤ 255 := by
    have h := hw2
    simp only [Lit.wf, decide_eq_true_eq, Bool.and_eq_true] at h
    exact h
  clear hw1 hw2
  obtain ⟨m1, m2⟩ := hb1
  obtain ⟨r1, r2⟩ := hb2
  have hnil : ActsAt w (.slice none 0 0) [] := ⟨Reads.nil w 2, fun x hx => by cases hx⟩
  have HN := Lib.hid hnil
  clear hnil
  obtain ⟨i0, hi, hz0, hz1, hz2⟩ := info_parts info27
  go_enter Try.func3, Try.ntmps3
  go_wp2_with fail
  obtain ⟨m, hm⟩ : ∃ m : Nat, many % 32 = m := ⟨(many % 32).toNat, by omega⟩
  obtain ⟨r, hr⟩ : ∃ r : Nat, room % 9 = r := ⟨(room % 9).toNat, by omega⟩
  have hm32 : m ≤ 31 := by omega
  have hr8 : r ≤ 8 := by omega
  rw [hm, hr]
  clear hm hr
  refine (made_good w w [] ((m : Int) + 1) r (by omega) (by omega) (by omega) (by omega) (St.start w) none 0 [] HN.out (by simp)).mono ?_
  rintro e w1 ⟨c, rfl, h1⟩
  have h1 : St w [tcache c ⟨(m : Int) + 1, r, 0, []⟩] w1 := h1
  by_cases h60 : 60 < l.length
  · have hd : decide ((60 : Int) < (l.length : Int)) = true := by simp; omega
    clear h60
    go_wp2_with fail
    refine (alive_any w _ _ h1).mono ?_
    rintro e w' ⟨rfl, hs⟩
    go_wp2_with fail
    go_ret
    exact ⟨rfl, hs.below⟩
  have hd : decide ((60 : Int) < (l.length : Int)) = false := by simp; omega
  go_wp2_with fail
  go_loopw [10, 11] (fun v i wr => ∃ (k : Nat) (x : TC) (a9 : Option Addr) (p9 : Nat), k ≤ l.length ∧ i = .int .i64 k ∧ x.ok ∧ x.batch = (m : Int) + 1 ∧ x.room = r ∧ v = .slice a9 x.bs.length p9 ∧
    St w [tcache c x, rows v x.bs] wr) (fun _ i _ => l.length - (intOf i).toNat)
  case atStart =>
    refine ⟨0, ⟨(m : Int) + 1, r, 0, []⟩, none, 0, Nat.zero_le _, rfl, TC.new_ok (by omega) (by omega) (by omega) (by omega), rfl, rfl, rfl, ?_⟩
    exact (rows_shut (bs := []) (vs := []) ((St.emp.2 (h1.arr_nil 27 1)).swap)).swap
  case round =>
    clear h1
    obtain ⟨k, x, a9, p9, hk, rfl, hok, hxb, hxr, rfl, hs1⟩ := hrel
    by_cases hlt : k < l.length
    · obtain ⟨z, hz⟩ : ∃ z, l[k]? = some z := ⟨l[k], List.getElem?_eq_getElem hlt⟩
      obtain ⟨b, off, cp, e1, k0⟩ := H.out.cell hz
      obtain ⟨z1, z2⟩ := H.out.2 z (List.mem_of_getElem? hz)
      have hb0 := World.block_lt_of_cell? w _ k0
      injection e1 with e1 e2 e3
      clear e2 e3
      subst e1
      clear hz
      have c0 := (hs1.was hb0).trans k0
      have hx8 : x.bs.length ≤ 8 := by
        obtain ⟨x1, x2, x3, x4, x5, x6, x7, x8⟩ := hok
        omega
      have HO := Lib.hid hok
      by_cases h3 : z % 6 < 3
      · have hL := batchL_length (100 * (k : Int)) (m + 1)
        by_cases hroom : x.bs.length < r
        · have hb : x.insB (batchL (100 * (k : Int)) (m + 1)) = true := by unfold TC.insB; rw [decide_eq_true_eq, hL, hxb, hxr]; omega
          have hy : x.ins (batchL (100 * (k : Int)) (m + 1)) = ⟨x.batch, x.room, x.low, x.bs ++ [batchL (100 * (k : Int)) (m + 1)]⟩ := by unfold TC.ins; rw [if_pos (by rw [hL, hxb, hxr]; omega)]
          have he : x.insE (batchL (100 * (k : Int)) (m + 1)) = 0 := by unfold TC.insE; rw [if_pos (by rw [hL, hxb]; omega)]
          have hyo := hok.ins (batchL (100 * (k : Int)) (m + 1))
          rw [hy] at hyo
          have hxl : x.bs.length ≤ r := by
            obtain ⟨x1, x2, x3, x4, x5, x6, x7, x8⟩ := hok
            omega
          have hq : z % 6 = 0 ∨ z % 6 = 1 ∨ z % 6 = 2 := by omega
          have HL := Lib.hid hL
          have HB := Lib.hid hb
          have HY := Lib.hid hy
          have HE := Lib.hid he
          have HXB := Lib.hid hxb
          have HXR := Lib.hid hxr
          have HYO := Lib.hid hyo
          have hd : decide ((x.bs.length : Int) < (r : Int)) = true := by simp; omega
          obtain ⟨_, _, vs, hv, hvl, hs1⟩ := rows_open (hs1.swap)
          cases hv
          have hs1 : St w [tcache c x, HP.arr 27 1 (.slice a9 x.bs.length p9) x.bs.length vs, rowsC vs x.bs] wr := hs1.pick 3 [2, 0, 1]
          have HVL := Lib.hid hvl
          clear hvl
          clear hL hb hy he hxb hxr hok h3 hyo
          rcases hq with hq | hq | hq
          · have b0 : (z % 6 == 0) = true := by rw [hq]; rfl
            clear hq
            go_wp2_with fail
            refine (batch_any w wr _ _ (100 * (k : Int)) (m + 1) (by omega) (by omega) (by omega) (by omega) hs1).mono ?_
            rintro e w2 ⟨a1, p1, rfl, h2⟩
            go_wp2_with fail
            refine (batch_any w w2 _ _ (100 * (k : Int)) (m + 1) (by omega) (by omega) (by omega) (by omega) h2).mono ?_
            rintro e w3 ⟨a2, p2, rfl, h3⟩
            have i3 := ints_at h3
            unfold IntsAt at i3
            rw [HL.out] at i3
            go_wp2_with fail
            refine (insert_is w w3 _ c x ⟨x.batch, x.room, x.low, x.bs ++ [batchL (100 * (k : Int)) (m + 1)]⟩ true 0 HO.out a2 p2 (m + 1) (batchL (100 * (k : Int)) (m + 1)) HL.out HB.out HE.out HY.out (h3.front 2) i3 (by omega)).mono ?_
            rintro e w4 ⟨rfl, h4⟩
            have h4 : St w [HP.arr 3 1 (.slice a2 (m + 1) p2) (m + 1) ((batchL (100 * (k : Int)) (m + 1)).map (Value.int .i64)), tcache c ⟨x.batch, x.room, x.low, x.bs ++ [batchL (100 * (k : Int)) (m + 1)]⟩, ints (.slice a1 (m + 1) p1) (batchL (100 * (k : Int)) (m + 1)), HP.arr 27 1 (.slice a9 x.bs.length p9) x.bs.length vs, rowsC vs x.bs] w4 := (h4.front 1).eq (by show ints _ _ = _; unfold ints; rw [HL.out])
            obtain ⟨gb, go, gcap, gc, hg, hgs, h5⟩ := HP.arr_blk h4 (by omega)
            cases hg
            obtain ⟨u1, hu1⟩ : ∃ u, gc[go + m]? = some u := ⟨_, Array.getElem?_eq_getElem (by omega)⟩
            obtain ⟨u2, hu2⟩ : ∃ u, (gc.setIfInBounds (go + m) (.int .i64 (-1)))[go]? = some u := ⟨_, Array.getElem?_eq_getElem (by simp; omega)⟩
            have g1 := h5.cell hu1
            have f1 := h5.frozen (go + m)
            have h6 := h5.set (go + m) (.int .i64 (-1))
            have g2 := h6.cell hu2
            have f2 := h6.frozen go
            have h7 : St w [tcache c ⟨x.batch, x.room, x.low, x.bs ++ [batchL (100 * (k : Int)) (m + 1)]⟩, ints (.slice a1 (m + 1) p1) (batchL (100 * (k : Int)) (m + 1)), HP.arr 27 1 (.slice a9 x.bs.length p9) x.bs.length vs, rowsC vs x.bs] ((w4.setCell ⟨gb, go + m, none⟩ (.int .i64 (-1))).setCell ⟨gb, go, none⟩ (.int .i64 (-1))) := (h6.set go (.int .i64 (-1))).drop
            clear hu1 hu2 h2 h3 h4 h5 h6
            have h8 := h7.oneArr 27 (.slice a1 (m + 1) p1)
            have hz : ((w4.setCell ⟨gb, go + m, none⟩ (.int .i64 (-1))).setCell ⟨gb, go, none⟩ (.int .i64 (-1))).heap.size = w4.heap.size := by simp
            rw [hz] at h8
            have r8 := HP.arr_reads h8
            have h8 := h8.front 3
            go_wp2_with (at_builtin; refine wpList_append_st rfl _ _ 26 rfl 27 i0 _ 1 24 Try.underlying26 hi hz0 hz1 hz2 rfl (.slice a9 x.bs.length p9) _ rfl rfl x.bs.length vs (by exact h8) 1 [.slice a1 (m + 1) p1] (by exact r8) (by intro u hu; simp at hu; subst hu; rfl) (by unfold maxLen; omega) (by omega) ?_; intro v3 w5 hs3 hv3; clear hv3; obtain ⟨a3, p3, rfl⟩ := (HP.arr_reads hs3).form)
            have h9 : St w [tcache c ⟨x.batch, x.room, x.low, x.bs ++ [batchL (100 * (k : Int)) (m + 1)]⟩, rows (.slice a3 (x.bs.length + 1) p3) (x.bs ++ [batchL (100 * (k : Int)) (m + 1)])] w5 := held_put HVL.out hs3
            clear h7 h8 r8 hs3
            have t1 : ((((x.bs.length + 1 : Nat)) : Int) != (((x.bs.length + 1 : Nat)) : Int)) = false := by simp
            have t2 : decide ((r : Int) < (((x.bs.length + 1 : Nat)) : Int)) = false := by simp; omega
            go_wp2_with fail
            refine (len_is w w5 _ c ⟨x.batch, x.room, x.low, x.bs ++ [batchL (100 * (k : Int)) (m + 1)]⟩ (x.bs.length + 1) (by simp) HYO.out h9).mono ?_
            rintro e w' ⟨rfl, rfl⟩
            go_wp2_with fail
            refine (len_is w w5 _ c ⟨x.batch, x.room, x.low, x.bs ++ [batchL (100 * (k : Int)) (m + 1)]⟩ (x.bs.length + 1) (by simp) HYO.out h9).mono ?_
            rintro e w' ⟨rfl, rfl⟩
            go_wp2_with fail
            go_roundw
            case rel => exact ⟨k + 1, ⟨x.batch, x.room, x.low, x.bs ++ [batchL (100 * (k : Int)) (m + 1)]⟩, a3, p3, hlt, by go_num, HYO.out, HXB.out, HXR.out, by simp, h9⟩
            case measure => simp [intOf]; omega
          · have b0 : (z % 6 == 0) = false := by rw [hq]; rfl
            have b1 : (z % 6 == 1) = true := by rw [hq]; rfl
            clear hq
            go_wp2_with fail
            refine (batch_any w wr _ _ (100 * (k : Int)) (m + 1) (by omega) (by omega) (by omega) (by omega) hs1).mono ?_
            rintro e w2 ⟨a1, p1, rfl, h2⟩
            go_wp2_with fail
            refine (batch_any w w2 _ _ (100 * (k : Int)) (m + 1) (by omega) (by omega) (by omega) (by omega) h2).mono ?_
            rintro e w3 ⟨a2, p2, rfl, h3⟩
            have i3 := ints_at h3
            unfold IntsAt at i3
            rw [HL.out] at i3
            go_wp2_with fail
            refine (insert_is w w3 _ c x ⟨x.batch, x.room, x.low, x.bs ++ [batchL (100 * (k : Int)) (m + 1)]⟩ true 0 HO.out a2 p2 (m + 1) (batchL (100 * (k : Int)) (m + 1)) HL.out HB.out HE.out HY.out (h3.front 2) i3 (by omega)).mono ?_
            rintro e w4 ⟨rfl, h4⟩
            have h4 : St w [HP.arr 3 1 (.slice a2 (m + 1) p2) (m + 1) ((batchL (100 * (k : Int)) (m + 1)).map (Value.int .i64)), tcache c ⟨x.batch, x.room, x.low, x.bs ++ [batchL (100 * (k : Int)) (m + 1)]⟩, ints (.slice a1 (m + 1) p1) (batchL (100 * (k : Int)) (m + 1)), HP.arr 27 1 (.slice a9 x.bs.length p9) x.bs.length vs, rowsC vs x.bs] w4 := (h4.front 1).eq (by show ints _ _ = _; unfold ints; rw [HL.out])
            obtain ⟨gb, go, gcap, gc, hg, hgs, h5⟩ := HP.arr_blk h4 (by omega)
            cases hg
            obtain ⟨u1, hu1⟩ : ∃ u, gc[go + m]? = some u := ⟨_, Array.getElem?_eq_getElem (by omega)⟩
            obtain ⟨u2, hu2⟩ : ∃ u, (gc.setIfInBounds (go + m) (.int .i64 (-1)))[go]? = some u := ⟨_, Array.getElem?_eq_getElem (by simp; omega)⟩
            have g1 := h5.cell hu1
            have f1 := h5.frozen (go + m)
            have h6 := h5.set (go + m) (.int .i64 (-1))
            have g2 := h6.cell hu2
            have f2 := h6.frozen go
            have h7 : St w [tcache c ⟨x.batch, x.room, x.low, x.bs ++ [batchL (100 * (k : Int)) (m + 1)]⟩, ints (.slice a1 (m + 1) p1) (batchL (100 * (k : Int)) (m + 1)), HP.arr 27 1 (.slice a9 x.bs.length p9) x.bs.length vs, rowsC vs x.bs] ((w4.setCell ⟨gb, go + m, none⟩ (.int .i64 (-1))).setCell ⟨gb, go, none⟩ (.int .i64 (-1))) := (h6.set go (.int .i64 (-1))).drop
            clear hu1 hu2 h2 h3 h4 h5 h6
            have h8 := h7.oneArr 27 (.slice a1 (m + 1) p1)
            have hz : ((w4.setCell ⟨gb, go + m, none⟩ (.int .i64 (-1))).setCell ⟨gb, go, none⟩ (.int .i64 (-1))).heap.size = w4.heap.size := by simp
            rw [hz] at h8
            have r8 := HP.arr_reads h8
            have h8 := h8.front 3
            go_wp2_with (at_builtin; refine wpList_append_st rfl _ _ 26 rfl 27 i0 _ 1 24 Try.underlying26 hi hz0 hz1 hz2 rfl (.slice a9 x.bs.length p9) _ rfl rfl x.bs.length vs (by exact h8) 1 [.slice a1 (m + 1) p1] (by exact r8) (by intro u hu; simp at hu; subst hu; rfl) (by unfold maxLen; omega) (by omega) ?_; intro v3 w5 hs3 hv3; clear hv3; obtain ⟨a3, p3, rfl⟩ := (HP.arr_reads hs3).form)
            have h9 : St w [tcache c ⟨x.batch, x.room, x.low, x.bs ++ [batchL (100 * (k : Int)) (m + 1)]⟩, rows (.slice a3 (x.bs.length + 1) p3) (x.bs ++ [batchL (100 * (k : Int)) (m + 1)])] w5 := held_put HVL.out hs3
            clear h7 h8 r8 hs3
            have t1 : ((((x.bs.length + 1 : Nat)) : Int) != (((x.bs.length + 1 : Nat)) : Int)) = false := by simp
            have t2 : decide ((r : Int) < (((x.bs.length + 1 : Nat)) : Int)) = false := by simp; omega
            go_wp2_with fail
            refine (len_is w w5 _ c ⟨x.batch, x.room, x.low, x.bs ++ [batchL (100 * (k : Int)) (m + 1)]⟩ (x.bs.length + 1) (by simp) HYO.out h9).mono ?_
            rintro e w' ⟨rfl, rfl⟩
            go_wp2_with fail
            refine (len_is w w5 _ c ⟨x.batch, x.room, x.low, x.bs ++ [batchL (100 * (k : Int)) (m + 1)]⟩ (x.bs.length + 1) (by simp) HYO.out h9).mono ?_
            rintro e w' ⟨rfl, rfl⟩
            go_wp2_with fail
            go_roundw
            case rel => exact ⟨k + 1, ⟨x.batch, x.room, x.low, x.bs ++ [batchL (100 * (k : Int)) (m + 1)]⟩, a3, p3, hlt, by go_num, HYO.out, HXB.out, HXR.out, by simp, h9⟩
            case measure => simp [intOf]; omega
          · have b0 : (z % 6 == 0) = false := by rw [hq]; rfl
            have b1 : (z % 6 == 1) = false := by rw [hq]; rfl
            have b2 : (z % 6 == 2) = true := by rw [hq]; rfl
            clear hq
            go_wp2_with fail
            refine (batch_any w wr _ _ (100 * (k : Int)) (m + 1) (by omega) (by omega) (by omega) (by omega) hs1).mono ?_
            rintro e w2 ⟨a1, p1, rfl, h2⟩
            go_wp2_with fail
            refine (batch_any w w2 _ _ (100 * (k : Int)) (m + 1) (by omega) (by omega) (by omega) (by omega) h2).mono ?_
            rintro e w3 ⟨a2, p2, rfl, h3⟩
            have i3 := ints_at h3
            unfold IntsAt at i3
            rw [HL.out] at i3
            go_wp2_with fail
            refine (insert_is w w3 _ c x ⟨x.batch, x.room, x.low, x.bs ++ [batchL (100 * (k : Int)) (m + 1)]⟩ true 0 HO.out a2 p2 (m + 1) (batchL (100 * (k : Int)) (m + 1)) HL.out HB.out HE.out HY.out (h3.front 2) i3 (by omega)).mono ?_
            rintro e w4 ⟨rfl, h4⟩
            have h4 : St w [HP.arr 3 1 (.slice a2 (m + 1) p2) (m + 1) ((batchL (100 * (k : Int)) (m + 1)).map (Value.int .i64)), tcache c ⟨x.batch, x.room, x.low, x.bs ++ [batchL (100 * (k : Int)) (m + 1)]⟩, ints (.slice a1 (m + 1) p1) (batchL (100 * (k : Int)) (m + 1)), HP.arr 27 1 (.slice a9 x.bs.length p9) x.bs.length vs, rowsC vs x.bs] w4 := (h4.front 1).eq (by show ints _ _ = _; unfold ints; rw [HL.out])
            obtain ⟨gb, go, gcap, gc, hg, hgs, h5⟩ := HP.arr_blk h4 (by omega)
            cases hg
            obtain ⟨u1, hu1⟩ : ∃ u, gc[go + m]? = some u := ⟨_, Array.getElem?_eq_getElem (by omega)⟩
            obtain ⟨u2, hu2⟩ : ∃ u, (gc.setIfInBounds (go + m) (.int .i64 (-1)))[go]? = some u := ⟨_, Array.getElem?_eq_getElem (by simp; omega)⟩
            have g1 := h5.cell hu1
            have f1 := h5.frozen (go + m)
            have h6 := h5.set (go + m) (.int .i64 (-1))
            have g2 := h6.cell hu2
            have f2 := h6.frozen go
            have h7 : St w [tcache c ⟨x.batch, x.room, x.low, x.bs ++ [batchL (100 * (k : Int)) (m + 1)]⟩, ints (.slice a1 (m + 1) p1) (batchL (100 * (k : Int)) (m + 1)), HP.arr 27 1 (.slice a9 x.bs.length p9) x.bs.length vs, rowsC vs x.bs] ((w4.setCell ⟨gb, go + m, none⟩ (.int .i64 (-1))).setCell ⟨gb, go, none⟩ (.int .i64 (-1))) := (h6.set go (.int .i64 (-1))).drop
            clear hu1 hu2 h2 h3 h4 h5 h6
            have h8 := h7.oneArr 27 (.slice a1 (m + 1) p1)
            have hz : ((w4.setCell ⟨gb, go + m, none⟩ (.int .i64 (-1))).setCell ⟨gb, go, none⟩ (.int .i64 (-1))).heap.size = w4.heap.size := by simp
            rw [hz] at h8
            have r8 := HP.arr_reads h8
            have h8 := h8.front 3
            go_wp2_with (at_builtin; refine wpList_append_st rfl _ _ 26 rfl 27 i0 _ 1 24 Try.underlying26 hi hz0 hz1 hz2 rfl (.slice a9 x.bs.length p9) _ rfl rfl x.bs.length vs (by exact h8) 1 [.slice a1 (m + 1) p1] (by exact r8) (by intro u hu; simp at hu; subst hu; rfl) (by unfold maxLen; omega) (by omega) ?_; intro v3 w5 hs3 hv3; clear hv3; obtain ⟨a3, p3, rfl⟩ := (HP.arr_reads hs3).form)
            have h9 : St w [tcache c ⟨x.batch, x.room, x.low, x.bs ++ [batchL (100 * (k : Int)) (m + 1)]⟩, rows (.slice a3 (x.bs.length + 1) p3) (x.bs ++ [batchL (100 * (k : Int)) (m + 1)])] w5 := held_put HVL.out hs3
            clear h7 h8 r8 hs3
            have t1 : ((((x.bs.length + 1 : Nat)) : Int) != (((x.bs.length + 1 : Nat)) : Int)) = false := by simp
            have t2 : decide ((r : Int) < (((x.bs.length + 1 : Nat)) : Int)) = false := by simp; omega
            go_wp2_with fail
            refine (len_is w w5 _ c ⟨x.batch, x.room, x.low, x.bs ++ [batchL (100 * (k : Int)) (m + 1)]⟩ (x.bs.length + 1) (by simp) HYO.out h9).mono ?_
            rintro e w' ⟨rfl, rfl⟩
            go_wp2_with fail
            refine (len_is w w5 _ c ⟨x.batch, x.room, x.low, x.bs ++ [batchL (100 * (k : Int)) (m + 1)]⟩ (x.bs.length + 1) (by simp) HYO.out h9).mono ?_
            rintro e w' ⟨rfl, rfl⟩
            go_wp2_with fail
            go_roundw
            case rel => exact ⟨k + 1, ⟨x.batch, x.room, x.low, x.bs ++ [batchL (100 * (k : Int)) (m + 1)]⟩, a3, p3, hlt, by go_num, HYO.out, HXB.out, HXR.out, by simp, h9⟩
            case measure => simp [intOf]; omega
        · have hb : x.insB (batchL (100 * (k : Int)) (m + 1)) = false := by unfold TC.insB; rw [decide_eq_false_iff_not, hL, hxb, hxr]; omega
          have hy : x.ins (batchL (100 * (k : Int)) (m + 1)) = x := by unfold TC.ins; rw [if_neg (by rw [hL, hxb, hxr]; omega)]
          have he : x.insE (batchL (100 * (k : Int)) (m + 1)) = 0 := by unfold TC.insE; rw [if_pos (by rw [hL, hxb]; omega)]
          have hyo := hok.ins (batchL (100 * (k : Int)) (m + 1))
          rw [hy] at hyo
          have hxl : x.bs.length ≤ r := by
            obtain ⟨x1, x2, x3, x4, x5, x6, x7, x8⟩ := hok
            omega
          have hq : z % 6 = 0 ∨ z % 6 = 1 ∨ z % 6 = 2 := by omega
          have HL := Lib.hid hL
          have HB := Lib.hid hb
          have HY := Lib.hid hy
          have HE := Lib.hid he
          have HXB := Lib.hid hxb
          have HXR := Lib.hid hxr
          have HYO := Lib.hid hyo
          have hd : decide ((x.bs.length : Int) < (r : Int)) = false := by simp; omega
          clear hL hb hy he hxb hxr hok h3 hyo
          rcases hq with hq | hq | hq
          · have b0 : (z % 6 == 0) = true := by rw [hq]; rfl
            clear hq
            go_wp2_with fail
            refine (batch_any w wr _ _ (100 * (k : Int)) (m + 1) (by omega) (by omega) (by omega) (by omega) hs1).mono ?_
            rintro e w2 ⟨a1, p1, rfl, h2⟩
            go_wp2_with fail
            refine (batch_any w w2 _ _ (100 * (k : Int)) (m + 1) (by omega) (by omega) (by omega) (by omega) h2).mono ?_
            rintro e w3 ⟨a2, p2, rfl, h3⟩
            have i3 := ints_at h3
            unfold IntsAt at i3
            rw [HL.out] at i3
            go_wp2_with fail
            refine (insert_is w w3 _ c x x false 0 HO.out a2 p2 (m + 1) (batchL (100 * (k : Int)) (m + 1)) HL.out HB.out HE.out HY.out (h3.front 2) i3 (by omega)).mono ?_
            rintro e w4 ⟨rfl, h4⟩
            have h4 : St w [HP.arr 3 1 (.slice a2 (m + 1) p2) (m + 1) ((batchL (100 * (k : Int)) (m + 1)).map (Value.int .i64)), tcache c x, ints (.slice a1 (m + 1) p1) (batchL (100 * (k : Int)) (m + 1)), rows (.slice a9 x.bs.length p9) x.bs] w4 := (h4.front 1).eq (by show ints _ _ = _; unfold ints; rw [HL.out])
            obtain ⟨gb, go, gcap, gc, hg, hgs, h5⟩ := HP.arr_blk h4 (by omega)
            cases hg
            obtain ⟨u1, hu1⟩ : ∃ u, gc[go + m]? = some u := ⟨_, Array.getElem?_eq_getElem (by omega)⟩
            obtain ⟨u2, hu2⟩ : ∃ u, (gc.setIfInBounds (go + m) (.int .i64 (-1)))[go]? = some u := ⟨_, Array.getElem?_eq_getElem (by simp; omega)⟩
            have g1 := h5.cell hu1
            have f1 := h5.frozen (go + m)
            have h6 := h5.set (go + m) (.int .i64 (-1))
            have g2 := h6.cell hu2
            have f2 := h6.frozen go
            have h7 : St w [tcache c x, ints (.slice a1 (m + 1) p1) (batchL (100 * (k : Int)) (m + 1)), rows (.slice a9 x.bs.length p9) x.bs] ((w4.setCell ⟨gb, go + m, none⟩ (.int .i64 (-1))).setCell ⟨gb, go, none⟩ (.int .i64 (-1))) := (h6.set go (.int .i64 (-1))).drop
            clear hu1 hu2 h2 h3 h4 h5 h6
            have h9 : St w [tcache c x, rows (.slice a9 x.bs.length p9) x.bs] _ := h7.pick 3 [0, 2]
            clear h7
            have t1 : (((x.bs.length) : Int) != ((x.bs.length) : Int)) = false := by simp
            have t2 : decide ((r : Int) < ((x.bs.length) : Int)) = false := by simp; omega
            go_wp2_with fail
            refine (len_is w _ _ c x (x.bs.length) rfl HYO.out h9).mono ?_
            rintro e w' ⟨rfl, rfl⟩
            go_wp2_with fail
            refine (len_is w _ _ c x (x.bs.length) rfl HYO.out h9).mono ?_
            rintro e w' ⟨rfl, rfl⟩
            go_wp2_with fail
            go_roundw
            case rel => exact ⟨k + 1, x, a9, p9, hlt, by go_num, HYO.out, HXB.out, HXR.out, rfl, h9⟩
            case measure => simp [intOf]; omega
          · have b0 : (z % 6 == 0) = false := by rw [hq]; rfl
            have b1 : (z % 6 == 1) = true := by rw [hq]; rfl
            clear hq
            go_wp2_with fail
            refine (batch_any w wr _ _ (100 * (k : Int)) (m + 1) (by omega) (by omega) (by omega) (by omega) hs1).mono ?_
            rintro e w2 ⟨a1, p1, rfl, h2⟩
            go_wp2_with fail
            refine (batch_any w w2 _ _ (100 * (k : Int)) (m + 1) (by omega) (by omega) (by omega) (by omega) h2).mono ?_
            rintro e w3 ⟨a2, p2, rfl, h3⟩
            have i3 := ints_at h3
            unfold IntsAt at i3
            rw [HL.out] at i3
            go_wp2_with fail
            refine (insert_is w w3 _ c x x false 0 HO.out a2 p2 (m + 1) (batchL (100 * (k : Int)) (m + 1)) HL.out HB.out HE.out HY.out (h3.front 2) i3 (by omega)).mono ?_
            rintro e w4 ⟨rfl, h4⟩
            have h4 : St w [HP.arr 3 1 (.slice a2 (m + 1) p2) (m + 1) ((batchL (100 * (k : Int)) (m + 1)).map (Value.int .i64)), tcache c x, ints (.slice a1 (m + 1) p1) (batchL (100 * (k : Int)) (m + 1)), rows (.slice a9 x.bs.length p9) x.bs] w4 := (h4.front 1).eq (by show ints _ _ = _; unfold ints; rw [HL.out])
            obtain ⟨gb, go, gcap, gc, hg, hgs, h5⟩ := HP.arr_blk h4 (by omega)
            cases hg
            obtain ⟨u1, hu1⟩ : ∃ u, gc[go + m]? = some u := ⟨_, Array.getElem?_eq_getElem (by omega)⟩
            obtain ⟨u2, hu2⟩ : ∃ u, (gc.setIfInBounds (go + m) (.int .i64 (-1)))[go]? = some u := ⟨_, Array.getElem?_eq_getElem (by simp; omega)⟩
            have g1 := h5.cell hu1
            have f1 := h5.frozen (go + m)
            have h6 := h5.set (go + m) (.int .i64 (-1))
            have g2 := h6.cell hu2
            have f2 := h6.frozen go
            have h7 : St w [tcache c x, ints (.slice a1 (m + 1) p1) (batchL (100 * (k : Int)) (m + 1)), rows (.slice a9 x.bs.length p9) x.bs] ((w4.setCell ⟨gb, go + m, none⟩ (.int .i64 (-1))).setCell ⟨gb, go, none⟩ (.int .i64 (-1))) := (h6.set go (.int .i64 (-1))).drop
            clear hu1 hu2 h2 h3 h4 h5 h6
            have h9 : St w [tcache c x, rows (.slice a9 x.bs.length p9) x.bs] _ := h7.pick 3 [0, 2]
            clear h7
            have t1 : (((x.bs.length) : Int) != ((x.bs.length) : Int)) = false := by simp
            have t2 : decide ((r : Int) < ((x.bs.length) : Int)) = false := by simp; omega
            go_wp2_with fail
            refine (len_is w _ _ c x (x.bs.length) rfl HYO.out h9).mono ?_
            rintro e w' ⟨rfl, rfl⟩
            go_wp2_with fail
            refine (len_is w _ _ c x (x.bs.length) rfl HYO.out h9).mono ?_
            rintro e w' ⟨rfl, rfl⟩
            go_wp2_with fail
            go_roundw
            case rel => exact ⟨k + 1, x, a9, p9, hlt, by go_num, HYO.out, HXB.out, HXR.out, rfl, h9⟩
            case measure => simp [intOf]; omega
          · have b0 : (z % 6 == 0) = false := by rw [hq]; rfl
            have b1 : (z % 6 == 1) = false := by rw [hq]; rfl
            have b2 : (z % 6 == 2) = true := by rw [hq]; rfl
            clear hq
            go_wp2_with fail
            refine (batch_any w wr _ _ (100 * (k : Int)) (m + 1) (by omega) (by omega) (by omega) (by omega) hs1).mono ?_
            rintro e w2 ⟨a1, p1, rfl, h2⟩
            go_wp2_with fail
            refine (batch_any w w2 _ _ (100 * (k : Int)) (m + 1) (by omega) (by omega) (by omega) (by omega) h2).mono ?_
            rintro e w3 ⟨a2, p2, rfl, h3⟩
            have i3 := ints_at h3
            unfold IntsAt at i3
            rw [HL.out] at i3
            go_wp2_with fail
            refine (insert_is w w3 _ c x x false 0 HO.out a2 p2 (m + 1) (batchL (100 * (k : Int)) (m + 1)) HL.out HB.out HE.out HY.out (h3.front 2) i3 (by omega)).mono ?_
            rintro e w4 ⟨rfl, h4⟩
            have h4 : St w [HP.arr 3 1 (.slice a2 (m + 1) p2) (m + 1) ((batchL (100 * (k : Int)) (m + 1)).map (Value.int .i64)), tcache c x, ints (.slice a1 (m + 1) p1) (batchL (100 * (k : Int)) (m + 1)), rows (.slice a9 x.bs.length p9) x.bs] w4 := (h4.front 1).eq (by show ints _ _ = _; unfold ints; rw [HL.out])
            obtain ⟨gb, go, gcap, gc, hg, hgs, h5⟩ := HP.arr_blk h4 (by omega)
            cases hg
            obtain ⟨u1, hu1⟩ : ∃ u, gc[go + m]? = some u := ⟨_, Array.getElem?_eq_getElem (by omega)⟩
            obtain ⟨u2, hu2⟩ : ∃ u, (gc.setIfInBounds (go + m) (.int .i64 (-1)))[go]? = some u := ⟨_, Array.getElem?_eq_getElem (by simp; omega)⟩
            have g1 := h5.cell hu1
            have f1 := h5.frozen (go + m)
            have h6 := h5.set (go + m) (.int .i64 (-1))
            have g2 := h6.cell hu2
            have f2 := h6.frozen go
            have h7 : St w [tcache c x, ints (.slice a1 (m + 1) p1) (batchL (100 * (k : Int)) (m + 1)), rows (.slice a9 x.bs.length p9) x.bs] ((w4.setCell ⟨gb, go + m, none⟩ (.int .i64 (-1))).setCell ⟨gb, go, none⟩ (.int .i64 (-1))) := (h6.set go (.int .i64 (-1))).drop
            clear hu1 hu2 h2 h3 h4 h5 h6
            have h9 : St w [tcache c x, rows (.slice a9 x.bs.length p9) x.bs] _ := h7.pick 3 [0, 2]
            clear h7
            have t1 : (((x.bs.length) : Int) != ((x.bs.length) : Int)) = false := by simp
            have t2 : decide ((r : Int) < ((x.bs.length) : Int)) = false := by simp; omega
            go_wp2_with fail
            refine (len_is w _ _ c x (x.bs.length) rfl HYO.out h9).mono ?_
            rintro e w' ⟨rfl, rfl⟩
            go_wp2_with fail
            refine (len_is w _ _ c x (x.bs.length) rfl HYO.out h9).mono ?_
            rintro e w' ⟨rfl, rfl⟩
            go_wp2_with fail
            go_roundw
            case rel => exact ⟨k + 1, x, a9, p9, hlt, by go_num, HYO.out, HXB.out, HXR.out, rfl, h9⟩
            case measure => simp [intOf]; omega
      have b0 : (z % 6 == 0) = false := by simp; omega
      have b1 : (z % 6 == 1) = false := by simp; omega
      have b2 : (z % 6 == 2) = false := by simp; omega
      have hxl : x.bs.length ≤ r := by
        obtain ⟨x1, x2, x3, x4, x5, x6, x7, x8⟩ := hok
        omega
      have HXB := Lib.hid hxb
      have HXR := Lib.hid hxr
      by_cases h4 : z % 6 = 3
      · have b3 : (z % 6 == 3) = true := by simp; omega
        clear h3 h4
        by_cases hbs : x.bs = []
        · have t0 : ((x.bs.length : Int) == 0) = true := by rw [hbs]; rfl
          have HBS := Lib.hid hbs
          clear hbs hok hxb hxr
          go_wp2_with fail
          refine (remove_none w wr _ c x HO.out hs1 HBS.out).mono ?_
          rintro e w2 ⟨rfl, h2⟩
          go_wp2_with fail
          go_roundw
          case rel => exact ⟨k + 1, x, a9, p9, hlt, by go_num, HO.out, HXB.out, HXR.out, rfl, h2⟩
          case measure => simp [intOf]; omega
        · obtain ⟨bi, bl, hbi⟩ : ∃ bi bl, x.bs = bi ++ [bl] := by
            rcases List.eq_nil_or_concat x.bs with h | ⟨bi, bl, h⟩
            · exact absurd h hbs
            · exact ⟨bi, bl, by simpa using h⟩
          clear hbs
          have hxx := hok.rows.2 bl (by rw [hbi]; simp)
          obtain ⟨batch, xroom, low, bs⟩ := x
          simp only at hbi
          subst hbi
          have er : TC.rem ⟨batch, xroom, low, bi ++ [bl]⟩ = ⟨batch, xroom, min low bi.length, bi⟩ := by simp [TC.rem]
          have hyo := hok.rem
          rw [er] at hyo
          have HYO := Lib.hid hyo
          obtain ⟨x1, x2, x3, x4, x5, x6, x7, x8⟩ := hok
          simp only [List.length_append, List.length_singleton] at x1 x2 x3 x4 x5 x6 x7 x8 hxl hx8 hs1
          have t0 : (((bi.length + 1 : Nat) : Int) == 0) = false := by simp; omega
          have t1 : ((bi.length : Int) != (bi.length : Int)) = false := by simp
          have t2 : decide ((r : Int) < (bi.length : Int)) = false := by simp; omega
          simp only [List.length_append, List.length_singleton]
          clear er hyo hxb hxr x8
          go_wp2_with fail
          refine (remove_some w wr _ c batch xroom low bi bl x1 (by omega) x5 (by omega) hs1).mono ?_
          rintro e w2 ⟨a1, p1, rfl, h2⟩
          have i1 := ints_at h2
          obtain ⟨_, _, vs, hv, hvl, h3⟩ := rows_open (h2.front 2)
          simp only [List.length_append, List.length_singleton] at hv hvl h3
          cases hv
          obtain ⟨vi, v1, rfl⟩ : ∃ vi v1, vs = vi ++ [v1] := by
            rcases List.eq_nil_or_concat vs with h | ⟨vi, v1, h⟩
            · subst h; simp at hvl
            · exact ⟨vi, v1, by simpa using h⟩
          have hvi : vi.length = bi.length := by simpa using hvl
          clear hvl
          rw [rowsC_snoc _ _ _ _ hvi] at h3
          have h4 := St.two.1 (h3.front 1)
          obtain ⟨a4, p4, rfl⟩ := (ints_at (h4.front 1)).form
          have i4 := ints_at (h4.front 1)
          obtain ⟨hb, ho, hcap, hv, hcl, hcells⟩ := HP.arr_some (h4.front 2) (by omega)
          cases hv
          have cl := hcells bi.length (.slice a4 bl.length p4) (by rw [List.getElem?_append_right (by omega)]; simp [hvi])
          clear hcells
          go_wp2_with fail
          refine (Ints_any w2 a1 a4 p1 p4 _ _ i1 i4 (by omega) (by omega)).mono ?_
          rintro e w' ⟨rfl, n, rfl⟩
          rw [decide_eq_true (rfl : bl = bl)]
          have h5 := ((h4.front 2).mono (HP.arr_take (k := bi.length) (by omega) hcl)).drewN n
          rw [Nat.mul_one, List.take_left' hvi] at h5
          have h6 : St w [rows (.slice (some ⟨hb, ho, none⟩) bi.length p9) bi, tcache c ⟨batch, xroom, min low bi.length, bi⟩] (w2.drewN n) := rows_shut (h5.pick 5 [0, 1, 4])
          have h9 := h6.swap
          clear h2 h3 h4 h5 h6 i1 i4
          go_wp2_with fail
          refine (len_is w _ _ c _ bi.length rfl HYO.out h9).mono ?_
          rintro e w' ⟨rfl, rfl⟩
          go_wp2_with fail
          refine (len_is w _ _ c _ bi.length rfl HYO.out h9).mono ?_
          rintro e w' ⟨rfl, rfl⟩
          go_wp2_with fail
          go_roundw
          case rel => exact ⟨k + 1, _, _, _, hlt, by go_num, HYO.out, HXB.out, HXR.out, rfl, h9⟩
          case measure => simp [intOf]; omega
      have b3 : (z % 6 == 3) = false := by simp; omega
      have hxt := HO.out.tick
      have hxt2 := HO.out.tickN.2
      by_cases h5 : z % 6 = 4
      · have b5 : (z % 6 == 5) = false := by simp; omega
        clear h3 h4 h5 hok hxb hxr
        have HXT := Lib.hid hxt
        clear hxt
        obtain ⟨rr1, rr2⟩ := HO.out.rows
        have RR := Lib.hid rr2
        clear rr2
        go_wp2_with fail
        refine (tick_x w wr _ c x HO.out hs1).mono ?_
        rintro e w2 ⟨a2, p2, rfl, h2⟩
        have d0 := (h2.was hb0).trans k0
        have hyb : x.tick.bs = x.bs.drop x.tickN := rfl
        have hyl : x.tick.bs.length = x.bs.length - x.tickN := by rw [hyb, List.length_drop]
        generalize hn' : x.tickN = n at *
        have HN := Lib.hid hn'
        have hyr : x.tick.room = r := HXR.out
        have hyq : x.tick.batch = (m : Int) + 1 := HXB.out
        generalize hy' : x.tick = y at *
        have HY := Lib.hid hy'
        clear hn' hy'
        have ho : St w [rows (.slice a2 n p2) (x.bs.take n), tcache c y, rows (.slice a9 x.bs.length p9) x.bs] w2 := h2
        have HYB := Lib.hid hyb
        have HYR := Lib.hid hyr
        have HYQ := Lib.hid hyq
        have HYL := Lib.hid hyl
        clear h2 hyb hyr hyq hyl
        have HYO := HXT
        have HRO : Hid (∃ us, RowsAt w2 (.slice a2 n p2) n us (x.bs.take n)) := by
          obtain ⟨us, hro⟩ := rows_at ho
          have hol : (x.bs.take n).length = n := by rw [List.length_take]; omega
          rw [hol] at hro
          exact Lib.hid ⟨us, hro⟩
        have HOL : Hid ((x.bs.take n).length = n) := Lib.hid (by rw [List.length_take]; omega)
        have t0 : decide ((x.bs.length : Int) < (n : Int)) = false := by simp; omega
        obtain ⟨_, _, vs, hv, hvl, h6⟩ := rows_open (ho.front 2)
        cases hv
        cases a9 with
        | none =>
          rcases HP.arr_form h6 with ⟨h, h0⟩ | ⟨_, _, _, hv, _⟩
          case inr => cases hv
          obtain rfl : p9 = 0 := by injection h
          have hx0 : x.bs = [] := List.eq_nil_of_length_eq_zero h0
          obtain rfl : n = 0 := by omega
          have HRO' : Hid (∃ us, RowsAt w2 (.slice a2 0 p2) 0 us []) := Lib.hid (by
            have hro := rows_at ho
            rw [List.take_zero] at hro
            exact hro)
          have h8 : St w [tcache c y, rows (.slice none 0 0) y.bs] w2 := by
            have h8 := ho.pick 3 [1, 2]
            rw [h0] at h8
            rw [HYB.out, List.drop_zero]
            exact h8
          have hy0 : y.bs.length = 0 := by rw [HYB.out, List.drop_zero, hx0]; rfl
          have HY0 := Lib.hid hy0
          rw [h0]
          clear h h0 hx0 h6 hvl ho t0 hy0 HRO
          go_wp2_with fail
          obtain ⟨us, hro⟩ := HRO'.out
          refine (Same_is w2 true a2 none 0 p2 0 us [] [] [] rfl rfl rfl hro ⟨Reads.nil _ 1, rfl, fun k b h => by simp at h⟩ (by decide) (by simp) (by simp)).mono ?_
          rintro e w' ⟨rfl, dn, rfl⟩
          have h9 := h8.drewN dn
          clear h8 hro
          go_wp2_with fail
          refine (len_is w _ _ c y 0 HY0.out HYO.out h9).mono ?_
          rintro e w' ⟨rfl, rfl⟩
          go_wp2_with fail
          refine (len_is w _ _ c y 0 HY0.out HYO.out h9).mono ?_
          rintro e w' ⟨rfl, rfl⟩
          go_wp2_with fail
          go_roundw
          case rel => exact ⟨k + 1, y, none, 0, hlt, by go_num, HYO.out, HYQ.out, HYR.out, by rw [HY0.out], h9⟩
          case measure => simp [intOf]; omega
        | some a9 =>
          rcases HP.arr_form h6 with ⟨h, _⟩ | ⟨ab, ao, ac, hv, hca⟩
          · cases h
          cases hv
          obtain ⟨_, _, vs, hv, hvl, h6⟩ := rows_open (ho.front 2)
          cases hv
          obtain ⟨_, hrh⟩ : ∃ vs, RowsAt w2 (.slice (some ⟨ab, ao, none⟩) x.bs.length p9) x.bs.length vs x.bs := rows_at (ho.front 2)
          have hrt := rowsAt_take hrh hxt2
          have t1 : (((x.bs.length - n : Nat) : Int) != ((x.bs.length - n : Nat) : Int)) = false := by simp
          have t2 : decide ((r : Int) < ((x.bs.length - n : Nat) : Int)) = false := by simp; omega
          have HVL := Lib.hid hvl
          clear hvl
          go_wp2_with fail
          obtain ⟨us, hro⟩ := HRO.out
          refine (Same_is w2 true a2 _ n p2 _ us _ _ _ HOL.out HOL.out (decide_eq_true rfl) hro hrt (by omega) (fun b hb => RR.out b (List.mem_of_mem_take hb)) (fun b hb => RR.out b (List.mem_of_mem_take hb))).mono ?_
          rintro e w' ⟨rfl, dn, rfl⟩
          have h7 := h6.drewN dn
          have hpn : n ≤ p9 := by omega
          clear ho h6 hrh hrt hro
          go_wp2_with fail
          · have h8 := rows_from HVL.out hxt2 (.inr ⟨rfl, rfl, by omega⟩) h7
            rw [← HYB.out] at h8
            have h9 := St.swap (h8.swap.swap)
            have h9 : St w [tcache c y, rows (.slice (some ⟨ab, ao, none⟩) (x.bs.length - n) 0) y.bs] (w2.drewN dn) := h8.pick 3 [2, 0]
            clear h7 h8
            refine (len_is w _ _ c y (x.bs.length - n) HYL.out HYO.out h9).mono ?_
            rintro e w' ⟨rfl, rfl⟩
            go_wp2_with fail
            refine (len_is w _ _ c y (x.bs.length - n) HYL.out HYO.out h9).mono ?_
            rintro e w' ⟨rfl, rfl⟩
            go_wp2_with fail
            go_roundw
            case rel => exact ⟨k + 1, y, _, _, hlt, by go_num, HYO.out, HYQ.out, HYR.out, by rw [HYL.out], h9⟩
            case measure => simp [intOf]; omega
          · have h8 := rows_from HVL.out hxt2 (.inl ⟨rfl, rfl⟩) h7
            rw [← HYB.out] at h8
            have h9 := St.swap (h8.swap.swap)
            have h9 : St w [tcache c y, rows (.slice (some ⟨ab, ao + n, none⟩) (x.bs.length - n) (p9 - n)) y.bs] (w2.drewN dn) := h8.pick 3 [2, 0]
            clear h7 h8
            refine (len_is w _ _ c y (x.bs.length - n) HYL.out HYO.out h9).mono ?_
            rintro e w' ⟨rfl, rfl⟩
            go_wp2_with fail
            refine (len_is w _ _ c y (x.bs.length - n) HYL.out HYO.out h9).mono ?_
            rintro e w' ⟨rfl, rfl⟩
            go_wp2_with fail
            go_roundw
            case rel => exact ⟨k + 1, y, _, _, hlt, by go_num, HYO.out, HYQ.out, HYR.out, by rw [HYL.out], h9⟩
            case measure => simp [intOf]; omega
      · have b5 : (z % 6 == 5) = true := by simp; omega
        clear h3 h4 h5 hok hxb hxr
        have HXT := Lib.hid hxt
        clear hxt
        obtain ⟨rr1, rr2⟩ := HO.out.rows
        have RR := Lib.hid rr2
        clear rr2
        go_wp2_with fail
        refine (tick_x w wr _ c x HO.out hs1).mono ?_
        rintro e w2 ⟨a2, p2, rfl, h2⟩
        have d0 := (h2.was hb0).trans k0
        go_wp2_with fail
        refine (drain_any w w2 _ c x.tick HXT.out (h2.front 1)).mono ?_
        rintro e w3 ⟨a3, p3, rfl, h3⟩
        have hyo := HXT.out.drain
        have h3 : St w [rows (.slice a3 x.tick.bs.length p3) x.tick.bs, tcache c x.tick.drain, rows (.slice a2 x.tickN p2) (x.bs.take x.tickN), rows (.slice a9 x.bs.length p9) x.bs] w3 := h3
        obtain ⟨_, _, vs3, hv, hvl3, h4⟩ := rows_open h3
        cases hv
        have r3 := HP.arr_reads h4
        have o3 := oneCell_rows hvl3 (h4.front 1)
        have htl : (x.bs.take x.tickN).length = x.tickN := by rw [List.length_take]; omega
        obtain ⟨_, _, vs2, hv, hvl2, h5⟩ := rows_open (h4.front 3)
        rw [htl] at hv hvl2 h5
        cases hv
        have hdl : x.tick.bs.length = x.bs.length - x.tickN := List.length_drop
        have hvl2' : vs2.length = (x.bs.take x.tickN).length := by rw [htl]; exact hvl2
        generalize hn3 : x.tick.bs.length = n3 at *
        have hs1' : x.tickN + n3 ≤ x.bs.length := by omega
        have hs2' : x.bs.length ≤ x.tickN + n3 := by omega
        have HN3 := Lib.hid hn3
        have HVL2 := Lib.hid hvl2'
        have HYO := Lib.hid hyo
        obtain ⟨_, _, vs, hv, hvl, h6⟩ := rows_open (h3.front 3)
        cases hv
        clear hn3 hdl hvl2 hvl2' htl hvl3 h4 h3 hyo hvl h2
        cases a9 with
        | none =>
          rcases HP.arr_form h6 with ⟨h, h0⟩ | ⟨_, _, _, hv, _⟩
          case inr => cases hv
          obtain rfl : p9 = 0 := by injection h
          have hx0 : x.bs = [] := List.eq_nil_of_length_eq_zero h0
          have H0 := Lib.hid h0
          have HX0 := Lib.hid hx0
          rw [h0]
          have hx8' : x.bs.length ≤ 0 := by omega
          clear h h0 hx0 h6
          go_wp2_with (at_builtin; refine wpList_append_st rfl _ _ 26 rfl 27 i0 _ 1 24 Try.underlying26 hi hz0 hz1 hz2 rfl (.slice a2 x.tickN p2) (.slice a3 n3 p3) rfl rfl x.tickN vs2 (by exact h5) n3 vs3 (by exact r3) (by exact o3) (by unfold maxLen; omega) (by omega) ?_; intro v5 w5 hs5 hv5; clear hv5; obtain ⟨a5, p5, rfl⟩ := (HP.arr_reads hs5).form; (obtain ⟨n, hn'⟩ : ∃ n, x.tickN + n3 = n := ⟨_, rfl⟩); rw [hn'] at hs5 ⊢; (have HN := Lib.hid hn'); (have hxt2 : n ≤ x.bs.length := by omega); (obtain rfl : n = 0 := by omega); clear hn')
          have h0 := H0.out
          have hx0 := HX0.out
          have hnx : 0 = x.bs.length := by have := HN.out; omega
          have htk : x.bs.take 0 = x.bs := List.take_of_length_le (by omega)
          have hyb : x.tick.drain.bs = x.bs.drop 0 := by rw [hnx, List.drop_length]; rfl
          have hyl : x.tick.drain.bs.length = x.bs.length - 0 := by rw [hyb, List.length_drop]
          have hyr : x.tick.drain.room = r := HXR.out
          have hyq : x.tick.drain.batch = (m : Int) + 1 := HXB.out
          have hwr : rowsC vs2 (x.bs.take x.tickN) * rowsC vs3 x.tick.bs = rowsC (vs2 ++ vs3) x.bs := by
            rw [← rowsC_append _ _ _ _ HVL2.out]
            show rowsC _ (x.bs.take x.tickN ++ x.bs.drop x.tickN) = _
            rw [List.take_append_drop]
          have ho : St w [rows (.slice a5 0 p5) (x.bs.take 0), tcache c x.tick.drain, rows (.slice none x.bs.length 0) x.bs] w5 := by
            have h6 := (St.two.2 (hs5.pick 6 [1, 3, 0, 4, 5])).eq hwr
            have h7 := h6.swap
            rw [htk]
            refine rows_shut (vs := vs2 ++ vs3) ?_
            rw [← hnx]
            rw [← hnx] at h7
            exact h7
          generalize hy' : x.tick.drain = y at *
          have HY := Lib.hid hy'
          have HYB := Lib.hid hyb
          have HYR := Lib.hid hyr
          have HYQ := Lib.hid hyq
          have HYL := Lib.hid hyl
          clear hy' hyb hyr hyq hyl hwr htk hnx hs5
          have HRO' : Hid (∃ us, RowsAt w5 (.slice a5 0 p5) 0 us []) := Lib.hid (by
            have hro := rows_at ho
            rw [List.take_zero] at hro
            exact hro)
          have h8 : St w [tcache c y, rows (.slice none 0 0) y.bs] w5 := by
            have h8 := ho.pick 3 [1, 2]
            rw [h0] at h8
            rw [HYB.out, List.drop_zero]
            exact h8
          have hy0 : y.bs.length = 0 := by rw [HYB.out, List.drop_zero, hx0]; rfl
          have HY0 := Lib.hid hy0
          clear h0 hx0 ho hy0
          obtain ⟨us, hro⟩ := HRO'.out
          refine (Same_is w5 true a5 none 0 p5 0 us [] [] [] rfl rfl rfl hro ⟨Reads.nil _ 1, rfl, fun k b h => by simp at h⟩ (by decide) (by simp) (by simp)).mono ?_
          rintro e w' ⟨rfl, dn, rfl⟩
          have h9 := h8.drewN dn
          clear h8 hro
          go_wp2_with fail
          refine (len_is w _ _ c y 0 HY0.out HYO.out h9).mono ?_
          rintro e w' ⟨rfl, rfl⟩
          go_wp2_with fail
          refine (len_is w _ _ c y 0 HY0.out HYO.out h9).mono ?_
          rintro e w' ⟨rfl, rfl⟩
          go_wp2_with fail
          go_roundw
          case rel => exact ⟨k + 1, y, none, 0, hlt, by go_num, HYO.out, HYQ.out, HYR.out, by rw [HY0.out], h9⟩
          case measure => simp [intOf]; omega
        | some a9 =>
          rcases HP.arr_form h6 with ⟨h, _⟩ | ⟨ab, ao, ac, hv, hca⟩
          · cases h
          cases hv
          clear h6
          go_wp2_with (at_builtin; refine wpList_append_st rfl _ _ 26 rfl 27 i0 _ 1 24 Try.underlying26 hi hz0 hz1 hz2 rfl (.slice a2 x.tickN p2) (.slice a3 n3 p3) rfl rfl x.tickN vs2 (by exact h5) n3 vs3 (by exact r3) (by exact o3) (by unfold maxLen; omega) (by omega) ?_; intro v5 w5 hs5 hv5; clear hv5; obtain ⟨a5, p5, rfl⟩ := (HP.arr_reads hs5).form; (obtain ⟨n, hn'⟩ : ∃ n, x.tickN + n3 = n := ⟨_, rfl⟩); rw [hn'] at hs5 ⊢; (have HN := Lib.hid hn'); (have hxt2 : n ≤ x.bs.length := by omega); (have t9 : ((n : Int) != (x.bs.length : Int)) = false := by simp; omega); (have t0 : decide ((x.bs.length : Int) < (n : Int)) = false := by simp; omega); clear hn')
          have hnx : n = x.bs.length := by have := HN.out; omega
          have htk : x.bs.take n = x.bs := List.take_of_length_le (by omega)
          have hyb : x.tick.drain.bs = x.bs.drop n := by rw [hnx, List.drop_length]; rfl
          have hyl : x.tick.drain.bs.length = x.bs.length - n := by rw [hyb, List.length_drop]
          have hyr : x.tick.drain.room = r := HXR.out
          have hyq : x.tick.drain.batch = (m : Int) + 1 := HXB.out
          have hwr : rowsC vs2 (x.bs.take x.tickN) * rowsC vs3 x.tick.bs = rowsC (vs2 ++ vs3) x.bs := by
            rw [← rowsC_append _ _ _ _ HVL2.out]
            show rowsC _ (x.bs.take x.tickN ++ x.bs.drop x.tickN) = _
            rw [List.take_append_drop]
          have ho : St w [rows (.slice a5 n p5) (x.bs.take n), tcache c x.tick.drain, rows (.slice (some ⟨ab, ao, none⟩) x.bs.length p9) x.bs] w5 := by
            have h6 := (St.two.2 (hs5.pick 6 [1, 3, 0, 4, 5])).eq hwr
            have h7 := h6.swap
            rw [htk]
            refine rows_shut (vs := vs2 ++ vs3) ?_
            rw [← hnx]
            rw [← hnx] at h7
            exact h7
          generalize hy' : x.tick.drain = y at *
          have HY := Lib.hid hy'
          have HYB := Lib.hid hyb
          have HYR := Lib.hid hyr
          have HYQ := Lib.hid hyq
          have HYL := Lib.hid hyl
          clear hy' hyb hyr hyq hyl hwr htk hnx hs5
          have HRO : Hid (∃ us, RowsAt w5 (.slice a5 n p5) n us (x.bs.take n)) := by
            obtain ⟨us, hro⟩ := rows_at ho
            have hol : (x.bs.take n).length = n := by rw [List.length_take]; omega
            rw [hol] at hro
            exact Lib.hid ⟨us, hro⟩
          have HOL : Hid ((x.bs.take n).length = n) := Lib.hid (by rw [List.length_take]; omega)
          obtain ⟨_, _, vs, hv, hvl, h6⟩ := rows_open (ho.front 2)
          cases hv
          obtain ⟨_, hrh⟩ : ∃ vs, RowsAt w5 (.slice (some ⟨ab, ao, none⟩) x.bs.length p9) x.bs.length vs x.bs := rows_at (ho.front 2)
          have hrt := rowsAt_take hrh hxt2
          have t1 : (((x.bs.length - n : Nat) : Int) != ((x.bs.length - n : Nat) : Int)) = false := by simp
          have t2 : decide ((r : Int) < ((x.bs.length - n : Nat) : Int)) = false := by simp; omega
          have HVL := Lib.hid hvl
          clear hvl
          obtain ⟨us, hro⟩ := HRO.out
          refine (Same_is w5 true a5 _ n p5 _ us _ _ _ HOL.out HOL.out (decide_eq_true rfl) hro hrt (by omega) (fun b hb => RR.out b (List.mem_of_mem_take hb)) (fun b hb => RR.out b (List.mem_of_mem_take hb))).mono ?_
          rintro e w' ⟨rfl, dn, rfl⟩
          have h7 := h6.drewN dn
          have hpn : n ≤ p9 := by omega
          clear ho h6 hrh hrt hro
          go_wp2_with fail
          · have h8 := rows_from HVL.out hxt2 (.inr ⟨rfl, rfl, by omega⟩) h7
            rw [← HYB.out] at h8
            have h9 := St.swap (h8.swap.swap)
            have h9 : St w [tcache c y, rows (.slice (some ⟨ab, ao, none⟩) (x.bs.length - n) 0) y.bs] (w5.drewN dn) := h8.pick 3 [2, 0]
            clear h7 h8
            refine (len_is w _ _ c y (x.bs.length - n) HYL.out HYO.out h9).mono ?_
            rintro e w' ⟨rfl, rfl⟩
            go_wp2_with fail
            refine (len_is w _ _ c y (x.bs.length - n) HYL.out HYO.out h9).mono ?_
            rintro e w' ⟨rfl, rfl⟩
            go_wp2_with fail
            go_roundw
            case rel => exact ⟨k + 1, y, _, _, hlt, by go_num, HYO.out, HYQ.out, HYR.out, by rw [HYL.out], h9⟩
            case measure => simp [intOf]; omega
          · have h8 := rows_from HVL.out hxt2 (.inl ⟨rfl, rfl⟩) h7
            rw [← HYB.out] at h8
            have h9 := St.swap (h8.swap.swap)
            have h9 : St w [tcache c y, rows (.slice (some ⟨ab, ao + n, none⟩) (x.bs.length - n) (p9 - n)) y.bs] (w5.drewN dn) := h8.pick 3 [2, 0]
            clear h7 h8
            refine (len_is w _ _ c y (x.bs.length - n) HYL.out HYO.out h9).mono ?_
            rintro e w' ⟨rfl, rfl⟩
            go_wp2_with fail
            refine (len_is w _ _ c y (x.bs.length - n) HYL.out HYO.out h9).mono ?_
            rintro e w' ⟨rfl, rfl⟩
            go_wp2_with fail
            go_roundw
            case rel => exact ⟨k + 1, y, _, _, hlt, by go_num, HYO.out, HYQ.out, HYR.out, by rw [HYL.out], h9⟩
            case measure => simp [intOf]; omega
    · go_wp2_with fail
      refine (alive_any w _ _ hs1).mono ?_
      rintro e w' ⟨rfl, hs⟩
      go_wp2_with fail
      go_ret
      exact ⟨rfl, hs.below⟩
end Go.Proofs.Ythlmjdkpkikcpaa

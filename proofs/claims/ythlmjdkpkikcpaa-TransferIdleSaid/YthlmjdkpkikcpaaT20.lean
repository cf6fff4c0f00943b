/-
  The statement TransferIdle: its walk.
-/
import Derived.Test.YthlmjdkpkikcpaaT16
namespace Go.Proofs.Ythlmjdkpkikcpaa
open Go.RowKit

/-- how many batches are left after so many ticks -/
def left5 : Nat → Nat
  | 0 => 8
  | 1 => 8
  | 2 => 4
  | 3 => 2
  | 4 => 1
  | _ => 0
theorem left5_succ {y : TC} (h : y.ok) {k : Nat} (hk : k < 5) (h1 : y.bs.length ≤ left5 k) (h2 : k = 0 ∨ y.low = y.bs.length) : y.tick.bs.length ≤ left5 (k + 1) ∧ y.tick.low = y.tick.bs.length := by
  obtain ⟨t1, t2⟩ := h.tickN
  have e1 : y.tick.bs.length = y.bs.length - y.tickN := List.length_drop
  refine ⟨?_, by show ((y.bs.length - y.tickN : Nat) : Int) = _; rw [e1]⟩
  rw [e1]
  match k, hk with
  | 0, _ => simp only [left5] at h1 ⊢; omega
  | 1, _ => simp only [left5] at h1 ⊢; omega
  | 2, _ => simp only [left5] at h1 ⊢; omega
  | 3, _ => simp only [left5] at h1 ⊢; omega
  | 4, _ => simp only [left5] at h1 ⊢; omega
theorem flat_append (a b : List (List Int)) : flat (a ++ b) = flat a ++ flat b := by simp [flat]
theorem tick_flat (y : TC) : flat (y.bs.take y.tickN) ++ flat y.tick.bs = flat y.bs := by
  rw [← flat_append]
  show flat (y.bs.take y.tickN ++ y.bs.drop y.tickN) = _
  rw [List.take_append_drop]

set_option maxHeartbeats 4000000 in
theorem idle_walk (many : Int) (_w1 : (Lit.int .i64 many).wf = true) (room : Int) (_w2 : (Lit.int .i64 room).wf = true) (a : Option Addr) (cap : Nat) (acts : List ActV) (w : World) (h : ActsAt w (.slice a acts.length cap) acts) (hn : acts.length ≤ 9223372036854775807) :
    Calls Try.prog 5 #[.int .i64 many, .int .i64 room, .slice a acts.length cap] w fun e w' => e = .returned (.bool true) ∧ Below w.heap.size w w' := by
  have H := Lib.hid h
  clear h
  by_cases hg : greatB acts = true
  · have HG := Lib.hid hg
    clear hg
    go_enter Try.func5, Try.ntmps5
    go_wp2_with fail
    refine (great_any w a cap acts H.out hn).mono ?_
    rintro e w' ⟨rfl, rfl⟩
    rw [HG.out]
    go_wp2_with fail
    refine (alive_any w w [] (St.start w)).mono ?_
    rintro e w' ⟨rfl, hs⟩
    go_wp2_with fail
    go_ret
    exact ⟨rfl, hs.below⟩
  have hg : greatB acts = false := by simpa using hg
  obtain ⟨hn60, hl60⟩ := great_no hg
  have HG := Lib.hid hg
  clear hg hl60
  by_cases hm : 1 ≤ many ∧ many ≤ 32 ∧ 0 ≤ room ∧ room ≤ 8
  case neg =>
    have HB := Lib.hid (made_bad w many room (.slice a acts.length cap) hm)
    clear hm
    go_enter Try.func5, Try.ntmps5
    go_wp2_with fail
    refine (great_any w a cap acts H.out hn).mono ?_
    rintro e w' ⟨rfl, rfl⟩
    rw [HG.out]
    go_wp2_with fail
    refine HB.out.mono ?_
    rintro e w' ⟨rfl, rfl⟩
    go_wp2_with fail
    refine (alive_any w w [] (St.start w)).mono ?_
    rintro e w' ⟨rfl, hs⟩
    go_wp2_with fail
    go_ret
    exact ⟨rfl, hs.below⟩
  obtain ⟨i0, hi, hz0, hz1, hz2⟩ := info_parts info3
  obtain ⟨x1, x2, x3, x4⟩ := hm
  have hok := TC.acts_ok acts _ (TC.new_ok x1 x2 x3 x4)
  generalize hx : TC.acts ⟨many, room, 0, []⟩ acts = x at *
  have HX := Lib.hid hx
  have HOK := Lib.hid hok
  have hf := hok.sum
  rw [← flatten_length] at hf
  have h8 : x.bs.length ≤ 8 := by
    obtain ⟨x1, x2, x3, x4, x5, x6, x7, x8⟩ := hok
    omega
  clear hx hok
  go_enter Try.func5, Try.ntmps5
  go_wp2_with fail
  refine (great_any w a cap acts H.out hn).mono ?_
  rintro e w' ⟨rfl, rfl⟩
  rw [HG.out]
  go_wp2_with fail
  refine (made_good w w [] many room x1 x2 x3 x4 (St.start w) a cap acts H.out hn60).mono ?_
  rintro e w1 ⟨c, rfl, h1⟩
  rw [HX.out] at h1
  go_wp2_with fail
  refine (objects_any w w1 _ c x HOK.out h1).mono ?_
  rintro e w2 ⟨a8, p8, rfl, h2⟩
  go_wp2_with fail
  go_loopw [9, 10] (fun v i wr => ∃ (k : Nat) (y : TC) (ys : List Int) (a9 : Option Addr) (p9 : Nat), k ≤ 5 ∧ i = .int .i64 k ∧ y.ok ∧ Hid (ys ++ flat y.bs = flat x.bs) ∧ y.bs.length ≤ left5 k ∧ (k = 0 ∨ y.low = y.bs.length) ∧ v = .slice a9 ys.length p9 ∧
    St w [tcache c y, ints v ys, ints (.slice a8 (flat x.bs).length p8) (flat x.bs)] wr) (fun _ i _ => 5 - (intOf i).toNat)
  case atStart => exact ⟨0, x, [], none, 0, Nat.zero_le _, rfl, HOK.out, Lib.hid rfl, h8, .inl rfl, rfl, ((h2.arr_nil 3 1).front 2).pick 3 [0, 1, 2]⟩
  case round =>
    clear h1 h2
    obtain ⟨k, y, ys, a9, p9, hk, rfl, hyok, hyf, hl1, hl2, rfl, hs1⟩ := hrel
    have hyl := congrArg List.length hyf.out
    rw [List.length_append] at hyl
    have HO := Lib.hid hyok
    by_cases hlt : k < 5
    · obtain ⟨t1, t2⟩ := left5_succ hyok hlt hl1 hl2
      have htf := tick_flat y
      have htl := congrArg List.length htf
      rw [List.length_append] at htl
      have HTF := Lib.hid htf
      have hlen : (y.bs.take y.tickN).length = y.tickN := by rw [List.length_take]; have := hyok.tickN.2; omega
      have hyt := hyok.tick
      have hn8 : y.tickN ≤ 8 := by
        have := hyok.tickN.2
        obtain ⟨x1, x2, x3, x4, x5, x6, x7, x8⟩ := hyok
        omega
      clear hyok htf
      have HT2 := Lib.hid t2
      have HL1 := Lib.hid hl2
      clear t2 hl2
      go_wp2_with fail
      refine (tick_x w wr _ c y HO.out hs1).mono ?_
      rintro e w2 ⟨a2, p2, rfl, h2⟩
      generalize hts : y.bs.take y.tickN = ts at *
      have HTS := Lib.hid hts
      clear hts
      go_wp2_with fail
      go_loopw [9, 12] (fun v i wr => ∃ (j : Nat) (zs : List Int) (a9 : Option Addr) (p9 : Nat), j ≤ y.tickN ∧ i = .int .i64 j ∧ Hid (zs = ys ++ flat (ts.take j)) ∧ v = .slice a9 zs.length p9 ∧
        St w [ints v zs, rows (.slice a2 y.tickN p2) ts, tcache c y.tick, ints (.slice a8 (flat x.bs).length p8) (flat x.bs)] wr) (fun _ i _ => y.tickN - (intOf i).toNat)
      case atStart => exact ⟨0, ys, a9, p9, Nat.zero_le _, rfl, Lib.hid (by simp [flat]), rfl, h2.pick 3 [2, 0, 1]⟩
      case round =>
        clear h2 hs1
        obtain ⟨j, zs, a9, p9, hj, rfl, hzs, rfl, hs2⟩ := hrel
        have hzl := congrArg List.length hzs.out
        rw [List.length_append] at hzl
        have hfl := flatten_length (ts.take j)
        have hfl2 := flatten_length ts
        by_cases hjl : j < y.tickN
        · obtain ⟨b, hb⟩ : ∃ b, ts[j]? = some b := ⟨ts[j], List.getElem?_eq_getElem (by omega)⟩
          obtain ⟨vs, hrow⟩ := rows_at (hs2.front 1)
          obtain ⟨q1, q2, q3⟩ := hrow
          obtain ⟨ak, ck, hv, hib⟩ := q3 j b hb
          rw [hlen] at q1
          obtain ⟨b0, off, cap', he, hc, hx⟩ := q1.lies (by omega)
          cases he
          have hcell := hx j _ hv
          have hle2 := sumLen_take_le ts (j + 1)
          have hts := sumLen_take_succ ts j b hb
          have hbb : zs.length + b.length ≤ 256 := by omega
          have HF := Lib.hid (flatten_take_succ ts j b hb)
          clear hb hts hfl hfl2 hx hv q1 q2 q3 hzl hyl htl
          go_wp2_with (at_builtin; refine wpList_append_st rfl _ _ 27 rfl 3 i0 _ 1 8 Try.underlying27 hi hz0 hz1 hz2 rfl _ _ rfl rfl zs.length (zs.map (Value.int .i64)) hs2 b.length (b.map (Value.int .i64)) hib (oneCell_ints b) (by unfold maxLen; omega) (by omega) ?_; intro v3 w3 hs3 hv3; clear hv3; obtain ⟨a3, p3, rfl⟩ := (HP.arr_reads hs3).form)
          go_roundw
          case rel =>
            refine ⟨j + 1, zs ++ b, a3, p3, hjl, by go_num, Lib.hid ?_, ?_, ?_⟩
            · rw [HF.out, hzs.out, List.append_assoc]
            · rw [List.length_append]
            · unfold ints
              rw [List.length_append, List.map_append]
              exact hs3
          case measure => simp [intOf]; omega
        · have hje : ts.take j = ts := List.take_of_length_le (by omega)
          rw [hje] at hzs
          clear hje
          go_wp2_with fail
          go_roundw
          case rel =>
            refine ⟨k + 1, y.tick, zs, a9, p9, hlt, by go_num, hyt, Lib.hid ?_, t1, .inr HT2.out, rfl, (hs2.pick 3 [2, 0])⟩
            rw [hzs.out, List.append_assoc, HTF.out, hyf.out]
          case measure => simp [intOf]; omega
    · have hk5 : k = 5 := by omega
      subst hk5
      have hy0 : y.bs = [] := List.eq_nil_of_length_eq_zero (by simp only [left5] at hl1; omega)
      have hy1 : ys = flat x.bs := by have := hyf.out; rw [hy0] at this; simpa [flat] using this
      have hl0 : y.bs.length = 0 := by rw [hy0]; rfl
      subst hy1
      clear hy0 hl2
      have i9 := ints_at (hs1.front 1)
      have i8 := ints_at (hs1.front 2)
      go_wp2_with fail
      refine (len_any w wr _ c y HO.out hs1).mono ?_
      rintro e w' ⟨rfl, rfl⟩
      rw [hl0]
      go_wp2_with fail
      refine (Ints_any wr a8 a9 p8 p9 _ _ i8 i9 (by omega) (by omega)).mono ?_
      rintro e w' ⟨rfl, n, rfl⟩
      rw [decide_eq_true (rfl : flat x.bs = flat x.bs)]
      have h7 := hs1.drewN n
      go_wp2_with fail
      refine (alive_any w _ _ h7).mono ?_
      rintro e w' ⟨rfl, hs⟩
      go_wp2_with fail
      go_ret
      exact ⟨rfl, hs.below⟩
end Go.Proofs.Ythlmjdkpkikcpaa

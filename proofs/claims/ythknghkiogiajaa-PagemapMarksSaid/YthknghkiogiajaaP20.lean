/-
  The statement PagemapMarks: its walk. (Printed by mkP20.py.)
-/
import Derived.Test.YthknghkiogiajaaP19
namespace Go.Proofs.Ythknghkiogiajaa
open Go.RowKit

set_option maxRecDepth 10000 in
set_option maxHeartbeats 8000000 in
theorem marks_walk (a : Option Addr) (cap : Nat) (acts : List ActV) (w : World) (h : ActsAt w (.slice a acts.length cap) acts) (hn : acts.length ≤ 9223372036854775807) :
    Calls Try.prog 6 #[.slice a acts.length cap] w fun e w' => e = .returned (.bool true) ∧ Below w.heap.size w w' := by
  have H := Lib.hid h
  clear h
  by_cases hg : 60 < acts.length
  · have HG := Lib.hid (decide_eq_true hg)
    clear hg
    go_enter Try.func6, Try.ntmps6
    go_wp2_with fail
    refine (great_any w a _ cap hn).mono ?_
    rintro e w' ⟨rfl, rfl⟩
    rw [HG.out]
    go_wp2_with fail
    refine (alive_any w w [] (St.start w)).mono ?_
    rintro e w' ⟨rfl, hs⟩
    go_wp2_with fail
    go_ret
    exact ⟨rfl, hs.below⟩
  have hn60 : acts.length ≤ 60 := by omega
  have HG := Lib.hid (decide_eq_false hg)
  clear hg
  have hok := fOk_acts acts fOk_zero
  generalize hf : actsF (fun _ => 0) acts = f at *
  have HF := Lib.hid hf
  have HO := Lib.hid (mks_ok f 1024)
  have HN := Lib.hid (mks_no hok 1024 (Nat.le_refl _))
  have HD := Lib.hid (mks_ord f 1024)
  have HS := Lib.hid (mks_sum f 1024)
  have HE := Lib.hid (replay_all f)
  have hll := mks_len f 1024
  have hcn := cnt_le 1024 (nz f)
  clear hf hok
  go_enter Try.func6, Try.ntmps6
  go_wp2_with fail
  refine (great_any w a _ cap hn).mono ?_
  rintro e w' ⟨rfl, rfl⟩
  rw [HG.out]
  go_wp2_with fail
  refine (made_any w w [] (St.start w) a cap acts H.out hn60).mono ?_
  rintro e w1 ⟨c, rfl, h1⟩
  rw [HF.out] at h1
  go_wp2_with fail
  refine (new_any w w1 _ h1).mono ?_
  rintro e w2 ⟨c2, rfl, h2⟩
  go_wp2_with fail
  refine (Marks_any w w2 _ c f h2.swap).mono ?_
  rintro e w3 ⟨a3, cap3, rfl, h3⟩
  generalize hl : mks f 1024 = l at *
  have HL := Lib.hid hl
  clear hl h1 h2
  have h4 : St w (mapP c2 (fun _ => 0) :: marksP (.slice a3 l.length cap3) l :: mapP c f :: []) w3 := h3.pick 3 [2, 0, 1]
  clear h3
  have hpos : ∀ k, 0 ≤ sumMk (l.take k) ∧ sumMk (l.take k) ≤ 1024 := fun k => by
    have := sumMk_le (fun x hx => (HO.out x hx).2.1) k
    have := HS.out
    omega
  have HP := Lib.hid hpos
  clear hpos
  go_wp2_with fail
  go_loopw [6, 7] (fun sm i wr => ∃ k : Nat, k ≤ l.length ∧ i = .int .i64 k ∧ sm = .int .i64 (sumMk (l.take k)) ∧ St w (mapP c2 (replay (fun _ => 0) (l.take k)) :: marksP (.slice a3 l.length cap3) l :: mapP c f :: []) wr) (fun _ i _ => l.length - (intOf i).toNat)
  case atStart => exact ⟨0, Nat.zero_le _, rfl, rfl, h4⟩
  case round =>
    clear h4
    obtain ⟨k, hk, rfl, rfl, hs1⟩ := hrel
    by_cases hlt : k < l.length
    · obtain ⟨y, hy⟩ : ∃ y, l[k]? = some y := ⟨l[k], List.getElem?_eq_getElem hlt⟩
      obtain ⟨b, off, cp, e1, k0, k1, k2⟩ := (marks_at (hs1.front 1)).cell hy
      injection e1 with e1 e2 e3
      clear e2 e3
      subst e1
      obtain ⟨o1, o2, o3⟩ := HO.out y (List.mem_of_getElem? hy)
      obtain ⟨n1, n2⟩ := HN.out y (List.mem_of_getElem? hy)
      have HT := Lib.hid (replay_succ (fun _ => 0) hy)
      have HU := Lib.hid (sumMk_succ hy)
      obtain ⟨u1, u2⟩ := HP.out k
      obtain ⟨u3, u4⟩ := HP.out (k + 1)
      rw [HU.out] at u3 u4
      have b1 : decide (y.n < 1) = false := by simp; omega
      have b2 : decide (y.no < 1) = false := by simp; omega
      have hS := fun w0 w F hs => Set_x w0 w F c2 (replay (fun _ => 0) (l.take k)) hs y.s y.n y.no
      have hok : okSet y.s y.n y.no := ⟨⟨n1, n2⟩, ⟨o1, o2, by omega⟩⟩
      rw [show SetE y.s y.n y.no = 0 from if_pos hok, show Mset (replay (fun _ => 0) (l.take k)) y.s y.n y.no = replay (fun _ => 0) (l.take (k + 1)) by rw [HT.out]; exact if_pos hok] at hS
      have HSET := Lib.hid hS
      clear hS hok
      have hw1 : IntKind.i64.wrap (sumMk (l.take k) + y.n) = sumMk (l.take k) + y.n := IntWalk.i64_in _ (by omega)
      rcases Nat.eq_zero_or_pos k with hk0 | hk0
      · have b4 : decide (0 < (k : Int)) = false := decide_eq_false (by omega)
        have b4' : decide (0 < k) = false := decide_eq_false (by omega)
        have hkk0 : (0 : Int) ≤ (k : Int) := by omega
        have hkk1 : (k : Int) < (l.length : Int) := by omega
        have HY := Lib.hid hy
        clear hy hk0
        go_wp2_with fail
        go_quiet (fail)
        have hsq := hs1.drewN nq
        go_wp2_with fail
        refine wp_region_tail_drew 16 (by kernel_rfl) (by kernel_rfl) ?_
        simp only [List.take_succ_cons, List.take_zero, List.drop_succ_cons, List.drop_zero]
        repeat still_step
        refine wpStill_nil ?_
        have hsq2 := hsq.drew
        go_wp2_with fail
        refine (HSET.out w _ _ hsq2).mono ?_
        rintro e w5 ⟨rfl, h5⟩
        obtain ⟨b9, off9, cp9, e9, m0, m1, m2⟩ := (marks_at (h5.front 1)).cell HY.out
        injection e9 with e9 _ _
        injection e9 with e9
        injection e9 with e9 e10
        rename_i x1 x2
        clear x1 x2
        subst e9 e10
        go_wp2_with fail
        go_roundw
        case rel => exact ⟨k + 1, hlt, by go_num, by rw [HU.out], h5⟩
        case measure => simp [intOf]; omega
      · obtain ⟨j, rfl⟩ : ∃ j, k = j + 1 := ⟨k - 1, by omega⟩
        obtain ⟨x, hx⟩ : ∃ x, l[j]? = some x := ⟨l[j], List.getElem?_eq_getElem (by omega)⟩
        obtain ⟨b', off', cp', e1, j0, j1, j2⟩ := (marks_at (hs1.front 1)).cell hx
        injection e1 with e1 e2 e3
        injection e1 with e1
        injection e1 with e4 e5
        clear e2 e3
        subst e4 e5
        obtain ⟨p1, p2, p3⟩ := HO.out x (List.mem_of_getElem? hx)
        obtain ⟨d1, d2⟩ := HD.out j x y hx hy
        have HY := Lib.hid hy
        have HX := Lib.hid hx
        clear hy hx hk0
        have hw2 : IntKind.i64.wrap (x.s + x.n) = x.s + x.n := IntWalk.i64_in _ (by omega)
        have b3 : decide (y.s < x.s + x.n) = false := by simp; omega
        have b4 : decide (0 < (j : Int) + 1) = true := decide_eq_true (by omega)
        have hk0 : (0 : Int) ≤ (j : Int) + 1 := by omega
        have hk1 : (j : Int) + 1 < (l.length : Int) := by omega
        by_cases t1 : x.s + x.n = y.s
        · have b5 : (x.s + x.n == y.s) = true := by simp [t1]
          have b6 : (x.no == y.no) = false := by simp; exact fun h => d2 ⟨t1, h⟩
          clear t1 d1 d2
          go_wp2_with fail
          go_quiet (fail)
          have hsq := hs1.drewN nq
          go_wp2_with fail
          refine wp_region_tail_drew 16 (by kernel_rfl) (by kernel_rfl) ?_
          simp only [List.take_succ_cons, List.take_zero, List.drop_succ_cons, List.drop_zero]
          repeat still_step
          refine wpStill_nil ?_
          have hsq2 := hsq.drew
          go_wp2_with fail
          refine (HSET.out w _ _ hsq2).mono ?_
          rintro e w5 ⟨rfl, h5⟩
          obtain ⟨b9, off9, cp9, e9, m0, m1, m2⟩ := (marks_at (h5.front 1)).cell HY.out
          injection e9 with e9 _ _
          injection e9 with e9
          injection e9 with e9 e10
          rename_i x1 x2
          clear x1 x2
          subst e9 e10
          go_wp2_with fail
          go_roundw
          case rel => exact ⟨(j + 1) + 1, hlt, by go_num, by rw [HU.out], h5⟩
          case measure => simp [intOf]; omega
        · have b5 : (x.s + x.n == y.s) = false := by simp [t1]
          clear t1 d1 d2
          go_wp2_with fail
          go_quiet (fail)
          have hsq := hs1.drewN nq
          go_wp2_with fail
          refine wp_region_tail_drew 16 (by kernel_rfl) (by kernel_rfl) ?_
          simp only [List.take_succ_cons, List.take_zero, List.drop_succ_cons, List.drop_zero]
          repeat still_step
          refine wpStill_nil ?_
          have hsq2 := hsq.drew
          go_wp2_with fail
          refine (HSET.out w _ _ hsq2).mono ?_
          rintro e w5 ⟨rfl, h5⟩
          obtain ⟨b9, off9, cp9, e9, m0, m1, m2⟩ := (marks_at (h5.front 1)).cell HY.out
          injection e9 with e9 _ _
          injection e9 with e9
          injection e9 with e9 e10
          rename_i x1 x2
          clear x1 x2
          subst e9 e10
          go_wp2_with fail
          go_roundw
          case rel => exact ⟨(j + 1) + 1, hlt, by go_num, by rw [HU.out], h5⟩
          case measure => simp [intOf]; omega
    · have e : l.take k = l := List.take_of_length_le (by omega)
      rw [e, mapP_ext HE.out] at hs1
      rw [e, HS.out]
      clear e
      have hm := hs1.pick 3 [2]
      go_wp2_with fail
      go_loop [6, 8] (fun sm i => ∃ q : Nat, q ≤ 1024 ∧ i = .int .i64 q ∧ sm = .int .i64 ((cnt 1024 (nz f) : Int) - cnt q (nz f))) (fun _ i => 1024 - (intOf i).toNat)
      case atStart => exact ⟨0, Nat.zero_le _, rfl, by show _ = Value.int .i64 (_ - 0); rw [Int.sub_zero]⟩
      case round =>
        obtain ⟨q, hq, rfl, rfl⟩ := hrel
        have m1 := cnt_le q (nz f)
        by_cases hlt : q < 1024
        · by_cases h0 : f q = 0
          · have b0 : (f q != 0) = false := by simp [h0]
            have E := Lib.hid (cnt_false (n := q) (P := nz f) b0)
            clear h0
            go_wp2_with fail
            refine (get_in w wr [] c f hm q hlt).mono ?_
            rintro e w' ⟨rfl, rfl⟩
            go_wp2_with fail
            go_round
            case rel => exact ⟨q + 1, hlt, by go_num, by rw [E.out]⟩
            case measure => simp [intOf]; omega
          · have b0 : (f q != 0) = true := by simp [h0]
            have E := Lib.hid (cnt_true (n := q) (P := nz f) b0)
            clear h0
            have hw : IntKind.i64.wrap ((cnt 1024 (nz f) : Int) - cnt q (nz f) - 1) = (cnt 1024 (nz f) : Int) - cnt q (nz f) - 1 := IntWalk.i64_in _ (by omega)
            go_wp2_with fail
            refine (get_in w wr [] c f hm q hlt).mono ?_
            rintro e w' ⟨rfl, rfl⟩
            go_wp2_with fail
            go_round
            case rel => exact ⟨q + 1, hlt, by go_num, by rw [E.out]; congr 1; omega⟩
            case measure => simp [intOf]; omega
        · have e : q = 1024 := by omega
          subst e
          rw [Int.sub_self]
          go_wp2_with fail
          refine (Same_any wr _ _ _ _ (MapAt.of (hm)) (MapAt.of hs1)).mono ?_
          rintro e w' ⟨rfl, rfl⟩
          rw [show sameF f f = true from sameF_iff.2 fun _ _ => rfl]
          go_wp2_with fail
          refine (Marks_any w wr _ c2 f hs1).mono ?_
          rintro e w5 ⟨a5, p5, rfl, h5⟩
          rw [HL.out] at h5 ⊢
          have i5 := marks_at h5
          have i6 := marks_at (h5.front 2)
          go_wp2_with fail
          refine (marks_any w5 a5 a3 p5 cap3 _ _ i5 i6 (by omega)).mono ?_
          rintro e w' ⟨rfl, n, rfl⟩
          rw [decide_eq_true (rfl : l = l)]
          have h7 := h5.drewN n
          go_wp2_with fail
          refine (alive_any w _ _ h7).mono ?_
          rintro e w' ⟨rfl, hs⟩
          go_wp2_with fail
          go_ret
          exact ⟨rfl, hs.below⟩
end Go.Proofs.Ythknghkiogiajaa

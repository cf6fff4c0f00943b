/-
  The statement HugeFew: its walk. (Printed by mkH20.py.)
-/
import Derived.Test.YtjignbbdgoadjaaH15
import Derived.Test.YtjignbbdgoadjaaH19
import Derived.Deep.DrawnRows
import Derived.Deep.RegionWith
namespace Go.Proofs.Ytjignbbdgoadjaa
open Go.RowKit
attribute [local go_sem ↓] Go.wp_at_zero Go.wp_at_succ

theorem run_cell0 {w0 w : World} {F : List HP} {b off cap k n : Nat} {PL : List Rn} {x : Rn} (h : St w0 (runsP (.slice (some ⟨b, off, none⟩) n cap) PL :: F) w) (hx : PL[k]? = some x) : w.cell? ⟨b, off + k * 2, none⟩ = some (.int .i64 (x.a : Int)) := by
  obtain ⟨b', off', cap', hv, h1, _⟩ := (runs_at h).cell hx
  injection hv with h2 _ _
  injection h2 with h2
  injection h2 with h2 h3 _
  subst h2 h3
  exact h1
theorem wholes_y (w0 w : World) (v : Value) (PL : List Rn) (F : List HP) (c N : Nat) (s : Nat → Int) (hN : N ≤ 64) (hN0 : 0 < N) (hs : St w0 (runsP v PL :: trk 61 c (16 * N) s :: F) w) :
    Calls Try.prog 18 #[.pointer (some ⟨c, 0, none⟩)] w fun e w' => ∃ a cap, e = .returned (.slice a (thoseN s 2 N).length cap) ∧ St w0 (runsP v PL :: intsP (.slice a (thoseN s 2 N).length cap) (thoseN s 2 N) :: trk 61 c (16 * N) s :: F) w' := by
  refine (wholes_any w0 w _ c N s hN hN0 hs.swap).mono ?_
  rintro e w' ⟨a, cap, rfl, h⟩
  exact ⟨a, cap, rfl, h.pick 3 [2, 0, 1]⟩
theorem has_y {w0 w : World} {A : HP} {F : List HP} {a : Option Addr} {cap : Nat} {l : List Int} (h : St w0 (A :: intsP (.slice a l.length cap) l :: F) w) (hn : l.length ≤ 4096) (x : Int) (q : Nat) (hx : x = q) :
    Calls Try.prog 17 #[.slice a l.length cap, .int .i64 x] w fun e w' => e = .returned (.bool (decide ((q : Int) ∈ l))) ∧ w = w' := by
  subst hx
  exact has_any w a cap l (ints_at h.swap) hn q
theorem few_end {w0 w : World} {A B C : HP} {F : List HP} (h : St w0 (A :: B :: C :: F) w) : St w0 (A :: C :: F) w := h.pick 3 [0, 2]

set_option maxRecDepth 10000 in
set_option maxHeartbeats 8000000 in
theorem few_walk (m : Nat) (hm : m < 256) (a : Option Addr) (cap : Nat) (acts : List ActV) (want : Int) (w : World) (h : ActsAt w (.slice a acts.length cap) acts) (hn : acts.length ≤ 9223372036854775807) :
    Calls Try.prog 3 #[.int .u8 m, .slice a acts.length cap, .int .i64 want] w fun e w' => e = .returned (.bool true) ∧ Below w.heap.size w w' := by
  have H := Lib.hid h
  clear h
  by_cases hg : 40 < acts.length
  · have HG := Lib.hid (decide_eq_true hg)
    clear hg
    go_enter Try.func3, Try.ntmps3
    go_wp2_with fail
    refine (great_any _ a _ cap hn).mono ?_
    rintro e w' ⟨rfl, rfl⟩
    rw [HG.out]
    go_wp2_with fail
    refine (alive_any w _ _ (St.start w)).mono ?_
    rintro e w' ⟨rfl, hs⟩
    go_wp2_with fail
    go_ret
    exact ⟨rfl, hs.below⟩
  have hn60 : acts.length ≤ 60 := by omega
  have HG := Lib.hid (decide_eq_false hg)
  clear hg
  have hN0 : 0 < sizeN m := by unfold sizeN; omega
  have hN8 : sizeN m ≤ 8 := by unfold sizeN; omega
  have hN : sizeN m ≤ 64 := by omega
  have HOKS := Lib.hid (okSt_acts acts (okSt_zero (sizeN m)))
  go_enter Try.func3, Try.ntmps3
  go_wp2_with fail
  refine (great_any _ a _ cap hn).mono ?_
  rintro e w' ⟨rfl, rfl⟩
  rw [HG.out]
  go_wp2_with fail
  refine (made_any w _ _ (St.start w) m hm a cap acts H.out hn60).mono ?_
  rintro e w1 ⟨c, rfl, h1⟩
  generalize actsF (sizeN m) (fun _ => 0) acts = s at *
  generalize sizeN m = N at *
  go_wp2_with fail
  refine (plan_any w w1 _ c N s hN hN0 h1 want).mono ?_
  rintro e w3 ⟨a3, p3, rfl, h3⟩
  by_cases hw : want < 0
  · have E1 : planE want = 1 := if_pos hw
    rw [E1]
    have bw : decide (want < 0) = true := decide_eq_true hw
    clear E1
    go_wp2_with fail
    refine (alive_any w _ _ h3).mono ?_
    rintro e w' ⟨rfl, hs⟩
    go_wp2_with fail
    go_ret
    exact ⟨rfl, hs.below⟩
  have E0 : planE want = 0 := if_neg hw
  rw [E0]
  clear E0
  have OK := Lib.hid fun r h => @planV_ok s N want r h
  have AP := Lib.hid (planV_apart s N want)
  have hlen := planV_len s N want
  have hsum := planV_sum_le s N want
  have HSUM := Lib.hid (planV_sum s N want (M := 128) (by omega))
  have h128 : 16 * N ≤ 128 := by omega
  have hpl : planV s N want = planL s N want := if_neg hw
  have FEW := Lib.hid fun (k : Nat) (r : Rn) (h1 : (planV s N want)[k]? = some r) (h2 : ((r.a / 16 : Nat) : Int) ∈ thoseN s 2 N) => @few_pure s N want HOKS.out 128 h128 k r (hpl ▸ h1) h2
  clear hpl
  generalize planV s N want = PL at *
  have hll := thoseN_len s 2 N
  have h4 : St w (runsP (.slice a3 PL.length p3) PL :: trk 61 c (16 * N) s :: []) w3 := h3
  clear h3 h1
  go_wp2_with fail
  go_loopw [10, 11] (fun n i wr => ∃ q : Nat, q ≤ 128 ∧ i = .int .i64 q ∧ n = .int .i64 (cnt q (restP s N)) ∧ St w (runsP (.slice a3 PL.length p3) PL :: trk 61 c (16 * N) s :: []) wr) (fun _ i _ => 128 - (intOf i).toNat)
  case atStart => exact ⟨0, by omega, rfl, rfl, h4⟩
  case round =>
    clear h4
    obtain ⟨q, hq, rfl, rfl, hs1⟩ := hrel
    have lq := cnt_le q (restP s N)
    by_cases hlq : q < 128
    · obtain ⟨tb1, to1, tp1, ht1⟩ := TrAt.of (by omega) (hs1.front 1)
      have H1 := Lib.hid (state_any wr c tb1 to1 tp1 (16 * N) _ (by omega) ht1 q)
      have hst : stateV (16 * N) s (q : Int) = if q < 16 * N then s q else -1 := by
        unfold stateV
        by_cases h : q < 16 * N
        · rw [if_pos (by omega), if_pos h]; rfl
        · rw [if_neg (by omega), if_neg h]
      clear ht1
      by_cases hy : q < 16 * N ∧ s q = 2
      · rw [hst, if_pos hy.1, hy.2] at H1
        have hE : restP s N q = !decide (((q / 16 : Nat) : Int) ∈ thoseN s 2 N) := by
          unfold restP
          rw [hy.2, decide_eq_true hy.1]
          rfl
        have HW := Lib.hid (wholes_y w wr _ PL [] c N s hN hN0 hs1)
        have HQ := Lib.hid (show ((q : Int) / 16) = ((q / 16 : Nat) : Int) by omega)
        clear hst hy
        cases hd : decide (((q / 16 : Nat) : Int) ∈ thoseN s 2 N) with
        | true =>
          have HT := Lib.hid (cnt_false (n := q) (P := restP s N) (by rw [hE, hd]; rfl))
          have HD := Lib.hid hd
          clear hE hd
          go_wp2_with fail
          refine H1.out.mono ?_
          rintro e w' ⟨rfl, rfl⟩
          go_wp2_with fail
          refine HW.out.mono ?_
          rintro e w5 ⟨a5, p5, rfl, h5⟩
          go_wp2_with fail
          refine (has_y h5 (by omega) _ (q / 16) HQ.out).mono ?_
          rintro e w' ⟨rfl, rfl⟩
          rw [HD.out]
          go_wp2_with fail
          go_roundw
          case rel => exact ⟨q + 1, hlq, by go_num, by rw [HT.out], few_end h5⟩
          case measure => simp [intOf]; omega
        | false =>
          have HT := Lib.hid (cnt_true (n := q) (P := restP s N) (by rw [hE, hd]; rfl))
          have HD := Lib.hid hd
          clear hE hd
          go_wp2_with fail
          refine H1.out.mono ?_
          rintro e w' ⟨rfl, rfl⟩
          go_wp2_with fail
          refine HW.out.mono ?_
          rintro e w5 ⟨a5, p5, rfl, h5⟩
          go_wp2_with fail
          refine (has_y h5 (by omega) _ (q / 16) HQ.out).mono ?_
          rintro e w' ⟨rfl, rfl⟩
          rw [HD.out]
          go_wp2_with fail
          go_roundw
          case rel => exact ⟨q + 1, hlq, by go_num, by rw [HT.out]; go_num, few_end h5⟩
          case measure => simp [intOf]; omega
      · have hb : (stateV (16 * N) s (q : Int) == 2) = false := by
          rw [hst, beq_eq_false_iff_ne]
          by_cases h : q < 16 * N
          · rw [if_pos h]; exact fun h2 => hy ⟨h, h2⟩
          · rw [if_neg h]; omega
        have HT := Lib.hid (cnt_false (n := q) (P := restP s N) (by
          unfold restP
          by_cases h : q < 16 * N
          · have : (s q == 2) = false := by rw [beq_eq_false_iff_ne]; exact fun h2 => hy ⟨h, h2⟩
            rw [this, Bool.and_false]; rfl
          · rw [decide_eq_false h]; rfl))
        generalize stateV (16 * N) s (q : Int) = y at *
        clear hst hy
        go_wp2_with fail
        refine H1.out.mono ?_
        rintro e w' ⟨rfl, rfl⟩
        go_wp2_with fail
        go_roundw
        case rel => exact ⟨q + 1, hlq, by go_num, by rw [HT.out], hs1⟩
        case measure => simp [intOf]; omega
    · have e : cnt q (restP s N) = cnt 128 (restP s N) := by rw [show q = 128 by omega]
      rw [e]
      have hq2 : decide ((q : Int) < 128) = false := decide_eq_false (by omega)
      have hrest := cnt_le 128 (restP s N)
      clear e lq
      generalize cnt 128 (restP s N) = rest at *
      go_wp2_with fail
      go_loopw [12] (fun i wr => ∃ k : Nat, k ≤ PL.length ∧ i = .int .i64 k ∧ St w (runsP (.slice a3 PL.length p3) PL :: trk 61 c (16 * N) s :: []) wr) (fun i _ => PL.length - (intOf i).toNat)
      case atStart => exact ⟨0, by omega, rfl, hs1⟩
      case round =>
        clear hs1
        obtain ⟨k, hk, rfl, hs1⟩ := hrel
        by_cases hlt : k < PL.length
        · obtain ⟨x, hx⟩ : ∃ x, PL[k]? = some x := ⟨PL[k], List.getElem?_eq_getElem hlt⟩
          obtain ⟨b, off, cp, e1, k0, k1⟩ := (runs_at hs1).cell hx
          injection e1 with e1 e2 e3
          clear e2 e3
          subst e1
          have hx4 := (OK.out x (List.mem_of_getElem? hx)).2.2.1
          have HX := Lib.hid hx
          have HQ := Lib.hid (show ((x.a : Int) / 16) = ((x.a / 16 : Nat) : Int) by omega)
          have HF := Lib.hid (FEW.out k x hx)
          have hwr : IntKind.i64.wrap ((x.a : Int) / 16) = (x.a : Int) / 16 := IntWalk.i64_in _ (by omega)
          have HW := Lib.hid fun w1 h => wholes_y w w1 (.slice (some ⟨b, off, none⟩) PL.length p3) PL [] c N s hN hN0 h
          have hsd := hs1.drew
          have ik0 : (0 : Int) ≤ (k : Int) := by omega
          have ik1 : (k : Int) < (PL.length : Int) := by omega
          clear hx
          cases hd : decide (((x.a / 16 : Nat) : Int) ∈ thoseN s 2 N) with
          | true =>
            have hlw := HF.out (of_decide_eq_true hd)
            have bw : decide (want ≤ (rest : Int)) = false := decide_eq_false (by omega)
            have HH : Hid (∀ (w1 : World) (a5 : Option Addr) (p5 : Nat), St w (runsP (.slice (some ⟨b, off, none⟩) PL.length p3) PL :: intsP (.slice a5 (thoseN s 2 N).length p5) (thoseN s 2 N) :: trk 61 c (16 * N) s :: []) w1 →
                Calls Try.prog 17 #[.slice a5 (thoseN s 2 N).length p5, .int .i64 ((x.a : Int) / 16)] w1 fun e w' => e = .returned (.bool true) ∧ w1 = w') := Lib.hid fun w1 a5 p5 h => by
              have h7 := has_y h (by omega) ((x.a : Int) / 16) (x.a / 16) HQ.out
              rw [hd] at h7
              exact h7
            clear hd hlw
            go_wp2_with fail
            first | (go_region_held3 (fun w' => w'.cell? ⟨b, off + k * 2, none⟩ = some (.int .i64 (x.a : Int))) (first | exact run_cell0 h5 HX.out | exact run_cell0 hsd HX.out)
              (first
                | (go_at_call 18; refine (HW.out _ hsd).mono ?_; rintro e w' ⟨a5, p5, rfl, h5⟩)
                | (go_at_call 17; refine (HH.out _ _ _ h5).mono ?_; rintro e w' ⟨rfl, rfl⟩))) | fail
            go_wp2_with fail
            all_goals go_roundw
            all_goals first | exact ⟨k + 1, hlt, by go_num, few_end h5⟩ | (simp [intOf]; omega)
          | false =>
            have HH : Hid (∀ (w1 : World) (a5 : Option Addr) (p5 : Nat), St w (runsP (.slice (some ⟨b, off, none⟩) PL.length p3) PL :: intsP (.slice a5 (thoseN s 2 N).length p5) (thoseN s 2 N) :: trk 61 c (16 * N) s :: []) w1 →
                Calls Try.prog 17 #[.slice a5 (thoseN s 2 N).length p5, .int .i64 ((x.a : Int) / 16)] w1 fun e w' => e = .returned (.bool false) ∧ w1 = w') := Lib.hid fun w1 a5 p5 h => by
              have h7 := has_y h (by omega) ((x.a : Int) / 16) (x.a / 16) HQ.out
              rw [hd] at h7
              exact h7
            clear hd
            go_wp2_with fail
            first | (go_region_with (first
                | (go_at_call 18; refine (HW.out _ hsd).mono ?_; rintro e w' ⟨a5, p5, rfl, h5⟩; have c6 := run_cell0 h5 HX.out)
                | (go_at_call 17; refine (HH.out _ _ _ h5).mono ?_; rintro e w' ⟨rfl, rfl⟩))) | fail
            go_wp2_with fail
            all_goals go_roundw
            all_goals first | exact ⟨k + 1, hlt, by go_num, few_end h5⟩ | (simp [intOf]; omega)
        · go_wp2_with fail
          refine (alive_any w _ _ hs1).mono ?_
          rintro e w' ⟨rfl, hs⟩
          go_wp2_with fail
          go_ret
          exact ⟨rfl, hs.below⟩
theorem few_row (m : Int) (hw : (Lit.int .u8 m).wf = true) (a : Option Addr) (cap : Nat) (acts : List ActV) (want : Int) (_ : (Lit.int .i64 want).wf = true) (w : World) (h : ActsAt w (.slice a acts.length cap) acts) (hn : acts.length ≤ 9223372036854775807) :
    Calls Try.prog 3 #[.int .u8 m, .slice a acts.length cap, .int .i64 want] w fun e w' => e = .returned (.bool true) ∧ Below w.heap.size w w' := by
  obtain ⟨k, hk, rfl⟩ := u8_nat hw
  exact few_walk k hk a cap acts want w h hn
end Go.Proofs.Ytjignbbdgoadjaa

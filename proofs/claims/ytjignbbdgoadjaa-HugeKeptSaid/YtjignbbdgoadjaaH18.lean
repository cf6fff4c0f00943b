/-
  The statement HugeKept: its walk. (Printed by mkH18.py.)
-/
import Derived.Test.YtjignbbdgoadjaaH15
import Derived.Test.YtjignbbdgoadjaaH17
namespace Go.Proofs.Ytjignbbdgoadjaa
open Go.RowKit

set_option maxRecDepth 10000 in
set_option maxHeartbeats 8000000 in
theorem kept_walk (m : Nat) (hm : m < 256) (a : Option Addr) (cap : Nat) (acts : List ActV) (want : Int) (w : World) (h : ActsAt w (.slice a acts.length cap) acts) (hn : acts.length ≤ 9223372036854775807) :
    Calls Try.prog 5 #[.int .u8 m, .slice a acts.length cap, .int .i64 want] w fun e w' => e = .returned (.bool true) ∧ Below w.heap.size w w' := by
  have H := Lib.hid h
  clear h
  by_cases hg : 40 < acts.length
  · have HG := Lib.hid (decide_eq_true hg)
    clear hg
    go_enter Try.func5, Try.ntmps5
    go_wp2_with fail
    refine (great_any _ a _ cap hn).mono ?_
    rintro e w' ⟨rfl, rfl⟩
    rw [HG.out]
    go_wp2_with fail
    refine (alive_any w _ _ (St.start w)).mono ?_
    rintro e w' ⟨rfl, hs⟩
    go_wp2_with fail
    go_ret
    exact ⟨rfl, hs.below⟩
  have hn60 : acts.length ≤ 60 := by omega
  have HG := Lib.hid (decide_eq_false hg)
  clear hg
  have hN0 : 0 < sizeN m := by unfold sizeN; omega
  have hN8 : sizeN m ≤ 8 := by unfold sizeN; omega
  have hN : sizeN m ≤ 64 := by omega
  go_enter Try.func5, Try.ntmps5
  go_wp2_with fail
  refine (great_any _ a _ cap hn).mono ?_
  rintro e w' ⟨rfl, rfl⟩
  rw [HG.out]
  go_wp2_with fail
  refine (made_any w _ _ (St.start w) m hm a cap acts H.out hn60).mono ?_
  rintro e w1 ⟨c, rfl, h1⟩
  generalize actsF (sizeN m) (fun _ => 0) acts = s at *
  generalize sizeN m = N at *
  go_wp2_with fail
  refine (clone_any w w1 _ c (16 * N) s (by omega) (by omega) h1).mono ?_
  rintro e w2 ⟨c2, rfl, h2⟩
  go_wp2_with fail
  refine (plan_any w w2 _ c N s hN hN0 h2.swap want).mono ?_
  rintro e w3 ⟨a3, p3, rfl, h3⟩
  by_cases hw : want < 0
  · have E1 : planE want = 1 := if_pos hw
    rw [E1]
    have bw : decide (want < 0) = true := decide_eq_true hw
    clear E1
    go_wp2_with fail
    refine (alive_any w _ _ h3).mono ?_
    rintro e w' ⟨rfl, hs⟩
    go_wp2_with fail
    go_ret
    exact ⟨rfl, hs.below⟩
  have E0 : planE want = 0 := if_neg hw
  rw [E0]
  clear E0
  have OK := Lib.hid fun r h => @planV_ok s N want r h
  have AP := Lib.hid (planV_apart s N want)
  have hlen := planV_len s N want
  have hsum := planV_sum_le s N want
  have HSUM := Lib.hid (planV_sum s N want (M := 128) (by omega))
  generalize planV s N want = PL at *
  have RB := Lib.hid fun (k : Nat) (x : Rn) h => @relS_back s PL AP.out (fun r hr => (OK.out r hr).2.2.2) k x h
  have h4 : St w (trk 61 c (16 * N) (relS s (PL.take 0)) :: runsP (.slice a3 PL.length p3) PL :: trk 61 c2 (16 * N) s :: []) w3 := h3.pick 3 [1, 0, 2]
  clear h3 h2 h1
  go_wp2_with fail
  go_loopw [11] (fun i wr => ∃ k : Nat, k ≤ PL.length ∧ i = .int .i64 k ∧ St w (trk 61 c (16 * N) (relS s (PL.take k)) :: runsP (.slice a3 PL.length p3) PL :: trk 61 c2 (16 * N) s :: []) wr) (fun i _ => PL.length - (intOf i).toNat)
  case atStart => exact ⟨0, Nat.zero_le _, rfl, h4⟩
  case round =>
    clear h4
    obtain ⟨k, hk, rfl, hs1⟩ := hrel
    by_cases hlt : k < PL.length
    · obtain ⟨x, hx⟩ : ∃ x, PL[k]? = some x := ⟨PL[k], List.getElem?_eq_getElem hlt⟩
      obtain ⟨b, off, cp, e1, k0, k1⟩ := (runs_at (hs1.front 1)).cell hx
      injection e1 with e1 e2 e3
      clear e2 e3
      subst e1
      obtain ⟨o1, o2, o3, _⟩ := OK.out x (List.mem_of_getElem? hx)
      have HR := Lib.hid (relS_succ (s := s) hx)
      have hok : releaseE (16 * N) (relS s (PL.take k)) x.a x.n = 0 := turnE_zero.2 ⟨⟨by omega, by omega, by omega⟩, badN_zero.2 fun j hj => by
        rw [Int.toNat_natCast] at hj ⊢
        rw [RB.out k x hx j hj]; rfl⟩
      have hF : releaseF (16 * N) (relS s (PL.take k)) x.a x.n = relS s (PL.take (k + 1)) := by
        rw [HR.out]
        have : releaseF (16 * N) (relS s (PL.take k)) x.a x.n = fillS (relS s (PL.take k)) (x.a : Int).toNat (x.n : Int).toNat 3 := turnF_pos hok
        rw [this, Int.toNat_natCast, Int.toNat_natCast]
      have HC := Lib.hid (release_any w wr.drew _ c (16 * N) _ (by omega) (by omega) hs1.drew x.a x.n)
      rw [hok, hF] at HC
      have ik0 : (0 : Int) ≤ (k : Int) := by omega
      have ik1 : (k : Int) < (PL.length : Int) := by omega
      clear hx hok hF
      go_wp2_with fail
      refine wp_region_tail_drew 11 (by kernel_rfl) (by kernel_rfl) ?_
      simp only [List.take_succ_cons, List.take_zero, List.drop_succ_cons, List.drop_zero]
      repeat still_step
      refine wpStill_nil ?_
      go_wp2_with fail
      refine HC.out.mono ?_
      rintro e w4 ⟨rfl, h4⟩
      go_wp2_with fail
      go_roundw
      case rel => exact ⟨k + 1, hlt, by go_num, h4⟩
      case measure => simp [intOf]; omega
    · have e : PL.take k = PL := List.take_of_length_le (by omega)
      rw [e] at hs1
      clear e
      obtain ⟨tb1, to1, tp1, ht1⟩ := TrAt.of (by omega) hs1
      obtain ⟨tb2, to2, tp2, ht2⟩ := TrAt.of (by omega) (hs1.front 2)
      have H1 := Lib.hid fun p => state_any wr c tb1 to1 tp1 (16 * N) _ (by omega) ht1 p
      have H2 := Lib.hid fun p => state_any wr c2 tb2 to2 tp2 (16 * N) _ (by omega) ht2 p
      have HS1 := Lib.hid hs1
      have HR := Lib.hid (runs_at (hs1.front 1))
      clear ht1 ht2 hs1
      go_wp2_with fail
      go_loop [12, 13] (fun n i => ∃ q : Nat, q ≤ 128 ∧ i = .int .i64 q ∧ n = .int .i64 (cnt q (covR PL))) (fun _ i => 128 - (intOf i).toNat)
      case atStart => exact ⟨0, by omega, rfl, rfl⟩
      case round =>
        obtain ⟨q, hq, rfl, rfl⟩ := hrel
        have lq := cnt_le q (covR PL)
        by_cases hlq : q < 128
        · cases hcov : covR PL q with
          | true =>
            obtain ⟨r, hr, hr1, hr2⟩ := covR_iff.1 hcov
            have hrk := OK.out r hr
            have e1 : stateV (16 * N) (relS s PL) (q : Int) = 3 := by
              unfold stateV relS
              rw [if_pos (by omega), Int.toNat_natCast, hcov, if_pos rfl]
            have e2 : stateV (16 * N) s (q : Int) = 2 := by
              unfold stateV
              rw [if_pos (by omega), Int.toNat_natCast]
              have := hrk.2.2.2 (q - r.a) (by omega)
              rwa [show r.a + (q - r.a) = q by omega] at this
            have G1 := Lib.hid (H1.out (q : Int))
            have G2 := Lib.hid (H2.out (q : Int))
            rw [e1] at G1
            rw [e2] at G2
            have HT := Lib.hid (cnt_true (n := q) (P := covR PL) hcov)
            clear e1 e2 hrk hcov hr1 hr2
            go_wp2_with fail
            refine G1.out.mono ?_
            rintro e w' ⟨rfl, rfl⟩
            go_wp2_with fail
            refine G2.out.mono ?_
            rintro e w' ⟨rfl, rfl⟩
            go_wp2_with fail
            refine G2.out.mono ?_
            rintro e w' ⟨rfl, rfl⟩
            go_wp2_with fail
            refine G1.out.mono ?_
            rintro e w' ⟨rfl, rfl⟩
            go_wp2_with fail
            go_round
            case rel => exact ⟨q + 1, hlq, by go_num, by rw [HT.out]; go_num⟩
            case measure => simp [intOf]; omega
          | false =>
            have e1 : stateV (16 * N) (relS s PL) (q : Int) = stateV (16 * N) s (q : Int) := by
              unfold stateV relS
              rw [Int.toNat_natCast, hcov]
              rfl
            have G1 := Lib.hid (H1.out (q : Int))
            have G2 := Lib.hid (H2.out (q : Int))
            rw [e1] at G1
            generalize stateV (16 * N) s (q : Int) = y at *
            have HT := Lib.hid (cnt_false (n := q) (P := covR PL) hcov)
            clear e1 hcov
            go_wp2_with fail
            refine G1.out.mono ?_
            rintro e w' ⟨rfl, rfl⟩
            go_wp2_with fail
            refine G2.out.mono ?_
            rintro e w' ⟨rfl, rfl⟩
            go_wp2_with fail
            go_round
            case rel => exact ⟨q + 1, hlq, by go_num, by rw [HT.out]⟩
            case measure => simp [intOf]; omega
        · have e : q = 128 := by omega
          subst e
          rw [HSUM.out]
          go_wp2_with fail
          refine (total_any wr a3 p3 PL HR.out (by omega) (by omega)).mono ?_
          rintro e w' ⟨rfl, rfl⟩
          go_wp2_with fail
          refine (alive_any w _ _ HS1.out).mono ?_
          rintro e w' ⟨rfl, hs⟩
          go_wp2_with fail
          go_ret
          exact ⟨rfl, hs.below⟩
theorem kept_row (m : Int) (hw : (Lit.int .u8 m).wf = true) (a : Option Addr) (cap : Nat) (acts : List ActV) (want : Int) (_ : (Lit.int .i64 want).wf = true) (w : World) (h : ActsAt w (.slice a acts.length cap) acts) (hn : acts.length ≤ 9223372036854775807) :
    Calls Try.prog 5 #[.int .u8 m, .slice a acts.length cap, .int .i64 want] w fun e w' => e = .returned (.bool true) ∧ Below w.heap.size w w' := by
  obtain ⟨k, hk, rfl⟩ := u8_nat hw
  exact kept_walk k hk a cap acts want w h hn
end Go.Proofs.Ytjignbbdgoadjaa

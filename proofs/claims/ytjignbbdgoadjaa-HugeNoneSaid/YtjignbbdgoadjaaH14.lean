/-
  The statements HugeRefuses, HugeBack: their walks. (Printed by mkH14.py.)
-/
import Derived.Test.YtjignbbdgoadjaaH13
namespace Go.Proofs.Ytjignbbdgoadjaa
open Go.RowKit

theorem turnE_zero {m : Nat} {s : Nat → Int} {P : Int → Bool} {a n : Int} : turnE m s P a n = 0 ↔ okRun m a n ∧ badN s P a.toNat n.toNat = 0 := by
  unfold turnE
  by_cases h : okRun m a n
  · rw [if_pos h]
    by_cases h2 : 0 < badN s P a.toNat n.toNat
    · rw [if_pos h2]
      constructor
      · intro h; omega
      · rintro ⟨_, h⟩; omega
    · rw [if_neg h2]
      exact ⟨fun _ => ⟨h, by omega⟩, fun _ => rfl⟩
  · rw [if_neg h]
    constructor
    · intro h; omega
    · rintro ⟨h', _⟩; exact absurd h' h
theorem turnF_pos {m : Nat} {s : Nat → Int} {P : Int → Bool} {v a n : Int} (h : turnE m s P a n = 0) : turnF m s P v a n = fillS s a.toNat n.toNat v := if_pos (turnE_zero.1 h)
theorem turnF_neg {m : Nat} {s : Nat → Int} {P : Int → Bool} {v a n : Int} (h : ¬ turnE m s P a n = 0) : turnF m s P v a n = s := if_neg fun h' => h (turnE_zero.2 h')
theorem badN_zero {s : Nat → Int} {P : Int → Bool} {a n : Nat} : badN s P a n = 0 ↔ ∀ j, j < n → P (s (a + j)) = true := by
  unfold badN
  rw [cnt_zero_iff]
  constructor <;> intro h j hj <;> have := h j hj <;> simpa using this
theorem fillS_in {s : Nat → Int} {a n : Nat} {v : Int} {p : Nat} (h : a ≤ p ∧ p < a + n) : fillS s a n v p = v := if_pos h
theorem fillS_out {s : Nat → Int} {a n : Nat} {v : Int} {p : Nat} (h : ¬ (a ≤ p ∧ p < a + n)) : fillS s a n v p = s p := if_neg h
theorem addF_neg {N : Nat} {s : Nat → Int} {h : Int} (h0 : ¬ addE N s h = 0) : addF N s h = s := by
  unfold addE at h0
  unfold addF
  refine if_neg fun hc => h0 ?_
  rw [if_pos hc.1, if_pos hc.2]
theorem removeF_neg {N : Nat} {s : Nat → Int} {h : Int} (h0 : ¬ removeE N s h = 0) : removeF N s h = s := by
  unfold removeE at h0
  unfold removeF
  refine if_neg fun hc => h0 ?_
  rw [if_pos hc.1, if_pos hc.2]
/-- a call that is refused changes nothing, nor does a plan -/
theorem actF_same {N : Nat} {s : Nat → Int} {x : ActV} (h : ¬ (actE N s x = 0 ∧ ¬ x.kind = 5)) : actF N s x = s := by
  unfold actE at h
  unfold actF
  by_cases h0 : x.kind = 0
  · simp only [if_pos h0] at h ⊢
    exact addF_neg fun e => h ⟨e, by omega⟩
  simp only [if_neg h0] at h ⊢
  by_cases h1 : x.kind = 1
  · simp only [if_pos h1] at h ⊢
    exact removeF_neg fun e => h ⟨e, by omega⟩
  simp only [if_neg h1] at h ⊢
  by_cases h2 : x.kind = 2
  · simp only [if_pos h2] at h ⊢
    exact turnF_neg fun e => h ⟨e, by omega⟩
  simp only [if_neg h2] at h ⊢
  by_cases h3 : x.kind = 3
  · simp only [if_pos h3] at h ⊢
    exact turnF_neg fun e => h ⟨e, by omega⟩
  simp only [if_neg h3] at h ⊢
  by_cases h4 : x.kind = 4
  · simp only [if_pos h4] at h ⊢
    exact turnF_neg fun e => h ⟨e, by omega⟩
  simp only [if_neg h4] at h ⊢
theorem sameS_self (m : Nat) (s : Nat → Int) : sameS m s s = true := sameS_iff.2 fun _ _ => rfl
/-- what was used is used again -/
theorem back_one {m : Nat} {s : Nat → Int} {a n : Int} (h : unuseE m s a n = 0) : useE m (unuseF m s a n) a n = 0 ∧ useF m (unuseF m s a n) a n = s ∧ sameS m (unuseF m s a n) s = false := by
  obtain ⟨h1, h2⟩ := turnE_zero.1 h
  have e : unuseF m s a n = fillS s a.toNat n.toNat 2 := turnF_pos h
  have h3 := badN_zero.1 h2
  have h4 : useE m (unuseF m s a n) a n = 0 := turnE_zero.2 ⟨h1, badN_zero.2 fun j hj => by rw [e, fillS_in (by omega)]; rfl⟩
  refine ⟨h4, ?_, ?_⟩
  · have e2 : useF m (unuseF m s a n) a n = fillS (unuseF m s a n) a.toNat n.toNat 1 := turnF_pos h4
    rw [e2, e]
    funext p
    by_cases hp : a.toNat ≤ p ∧ p < a.toNat + n.toNat
    · rw [fillS_in hp]
      have := h3 (p - a.toNat) (by omega)
      rw [show a.toNat + (p - a.toNat) = p by omega] at this
      have : s p = 1 := by simpa using this
      rw [this]
    · rw [fillS_out hp, fillS_out hp]
  · unfold okRun at h1
    cases hb : sameS m (unuseF m s a n) s
    · rfl
    · have h5 := sameS_iff.1 hb a.toNat (by omega)
      rw [e, fillS_in (by omega)] at h5
      have := h3 0 (by omega)
      rw [Nat.add_zero, ← h5] at this
      simp at this
/-- what was made used is made free -/
theorem back_two {m : Nat} {s : Nat → Int} {a n : Int} (h : useE m s a n = 0) : unuseE m (useF m s a n) a n = 0 ∧ unuseF m (useF m s a n) a n = fillS s a.toNat n.toNat 2 := by
  obtain ⟨h1, h2⟩ := turnE_zero.1 h
  have e : useF m s a n = fillS s a.toNat n.toNat 1 := turnF_pos h
  have h4 : unuseE m (useF m s a n) a n = 0 := turnE_zero.2 ⟨h1, badN_zero.2 fun j hj => by rw [e, fillS_in (by omega)]; rfl⟩
  refine ⟨h4, ?_⟩
  have e2 : unuseF m (useF m s a n) a n = fillS (useF m s a n) a.toNat n.toNat 2 := turnF_pos h4
  rw [e2, e]
  funext p
  by_cases hp : a.toNat ≤ p ∧ p < a.toNat + n.toNat
  · rw [fillS_in hp, fillS_in hp]
  · rw [fillS_out hp, fillS_out hp, fillS_out hp]

set_option maxRecDepth 10000 in
set_option maxHeartbeats 4000000 in
theorem refuses_walk (m : Nat) (hm : m < 256) (a : Option Addr) (cap : Nat) (acts : List ActV) (x : ActV) (w : World) (h : ActsAt w (.slice a acts.length cap) acts) (hn : acts.length ≤ 9223372036854775807) :
    Calls Try.prog 7 #[.int .u8 m, .slice a acts.length cap, .agg #[.int .i64 x.kind, .int .i64 x.a, .int .i64 x.b]] w fun e w' => e = .returned (.bool true) ∧ Below w.heap.size w w' := by
  have H := Lib.hid h
  clear h
  by_cases hg : 40 < acts.length
  · have HG := Lib.hid (decide_eq_true hg)
    clear hg
    have hb := (St.start w).allocRow #[.int .i64 x.kind, .int .i64 x.a, .int .i64 x.b] 46
    go_enter Try.func7, Try.ntmps7
    go_wp2_with fail
    refine (great_any _ a _ cap hn).mono ?_
    rintro e w' ⟨rfl, rfl⟩
    rw [HG.out]
    go_wp2_with fail
    refine (alive_any w _ _ hb).mono ?_
    rintro e w' ⟨rfl, hs⟩
    go_wp2_with fail
    go_ret
    exact ⟨rfl, hs.below⟩
  have hn60 : acts.length ≤ 60 := by omega
  have HG := Lib.hid (decide_eq_false hg)
  clear hg
  have hN0 : 0 < sizeN m := by unfold sizeN; omega
  have hN8 : sizeN m ≤ 8 := by unfold sizeN; omega
  have hN : sizeN m ≤ 64 := by omega
  have hb := (St.start w).allocRow #[.int .i64 x.kind, .int .i64 x.a, .int .i64 x.b] 46
  go_enter Try.func7, Try.ntmps7
  go_wp2_with fail
  refine (great_any _ a _ cap hn).mono ?_
  rintro e w' ⟨rfl, rfl⟩
  rw [HG.out]
  go_wp2_with fail
  refine (made_any w _ _ hb m hm a cap acts H.out hn60).mono ?_
  rintro e w1 ⟨c, rfl, h1⟩
  generalize actsF (sizeN m) (fun _ => 0) acts = s at *
  generalize sizeN m = N at *
  go_wp2_with fail
  refine (clone_any w w1 _ c (16 * N) s (by omega) (by omega) h1).mono ?_
  rintro e w2 ⟨c2, rfl, h2⟩
  have g2 := h2.pick 3 [1, 0, 2]
  obtain ⟨c0, c1, c3⟩ := (g2.front 2).cells3
  have HS := Lib.hid fun h => @actF_same N s x h
  go_wp2_with fail
  refine (do_any w w2 _ c N s hN hN0 g2 x).mono ?_
  rintro e w3 ⟨rfl, h3⟩
  clear c0 c1 c3 h2 h1
  obtain ⟨c0, c1, c3⟩ := (h3.front 2).cells3
  by_cases hE : actE N s x = 0 ∧ ¬ x.kind = 5
  · have bE : (actE N s x == 0) = true := by simp [hE.1]
    have bk : (x.kind != 5) = true := by simp [hE.2]
    clear hE
    go_wp2_with fail
    refine (alive_any w w3 _ h3).mono ?_
    rintro e w' ⟨rfl, hs⟩
    go_wp2_with fail
    go_ret
    exact ⟨rfl, hs.below⟩
  · rw [HS.out hE] at h3
    obtain ⟨tb1, to1, tp1, ht1⟩ := TrAt.of (by omega) h3
    obtain ⟨tb2, to2, tp2, ht2⟩ := TrAt.of (by omega) (h3.front 1)
    have HA := Lib.hid (alike_any w3 (16 * N) c tb1 to1 tp1 c2 tb2 to2 tp2 s s (by omega) (by omega) ht1 ht2)
    rw [sameS_self] at HA
    clear ht1 ht2
    by_cases hE0 : actE N s x = 0
    · have bE : (actE N s x == 0) = true := by simp [hE0]
      have bk : (x.kind != 5) = false := by
        rw [bne_eq_false_iff_eq]
        exact Classical.byContradiction fun hk => hE ⟨hE0, hk⟩
      clear hE hE0
      go_wp2_with fail
      refine HA.out.mono ?_
      rintro e w' ⟨rfl, rfl⟩
      go_wp2_with fail
      refine (alive_any w w3 _ h3).mono ?_
      rintro e w' ⟨rfl, hs⟩
      go_wp2_with fail
      go_ret
      exact ⟨rfl, hs.below⟩
    · have bE : (actE N s x == 0) = false := by simp [hE0]
      clear hE hE0
      go_wp2_with fail
      refine HA.out.mono ?_
      rintro e w' ⟨rfl, rfl⟩
      go_wp2_with fail
      refine (alive_any w w3 _ h3).mono ?_
      rintro e w' ⟨rfl, hs⟩
      go_wp2_with fail
      go_ret
      exact ⟨rfl, hs.below⟩

set_option maxRecDepth 10000 in
set_option maxHeartbeats 8000000 in
theorem back_walk (m : Nat) (hm : m < 256) (a : Option Addr) (cap : Nat) (acts : List ActV) (start : Int) (pages : Int) (hp0 : -9223372036854775808 ≤ start ∧ start ≤ 9223372036854775807) (first : Bool) (w : World) (h : ActsAt w (.slice a acts.length cap) acts) (hn : acts.length ≤ 9223372036854775807) :
    Calls Try.prog 6 #[.int .u8 m, .slice a acts.length cap, .int .i64 start, .int .i64 pages, .bool first] w fun e w' => e = .returned (.bool true) ∧ Below w.heap.size w w' := by
  have H := Lib.hid h
  clear h
  by_cases hg : 40 < acts.length
  · have HG := Lib.hid (decide_eq_true hg)
    clear hg
    go_enter Try.func6, Try.ntmps6
    go_wp2_with fail
    refine (great_any _ a _ cap hn).mono ?_
    rintro e w' ⟨rfl, rfl⟩
    rw [HG.out]
    go_wp2_with fail
    refine (alive_any w _ _ (St.start w)).mono ?_
    rintro e w' ⟨rfl, hs⟩
    go_wp2_with fail
    go_ret
    exact ⟨rfl, hs.below⟩
  have hn60 : acts.length ≤ 60 := by omega
  have HG := Lib.hid (decide_eq_false hg)
  clear hg
  have hN0 : 0 < sizeN m := by unfold sizeN; omega
  have hN8 : sizeN m ≤ 8 := by unfold sizeN; omega
  have hN : sizeN m ≤ 64 := by omega
  cases first with
  | false =>
    go_enter Try.func6, Try.ntmps6
    go_wp2_with fail
    refine (great_any _ a _ cap hn).mono ?_
    rintro e w' ⟨rfl, rfl⟩
    rw [HG.out]
    go_wp2_with fail
    refine (made_any w _ _ (St.start w) m hm a cap acts H.out hn60).mono ?_
    rintro e w1 ⟨c, rfl, h1⟩
    generalize actsF (sizeN m) (fun _ => 0) acts = s at *
    generalize sizeN m = N at *
    go_wp2_with fail
    refine (clone_any w w1 _ c (16 * N) s (by omega) (by omega) h1).mono ?_
    rintro e w2 ⟨c2, rfl, h2⟩
    have g2 := h2.swap
    have HB := Lib.hid fun h => @back_one (16 * N) s start pages h
    have HT := Lib.hid fun h => @turnF_neg (16 * N) s (fun x => x == 1) 2 start pages h
    go_wp2_with fail
    refine (unuse_any w w2 _ c (16 * N) s (by omega) (by omega) g2 start pages).mono ?_
    rintro e w3 ⟨rfl, h3⟩
    by_cases hE : unuseE (16 * N) s start pages = 0
    · have bE : (unuseE (16 * N) s start pages != 0) = false := by simp [hE]
      obtain ⟨b1, b2, b3⟩ := HB.out hE
      have B1 := Lib.hid b1
      have B2 := Lib.hid b2
      have B3 := Lib.hid b3
      clear hE b1 b2 b3
      obtain ⟨tb1, to1, tp1, ht1⟩ := TrAt.of (by omega) h3
      obtain ⟨tb2, to2, tp2, ht2⟩ := TrAt.of (by omega) (h3.front 1)
      have HA := Lib.hid (alike_any _ (16 * N) c tb1 to1 tp1 c2 tb2 to2 tp2 _ _ (by omega) (by omega) ht1 ht2)
      clear ht1 ht2
      rw [B3.out] at HA
      go_wp2_with fail
      refine HA.out.mono ?_
      rintro e w' ⟨rfl, rfl⟩
      clear HA
      go_wp2_with fail
      refine (use_any w w3 _ c (16 * N) _ (by omega) (by omega) h3 start pages).mono ?_
      rintro e w4 ⟨rfl, h4⟩
      rw [B1.out]
      rw [B2.out] at h4
      obtain ⟨tb1, to1, tp1, ht1⟩ := TrAt.of (by omega) h4
      obtain ⟨tb2, to2, tp2, ht2⟩ := TrAt.of (by omega) (h4.front 1)
      have HA := Lib.hid (alike_any _ (16 * N) c tb1 to1 tp1 c2 tb2 to2 tp2 _ _ (by omega) (by omega) ht1 ht2)
      clear ht1 ht2
      rw [sameS_self] at HA
      go_wp2_with fail
      refine HA.out.mono ?_
      rintro e w' ⟨rfl, rfl⟩
      go_wp2_with fail
      refine (alive_any w _ _ h4).mono ?_
      rintro e w' ⟨rfl, hs⟩
      go_wp2_with fail
      go_ret
      exact ⟨rfl, hs.below⟩
    · have bE : (unuseE (16 * N) s start pages != 0) = true := by simp [hE]
      have hE' : unuseF (16 * N) s start pages = s := HT.out hE
      rw [hE'] at h3
      clear hE hE'
      obtain ⟨tb1, to1, tp1, ht1⟩ := TrAt.of (by omega) h3
      obtain ⟨tb2, to2, tp2, ht2⟩ := TrAt.of (by omega) (h3.front 1)
      have HA := Lib.hid (alike_any _ (16 * N) c tb1 to1 tp1 c2 tb2 to2 tp2 _ _ (by omega) (by omega) ht1 ht2)
      clear ht1 ht2
      rw [sameS_self] at HA
      go_wp2_with fail
      refine HA.out.mono ?_
      rintro e w' ⟨rfl, rfl⟩
      go_wp2_with fail
      refine (alive_any w _ _ h3).mono ?_
      rintro e w' ⟨rfl, hs⟩
      go_wp2_with fail
      go_ret
      exact ⟨rfl, hs.below⟩
  | true =>
    go_enter Try.func6, Try.ntmps6
    go_wp2_with fail
    refine (great_any _ a _ cap hn).mono ?_
    rintro e w' ⟨rfl, rfl⟩
    rw [HG.out]
    go_wp2_with fail
    refine (made_any w _ _ (St.start w) m hm a cap acts H.out hn60).mono ?_
    rintro e w1 ⟨c, rfl, h1⟩
    generalize actsF (sizeN m) (fun _ => 0) acts = s at *
    generalize sizeN m = N at *
    go_wp2_with fail
    refine (clone_any w w1 _ c (16 * N) s (by omega) (by omega) h1).mono ?_
    rintro e w2 ⟨c2, rfl, h2⟩
    have g2 := h2.swap
    have HB := Lib.hid fun h => @back_two (16 * N) s start pages h
    have HZ := Lib.hid fun h => (@turnE_zero (16 * N) s free start pages).1 h
    have HT := Lib.hid fun h => @turnF_neg (16 * N) s free 1 start pages h
    go_wp2_with fail
    refine (use_any w w2 _ c (16 * N) s (by omega) (by omega) g2 start pages).mono ?_
    rintro e w3 ⟨rfl, h3⟩
    by_cases hE : useE (16 * N) s start pages = 0
    · have bE : (useE (16 * N) s start pages != 0) = false := by simp [hE]
      obtain ⟨b1, b2⟩ := HB.out hE
      have hok := (HZ.out hE).1
      unfold okRun at hok
      have B1 := Lib.hid b1
      have B2 := Lib.hid b2
      clear hE b1 b2
      go_wp2_with fail
      refine (unuse_any w w3 _ c (16 * N) _ (by omega) (by omega) h3 start pages).mono ?_
      rintro e w4 ⟨rfl, h4⟩
      rw [B1.out]
      rw [B2.out] at h4
      obtain ⟨A, rfl⟩ : ∃ A : Nat, start = A := ⟨start.toNat, by omega⟩
      obtain ⟨K, rfl⟩ : ∃ K : Nat, pages = K := ⟨pages.toNat, by omega⟩
      rw [Int.toNat_natCast, Int.toNat_natCast] at h4
      clear B1 B2 h3 g2 h2 h1
      obtain ⟨tb1, to1, tp1, ht1⟩ := TrAt.of (by omega) h4
      obtain ⟨tb2, to2, tp2, ht2⟩ := TrAt.of (by omega) (h4.front 1)
      have H1 := Lib.hid fun p => state_any w4 c tb1 to1 tp1 (16 * N) _ (by omega) ht1 p
      have H2 := Lib.hid fun p => state_any w4 c2 tb2 to2 tp2 (16 * N) _ (by omega) ht2 p
      clear ht1 ht2
      go_wp2_with fail
      go_loop [13] (fun i => ∃ q : Nat, q ≤ 128 ∧ i = .int .i64 q) (fun i => 128 - (intOf i).toNat)
      case atStart => exact ⟨0, by omega, rfl⟩
      case round =>
        obtain ⟨q, hq, rfl⟩ := hrel
        by_cases hlt : q < 128
        · by_cases hin : A ≤ q ∧ q < A + K
          · have e1 : stateV (16 * N) (fillS s A K 2) (q : Int) = 2 := by
              unfold stateV
              rw [if_pos (by omega), Int.toNat_natCast, fillS_in hin]
            have G1 := Lib.hid (H1.out (q : Int))
            rw [e1] at G1
            have d1 : decide ((A : Int) ≤ (q : Int)) = true := decide_eq_true (by omega)
            have d2 : decide ((q : Int) - (A : Int) < (K : Int)) = true := decide_eq_true (by omega)
            have hA : A ≤ q := hin.1
            clear e1 hin
            go_wp2_with fail
            refine G1.out.mono ?_
            rintro e w' ⟨rfl, rfl⟩
            go_wp2_with fail
            go_round
            case rel => exact ⟨q + 1, hlt, by go_num⟩
            case measure => simp [intOf]; omega
          · have e1 : stateV (16 * N) (fillS s A K 2) (q : Int) = stateV (16 * N) s (q : Int) := by
              unfold stateV
              rw [Int.toNat_natCast, fillS_out hin]
            have G1 := Lib.hid (H1.out (q : Int))
            have G2 := Lib.hid (H2.out (q : Int))
            rw [e1] at G1
            generalize stateV (16 * N) s (q : Int) = y at *
            clear e1
            by_cases hA : A ≤ q
            · have d1 : decide ((A : Int) ≤ (q : Int)) = true := decide_eq_true (by omega)
              have d2 : decide ((q : Int) - (A : Int) < (K : Int)) = false := decide_eq_false (by omega)
              clear hin
              go_wp2_with fail
              refine G1.out.mono ?_
              rintro e w' ⟨rfl, rfl⟩
              go_wp2_with fail
              refine G2.out.mono ?_
              rintro e w' ⟨rfl, rfl⟩
              go_wp2_with fail
              go_round
              case rel => exact ⟨q + 1, hlt, by go_num⟩
              case measure => simp [intOf]; omega
            · have d1 : decide ((A : Int) ≤ (q : Int)) = false := decide_eq_false (by omega)
              clear hin
              go_wp2_with fail
              refine G1.out.mono ?_
              rintro e w' ⟨rfl, rfl⟩
              go_wp2_with fail
              refine G2.out.mono ?_
              rintro e w' ⟨rfl, rfl⟩
              go_wp2_with fail
              go_round
              case rel => exact ⟨q + 1, hlt, by go_num⟩
              case measure => simp [intOf]; omega
        · have e : q = 128 := by omega
          subst e
          go_wp2_with fail
          refine (alive_any w _ _ h4).mono ?_
          rintro e w' ⟨rfl, hs⟩
          go_wp2_with fail
          go_ret
          exact ⟨rfl, hs.below⟩
    · have bE : (useE (16 * N) s start pages != 0) = true := by simp [hE]
      have hE' : useF (16 * N) s start pages = s := HT.out hE
      rw [hE'] at h3
      clear hE hE'
      obtain ⟨tb1, to1, tp1, ht1⟩ := TrAt.of (by omega) h3
      obtain ⟨tb2, to2, tp2, ht2⟩ := TrAt.of (by omega) (h3.front 1)
      have HA := Lib.hid (alike_any _ (16 * N) c tb1 to1 tp1 c2 tb2 to2 tp2 _ _ (by omega) (by omega) ht1 ht2)
      clear ht1 ht2
      rw [sameS_self] at HA
      go_wp2_with fail
      refine HA.out.mono ?_
      rintro e w' ⟨rfl, rfl⟩
      go_wp2_with fail
      refine (alive_any w _ _ h3).mono ?_
      rintro e w' ⟨rfl, hs⟩
      go_wp2_with fail
      go_ret
      exact ⟨rfl, hs.below⟩
end Go.Proofs.Ytjignbbdgoadjaa

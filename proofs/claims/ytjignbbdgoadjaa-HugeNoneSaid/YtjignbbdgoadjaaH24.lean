/-
  The reference's tracker: Add, Remove, turn, Use, Unuse, Release, Count, State, Used; and of nil.
-/
import Derived.Test.YtjignbbdgoadjaaH23
namespace Go.Proofs.Ytjignbbdgoadjaa
open Go.RowKit

/-- a kind of the reference is one of the code's -/
theorem rkind_zero {N : Nat} {s : Nat → Int} (hok : okSt N s) {h : Nat} (hh : h < N) : rkindS s h = 0 ↔ s (16 * h) = 0 := by
  have h0 : 0 < ofS s h 0 ↔ s (16 * h) = 0 := by
    constructor
    · intro hp
      obtain ⟨j, hj, hs⟩ := cnt_pos_iff.1 hp
      rw [beq_iff_eq] at hs
      have := (hok (16 * h + j) (by omega)).2.2.1 hs
      rwa [show 16 * ((16 * h + j) / 16) = 16 * h by omega] at this
    · intro hz
      exact cnt_pos_iff.2 ⟨0, by omega, by rw [Nat.add_zero]; simp [hz]⟩
  unfold rkindS
  by_cases hp : 0 < ofS s h 0
  · rw [if_pos hp]; exact ⟨fun _ => h0.1 hp, fun _ => rfl⟩
  · rw [if_neg hp]
    constructor
    · intro e; split at e
      · omega
      · split at e <;> omega
    · intro e; exact absurd (h0.2 e) hp
theorem rkind_pos {N : Nat} {s : Nat → Int} (hok : okSt N s) {h : Nat} (hh : h < N) (hz : s (16 * h) ≠ 0) : rkindS s h = kindS s h + 1 := by
  have h0 : ¬ 0 < ofS s h 0 := by
    intro hp
    have : rkindS s h = 0 := if_pos hp
    exact hz ((rkind_zero hok hh).1 this)
  have hk : kindS s h = if ofS s h 1 = 0 then 0 else if 0 < ofS s h 3 then 1 else 2 := rfl
  unfold rkindS
  rw [if_neg h0, hk]
  split
  · rfl
  · split <;> rfl
theorem rkind_kind {N : Nat} {s : Nat → Int} (hok : okSt N s) {h : Nat} (hh : h < N) (i : Int) (hi : 0 ≤ i) : (rkindS s h == i + 1) = isKind s i h := by
  unfold isKind
  by_cases hz : s (16 * h) = 0
  · rw [(rkind_zero hok hh).2 hz, hz]
    have : ((0 : Int) == i + 1) = false := by rw [beq_eq_false_iff_ne]; omega
    rw [this]; rfl
  · rw [rkind_pos hok hh hz]
    have e1 : (s (16 * h) != 0) = true := by simp [hz]
    rw [e1, Bool.true_and]
    generalize kindS s h = k
    by_cases e : k = i
    · subst e; simp
    · have a1 : (k + 1 == i + 1) = false := by rw [beq_eq_false_iff_ne]; omega
      have a2 : (k == i) = false := by rw [beq_eq_false_iff_ne]; exact e
      rw [a1, a2]
theorem idle_is {s : Nat → Int} {h : Nat} : idleG (fun j => s (16 * h + j)) = isKind s 0 h := by
  have hk : kindS s h = if ofS s h 1 = 0 then 0 else if 0 < ofS s h 3 then 1 else 2 := rfl
  have ho : ofS s h 1 = cnt 16 fun j => s (16 * h + j) == 1 := rfl
  unfold idleG isKind
  rw [hk, ← ho]
  show (s (16 * h + 0) != 0 && ofS s h 1 == 0) = _
  rw [Nat.add_zero]
  by_cases h1 : ofS s h 1 = 0
  · rw [if_pos h1, h1]; rfl
  · rw [if_neg h1]
    have a1 : (ofS s h 1 == 0) = false := by rw [beq_eq_false_iff_ne]; exact h1
    rw [a1]
    split <;> simp

theorem rAdd_any (w0 w : World) (F : List HP) (c N : Nat) (s : Nat → Int) (hN : N ≤ 64) (hN0 : 0 < N) (hok : okSt N s) (hs : St w0 (trk 77 c (16 * N) s :: F) w) (h : Int) :
    Calls Try.prog 51 #[.pointer (some ⟨c, 0, none⟩), .int .i64 h] w fun e w' => e = .returned (.int .i64 (addE N s h)) ∧ St w0 (trk 77 c (16 * N) (addF N s h) :: F) w' := by
  obtain ⟨b, off, cap, ht⟩ := TrAt.of (by omega) hs
  have c0 := ht.1
  have HT := Lib.hid (rthere_any w c b off cap N c0 hN h)
  unfold addE addF
  by_cases hh : inH N h
  · rw [decide_eq_true hh] at HT
    have hh' := hh
    unfold inH at hh'
    obtain ⟨k, rfl⟩ : ∃ k : Nat, h = k := ⟨h.toNat, by omega⟩
    rw [if_pos hh, Int.toNat_natCast]
    simp only [hh, true_and]
    have HK := Lib.hid (rkind_any w c b off cap N s hN ht k (by omega))
    have HZ := Lib.hid (rkind_zero hok (h := k) (by omega))
    have HSET := Lib.hid (rset_any w0 w F c (16 * N) s hs (by omega) (by omega) (16 * k) 16 (by omega) 3)
    have HQ := Lib.hid (show (k : Int) * 16 = ((16 * k : Nat) : Int) by omega)
    clear ht hh
    generalize rkindS s k = rk at *
    by_cases hz : s (16 * k) = 0
    · rw [if_pos hz, if_pos hz]
      have dz : (rk != 0) = false := by rw [bne_eq_false_iff_eq]; exact HZ.out.2 hz
      clear hz
      go_enter Try.func51, Try.ntmps51
      go_wp2_with (first | (go_at_call 50; refine (rmade_true _ _ _ _ _ _ (by omega) c0).mono ?_; rintro e w' ⟨rfl, rfl⟩))
      refine HT.out.mono ?_
      rintro e w' ⟨rfl, rfl⟩
      go_wp2_with fail
      refine HK.out.mono ?_
      rintro e w' ⟨rfl, rfl⟩
      go_wp2_with fail
      rw [HQ.out]
      refine HSET.out.mono ?_
      rintro e w' ⟨rfl, h4⟩
      go_wp2_with fail
      go_ret
      exact ⟨rfl, h4⟩
    · rw [if_neg hz, if_neg hz]
      have dz : (rk != 0) = true := by rw [bne_iff_ne]; exact fun e => hz (HZ.out.1 e)
      clear hz
      go_enter Try.func51, Try.ntmps51
      go_wp2_with (first | (go_at_call 50; refine (rmade_true _ _ _ _ _ _ (by omega) c0).mono ?_; rintro e w' ⟨rfl, rfl⟩))
      refine HT.out.mono ?_
      rintro e w' ⟨rfl, rfl⟩
      go_wp2_with fail
      refine HK.out.mono ?_
      rintro e w' ⟨rfl, rfl⟩
      go_wp2_with fail
      go_ret
      exact ⟨rfl, hs⟩
  · rw [decide_eq_false hh] at HT
    rw [if_neg hh, if_neg fun h' => hh h'.1]
    clear hh ht
    go_enter Try.func51, Try.ntmps51
    go_wp2_with (first | (go_at_call 50; refine (rmade_true _ _ _ _ _ _ (by omega) c0).mono ?_; rintro e w' ⟨rfl, rfl⟩))
    refine HT.out.mono ?_
    rintro e w' ⟨rfl, rfl⟩
    go_wp2_with fail
    go_ret
    exact ⟨rfl, hs⟩
theorem rRemove_any (w0 w : World) (F : List HP) (c N : Nat) (s : Nat → Int) (hN : N ≤ 64) (hN0 : 0 < N) (hok : okSt N s) (hs : St w0 (trk 77 c (16 * N) s :: F) w) (h : Int) :
    Calls Try.prog 52 #[.pointer (some ⟨c, 0, none⟩), .int .i64 h] w fun e w' => e = .returned (.int .i64 (removeE N s h)) ∧ St w0 (trk 77 c (16 * N) (removeF N s h) :: F) w' := by
  obtain ⟨b, off, cap, ht⟩ := TrAt.of (by omega) hs
  have c0 := ht.1
  have HT := Lib.hid (rthere_any w c b off cap N c0 hN h)
  unfold removeE removeF
  by_cases hh : inH N h
  · rw [decide_eq_true hh] at HT
    have hh' := hh
    unfold inH at hh'
    obtain ⟨k, rfl⟩ : ∃ k : Nat, h = k := ⟨h.toNat, by omega⟩
    rw [if_pos hh, Int.toNat_natCast]
    simp only [hh, true_and]
    have HK := Lib.hid (rkind_any w c b off cap N s hN ht k (by omega))
    have HZ := Lib.hid (rkind_kind hok (h := k) (by omega) 0 (Int.le_refl 0))
    have HSET := Lib.hid (rset_any w0 w F c (16 * N) s hs (by omega) (by omega) (16 * k) 16 (by omega) 0)
    have HQ := Lib.hid (show (k : Int) * 16 = ((16 * k : Nat) : Int) by omega)
    rw [idle_is]
    clear ht hh
    generalize rkindS s k = rk at *
    cases hz : isKind s 0 k with
    | true =>
      rw [if_pos rfl, if_pos rfl]
      have dz : (rk != 1) = false := by rw [bne_eq_false_iff_eq]; have := HZ.out; rw [hz, beq_iff_eq] at this; exact this
      clear hz
      go_enter Try.func52, Try.ntmps52
      go_wp2_with (first | (go_at_call 50; refine (rmade_true _ _ _ _ _ _ (by omega) c0).mono ?_; rintro e w' ⟨rfl, rfl⟩))
      refine HT.out.mono ?_
      rintro e w' ⟨rfl, rfl⟩
      go_wp2_with fail
      refine HK.out.mono ?_
      rintro e w' ⟨rfl, rfl⟩
      go_wp2_with fail
      rw [HQ.out]
      refine HSET.out.mono ?_
      rintro e w' ⟨rfl, h4⟩
      go_wp2_with fail
      go_ret
      exact ⟨rfl, h4⟩
    | false =>
      rw [if_neg (by simp), if_neg (by simp)]
      have dz : (rk != 1) = true := by rw [bne_iff_ne]; have := HZ.out; rw [hz, beq_eq_false_iff_ne] at this; exact this
      clear hz
      go_enter Try.func52, Try.ntmps52
      go_wp2_with (first | (go_at_call 50; refine (rmade_true _ _ _ _ _ _ (by omega) c0).mono ?_; rintro e w' ⟨rfl, rfl⟩))
      refine HT.out.mono ?_
      rintro e w' ⟨rfl, rfl⟩
      go_wp2_with fail
      refine HK.out.mono ?_
      rintro e w' ⟨rfl, rfl⟩
      go_wp2_with fail
      go_ret
      exact ⟨rfl, hs⟩
  · rw [decide_eq_false hh] at HT
    rw [if_neg hh, if_neg fun h' => hh h'.1]
    clear hh ht
    go_enter Try.func52, Try.ntmps52
    go_wp2_with (first | (go_at_call 50; refine (rmade_true _ _ _ _ _ _ (by omega) c0).mono ?_; rintro e w' ⟨rfl, rfl⟩))
    refine HT.out.mono ?_
    rintro e w' ⟨rfl, rfl⟩
    go_wp2_with fail
    go_ret
    exact ⟨rfl, hs⟩

theorem rturn_in (w0 w : World) (F : List HP) (c m : Nat) (s : Nat → Int) (hm : 0 < m) (hm2 : m ≤ 1024) (hs : St w0 (trk 77 c m s :: F) w) (a n : Nat) (h1 : 1 ≤ n) (h2 : a + n ≤ m) (x y v : Int) :
    Calls Try.prog 73 #[.pointer (some ⟨c, 0, none⟩), .int .i64 a, .int .i64 n, .int .i64 x, .int .i64 y, .int .i64 v] w
      fun e w' => e = .returned (.int .i64 (if 0 < badN s (fun z => z == x || z == y) a n then 5 else 0)) ∧ St w0 (trk 77 c m (if badN s (fun z => z == x || z == y) a n = 0 then fillS s a n v else s) :: F) w' := by
  obtain ⟨b, off, cap, c0, _, hr⟩ := TrAt.of hm hs
  have HR := Lib.hid hr
  have HSET := Lib.hid (rset_any w0 w F c m s hs hm hm2 a n h2 v)
  have b0 : decide ((a : Int) < 0) = false := by simp
  have b1 : decide ((n : Int) < 1) = false := decide_eq_false (by omega)
  have b2 : decide ((m : Int) ≤ (a : Int)) = false := decide_eq_false (by omega)
  have b3 : decide ((m : Int) - (a : Int) < (n : Int)) = false := decide_eq_false (by omega)
  generalize hP : (fun j => !((fun z : Int => z == x || z == y) (s (a + j)))) = P at *
  have hB : badN s (fun z => z == x || z == y) a n = cnt n P := by unfold badN; rw [hP]
  rw [hB]
  have HP := Lib.hid fun j => (congrFun hP j).symm
  clear hP hB hr
  go_enter Try.func73, Try.ntmps73
  go_wp2_with (first | (go_at_call 50; refine (rmade_true _ _ _ _ _ _ hm c0).mono ?_; rintro e w' ⟨rfl, rfl⟩))
  go_loop [13] (fun i => ∃ j : Nat, j ≤ n ∧ i = .int .i64 ((a + j : Nat) : Int) ∧ Hid (cnt j P = 0)) (fun i => a + n - (intOf i).toNat)
  case atStart => exact ⟨0, Nat.zero_le _, rfl, Lib.hid rfl⟩
  case round =>
    obtain ⟨j, hj, rfl, hz⟩ := hrel
    by_cases hlt : j < n
    · have dj : decide (((a + j : Nat) : Int) < (a : Int) + (n : Int)) = true := decide_eq_true (by omega)
      have c1 := HR.out (a + j) (by omega)
      have i1 : (a : Int) + (j : Int) < (m : Int) := by omega
      have i0 : (0 : Int) ≤ (a : Int) + (j : Int) := by omega
      by_cases hx : s (a + j) = x
      · have dx : (s (a + j) != x) = false := by simp [hx]
        have hPj : P j = false := by rw [HP.out]; simp [hx]
        have E := Lib.hid (cnt_false hPj)
        clear hx hPj
        go_wp2_with fail
        go_round
        case rel => exact ⟨j + 1, hlt, by go_num, Lib.hid (by rw [E.out]; exact hz.out)⟩
        case measure => simp [intOf]; omega
      · have dx : (s (a + j) != x) = true := by simp [hx]
        by_cases hy : s (a + j) = y
        · have dy : (s (a + j) != y) = false := by simp [hy]
          have hPj : P j = false := by rw [HP.out]; simp [hy]
          have E := Lib.hid (cnt_false hPj)
          clear hx hy hPj
          go_wp2_with fail
          go_round
          case rel => exact ⟨j + 1, hlt, by go_num, Lib.hid (by rw [E.out]; exact hz.out)⟩
          case measure => simp [intOf]; omega
        · have dy : (s (a + j) != y) = true := by simp [hy]
          have hPj : P j = true := by rw [HP.out]; simp [hx, hy]
          have E := Lib.hid (cnt_pos_iff.2 ⟨j, hlt, hPj⟩)
          clear hx hy hPj
          go_wp2_with fail
          go_ret
          have e1 := E.out
          exact ⟨by first | rfl | (rw [if_pos e1]; rfl), by first | exact hs | (rw [if_neg (by omega)]; exact hs)⟩
    · have dj : decide (((a + j : Nat) : Int) < (a : Int) + (n : Int)) = false := decide_eq_false (by omega)
      have E := Lib.hid (show cnt n P = 0 by rw [show n = j by omega]; exact hz.out)
      go_wp2_with fail
      refine HSET.out.mono ?_
      rintro e w' ⟨rfl, h4⟩
      go_wp2_with fail
      go_ret
      have e1 := E.out
      exact ⟨by first | rfl | (rw [if_neg (by omega)]; rfl), by first | exact h4 | (rw [if_pos e1]; exact h4)⟩
theorem rturn_bad (w0 w : World) (F : List HP) (c m : Nat) (s : Nat → Int) (hm : 0 < m) (hm2 : m ≤ 1024) (hs : St w0 (trk 77 c m s :: F) w) (a n x y v : Int) (h : ¬ okRun m a n) :
    Calls Try.prog 73 #[.pointer (some ⟨c, 0, none⟩), .int .i64 a, .int .i64 n, .int .i64 x, .int .i64 y, .int .i64 v] w fun e w' => e = .returned (.int .i64 1) ∧ St w0 (trk 77 c m s :: F) w' := by
  obtain ⟨b, off, cap, c0, _, _⟩ := TrAt.of hm hs
  unfold okRun at h
  by_cases h0 : a < 0
  · have b0 : decide (a < 0) = true := decide_eq_true h0
    clear h
    go_enter Try.func73, Try.ntmps73
    go_wp2_with (go_at_call 50; refine (rmade_true _ _ _ _ _ _ hm c0).mono ?_; rintro e w' ⟨rfl, rfl⟩)
    go_ret
    exact ⟨rfl, hs⟩
  have b0 : decide (a < 0) = false := decide_eq_false h0
  by_cases h1 : n < 1
  · have b1 : decide (n < 1) = true := decide_eq_true h1
    clear h
    go_enter Try.func73, Try.ntmps73
    go_wp2_with (go_at_call 50; refine (rmade_true _ _ _ _ _ _ hm c0).mono ?_; rintro e w' ⟨rfl, rfl⟩)
    go_ret
    exact ⟨rfl, hs⟩
  have b1 : decide (n < 1) = false := decide_eq_false h1
  by_cases h2 : (m : Int) ≤ a
  · have b2 : decide ((m : Int) ≤ a) = true := decide_eq_true h2
    clear h
    go_enter Try.func73, Try.ntmps73
    go_wp2_with (go_at_call 50; refine (rmade_true _ _ _ _ _ _ hm c0).mono ?_; rintro e w' ⟨rfl, rfl⟩)
    go_ret
    exact ⟨rfl, hs⟩
  have b2 : decide ((m : Int) ≤ a) = false := decide_eq_false h2
  have b3 : decide ((m : Int) - a < n) = true := decide_eq_true (by omega)
  clear h
  go_enter Try.func73, Try.ntmps73
  go_wp2_with (go_at_call 50; refine (rmade_true _ _ _ _ _ _ hm c0).mono ?_; rintro e w' ⟨rfl, rfl⟩)
  go_ret
  exact ⟨rfl, hs⟩
theorem rturn_any (w0 w : World) (F : List HP) (c m : Nat) (s : Nat → Int) (hm : 0 < m) (hm2 : m ≤ 1024) (hs : St w0 (trk 77 c m s :: F) w) (a n x y v : Int) :
    Calls Try.prog 73 #[.pointer (some ⟨c, 0, none⟩), .int .i64 a, .int .i64 n, .int .i64 x, .int .i64 y, .int .i64 v] w
      fun e w' => e = .returned (.int .i64 (turnE m s (fun z => z == x || z == y) a n)) ∧ St w0 (trk 77 c m (turnF m s (fun z => z == x || z == y) v a n) :: F) w' := by
  unfold turnE turnF
  by_cases h : okRun m a n
  · have h' := h
    unfold okRun at h'
    rw [if_pos h]
    have e1 : a = ((a.toNat : Nat) : Int) := by omega
    have e2 : n = ((n.toNat : Nat) : Int) := by omega
    have hc := rturn_in w0 w F c m s hm hm2 hs a.toNat n.toNat (by omega) (by omega) x y v
    rw [← e1, ← e2] at hc
    refine hc.mono ?_
    rintro e w' ⟨rfl, h3⟩
    refine ⟨rfl, ?_⟩
    by_cases hz : badN s (fun z => z == x || z == y) a.toNat n.toNat = 0
    · rw [if_pos hz] at h3
      rw [if_pos ⟨h, hz⟩]
      exact h3
    · rw [if_neg hz] at h3
      rw [if_neg fun h => hz h.2]
      exact h3
  · rw [if_neg h, if_neg fun h' => h h'.1]
    exact rturn_bad w0 w _ c m s hm hm2 hs a n x y v h
theorem rUse_any (w0 w : World) (F : List HP) (c m : Nat) (s : Nat → Int) (hm : 0 < m) (hm2 : m ≤ 1024) (hs : St w0 (trk 77 c m s :: F) w) (a n : Int) :
    Calls Try.prog 53 #[.pointer (some ⟨c, 0, none⟩), .int .i64 a, .int .i64 n] w fun e w' => e = .returned (.int .i64 (useE m s a n)) ∧ St w0 (trk 77 c m (useF m s a n) :: F) w' := by
  have hc := Lib.hid (rturn_any w0 w F c m s hm hm2 hs a n 2 3 1)
  rw [show (fun z : Int => z == 2 || z == 3) = free from rfl] at hc
  unfold useE useF
  go_enter Try.func53, Try.ntmps53
  go_wp2_with fail
  refine hc.out.mono ?_
  rintro e w' ⟨rfl, h⟩
  go_wp2_with fail
  go_ret
  exact ⟨rfl, h⟩
theorem rUnuse_any (w0 w : World) (F : List HP) (c m : Nat) (s : Nat → Int) (hm : 0 < m) (hm2 : m ≤ 1024) (hs : St w0 (trk 77 c m s :: F) w) (a n : Int) :
    Calls Try.prog 54 #[.pointer (some ⟨c, 0, none⟩), .int .i64 a, .int .i64 n] w fun e w' => e = .returned (.int .i64 (unuseE m s a n)) ∧ St w0 (trk 77 c m (unuseF m s a n) :: F) w' := by
  have hc := Lib.hid (rturn_any w0 w F c m s hm hm2 hs a n 1 1 2)
  rw [show (fun z : Int => z == 1 || z == 1) = (fun z => z == 1) from funext fun z => Bool.or_self _] at hc
  unfold unuseE unuseF
  go_enter Try.func54, Try.ntmps54
  go_wp2_with fail
  refine hc.out.mono ?_
  rintro e w' ⟨rfl, h⟩
  go_wp2_with fail
  go_ret
  exact ⟨rfl, h⟩
theorem rRelease_any (w0 w : World) (F : List HP) (c m : Nat) (s : Nat → Int) (hm : 0 < m) (hm2 : m ≤ 1024) (hs : St w0 (trk 77 c m s :: F) w) (a n : Int) :
    Calls Try.prog 55 #[.pointer (some ⟨c, 0, none⟩), .int .i64 a, .int .i64 n] w fun e w' => e = .returned (.int .i64 (releaseE m s a n)) ∧ St w0 (trk 77 c m (releaseF m s a n) :: F) w' := by
  have hc := Lib.hid (rturn_any w0 w F c m s hm hm2 hs a n 2 2 3)
  rw [show (fun z : Int => z == 2 || z == 2) = (fun z => z == 2) from funext fun z => Bool.or_self _] at hc
  unfold releaseE releaseF
  go_enter Try.func55, Try.ntmps55
  go_wp2_with fail
  refine hc.out.mono ?_
  rintro e w' ⟨rfl, h⟩
  go_wp2_with fail
  go_ret
  exact ⟨rfl, h⟩
end Go.Proofs.Ytjignbbdgoadjaa

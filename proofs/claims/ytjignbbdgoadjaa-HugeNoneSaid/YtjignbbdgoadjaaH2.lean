/-
  Index, Contains, IndexFunc, ContainsFunc under turn's own function; turn; Use, Unuse, Release.
-/
import Derived.Test.YtjignbbdgoadjaaH1
namespace Go.Proofs.Ytjignbbdgoadjaa
open Go.RowKit

theorem index_any (w : World) (b off n cap : Nat) (g : Nat → Int) (hr : RowAt w b off n g) (hn : n ≤ 4096) (x : Int) :
    Calls Try.prog 88 #[.slice (some ⟨b, off, none⟩) n cap, .int .i64 x] w fun e w' => (∃ r : Int, e = .returned (.int .i64 r) ∧ (0 ≤ r ↔ 0 < cnt n fun j => g j == x)) ∧ w = w' := by
  have HR := Lib.hid hr
  clear hr
  go_enter Try.func88, Try.ntmps88
  go_wp2_with fail
  go_loop [8] (fun i => ∃ j : Nat, j ≤ n ∧ i = .int .i64 j ∧ Hid (cnt j (fun j => g j == x) = 0)) (fun i => n - (intOf i).toNat)
  case atStart => exact ⟨0, Nat.zero_le _, rfl, Lib.hid rfl⟩
  case round =>
    obtain ⟨j, hj, rfl, hz⟩ := hrel
    by_cases hlt : j < n
    · have c1 := HR.out j hlt
      cases hg : g j == x with
      | true =>
        have hg' : (x == g j) = true := by rw [beq_iff_eq] at hg ⊢; exact hg.symm
        have E := Lib.hid (show 0 < cnt n fun j => g j == x from cnt_pos_iff.2 ⟨j, hlt, hg⟩)
        clear hg
        go_wp2_with fail
        go_ret
        exact ⟨⟨j, rfl, ⟨fun _ => E.out, fun _ => by omega⟩⟩, rfl⟩
      | false =>
        have hg' : (x == g j) = false := by
          rw [beq_eq_false_iff_ne] at hg ⊢
          exact fun h => hg h.symm
        have E := Lib.hid (cnt_false (n := j) (P := fun j => g j == x) hg)
        clear hg
        go_wp2_with fail
        go_round
        case rel => exact ⟨j + 1, hlt, by go_num, Lib.hid (by rw [E.out]; exact hz.out)⟩
        case measure => simp [intOf]; omega
    · have e : j = n := by omega
      subst e
      go_wp2_with fail
      go_ret
      exact ⟨⟨-1, rfl, by rw [hz.out]; omega⟩, rfl⟩
theorem contains_any (w : World) (b off n cap : Nat) (g : Nat → Int) (hr : RowAt w b off n g) (hn : n ≤ 4096) (x : Int) :
    Calls Try.prog 69 #[.slice (some ⟨b, off, none⟩) n cap, .int .i64 x] w fun e w' => e = .returned (.bool (decide (0 < cnt n fun j => g j == x))) ∧ w = w' := by
  go_enter Try.func69, Try.ntmps69
  go_wp2_with fail
  refine (index_any w b off n cap g hr hn x).mono ?_
  rintro e w' ⟨⟨r, rfl, h⟩, rfl⟩
  go_wp2_with fail
  go_ret
  exact ⟨by first | rfl | exact congrArg (fun x => Ending.returned (.bool x)) (decide_eq_decide.2 h), rfl⟩
theorem turn1_any (w : World) (bx b off n cap : Nat) (g : Nat → Int) (hb : w.cell? ⟨bx, 0, none⟩ = some (.slice (some ⟨b, off, none⟩) n cap)) (hr : RowAt w b off n g) (hn : n ≤ 4096) (x : Int) :
    Calls Try.prog 68 #[.int .i64 x, .pointer (some ⟨bx, 0, none⟩)] w fun e w' => e = .returned (.bool (!decide (0 < cnt n fun j => g j == x))) ∧ w = w' := by
  go_enter Try.func68, Try.ntmps68
  go_wp2_with fail
  refine (contains_any w b off n cap g hr hn x).mono ?_
  rintro e w' ⟨rfl, rfl⟩
  go_wp2_with fail
  go_ret
  exact ⟨rfl, rfl⟩
/-- IndexFunc under turn's own function -/
theorem indexFunc_any (w : World) (lb loff ln lcap : Nat) (l : Nat → Int) (hl : RowAt w lb loff ln l) (hln : ln ≤ 4096) (bx b off n cap : Nat) (g : Nat → Int) (hb : w.cell? ⟨bx, 0, none⟩ = some (.slice (some ⟨b, off, none⟩) n cap)) (hr : RowAt w b off n g) (hn : n ≤ 4096) :
    Calls Try.prog 87 #[.slice (some ⟨lb, loff, none⟩) ln lcap, .func (.func 68) #[] #[.pointer (some ⟨bx, 0, none⟩)]] w
      fun e w' => (∃ r : Int, e = .returned (.int .i64 r) ∧ (0 ≤ r ↔ 0 < cnt ln fun k => !decide (0 < cnt n fun j => g j == l k))) ∧ w = w' := by
  have HL := Lib.hid hl
  have HC := Lib.hid (turn1_any w bx b off n cap g hb hr hn)
  clear hl hb hr
  generalize hP : (fun k => !decide (0 < cnt n fun j => g j == l k)) = P at *
  have HP := Lib.hid fun k => congrFun hP k
  clear hP
  go_enter Try.func87, Try.ntmps87
  go_wp2_with fail
  go_loop [8] (fun i => ∃ j : Nat, j ≤ ln ∧ i = .int .i64 j ∧ Hid (cnt j P = 0)) (fun i => ln - (intOf i).toNat)
  case atStart => exact ⟨0, Nat.zero_le _, rfl, Lib.hid rfl⟩
  case round =>
    obtain ⟨j, hj, rfl, hz⟩ := hrel
    by_cases hlt : j < ln
    · have c1 := HL.out j hlt
      have hc := HC.out (l j)
      rw [HP.out j] at hc
      have HJ := Lib.hid hc
      clear hc
      cases hg : P j with
      | true =>
        rw [hg] at HJ
        have E := Lib.hid (show 0 < cnt ln P from cnt_pos_iff.2 ⟨j, hlt, hg⟩)
        clear hg
        go_wp2_with fail
        refine HJ.out.mono ?_
        rintro e w' ⟨rfl, rfl⟩
        go_wp2_with fail
        go_ret
        exact ⟨⟨j, rfl, ⟨fun _ => E.out, fun _ => by omega⟩⟩, rfl⟩
      | false =>
        rw [hg] at HJ
        have E := Lib.hid (cnt_false (n := j) (P := P) hg)
        clear hg
        go_wp2_with fail
        refine HJ.out.mono ?_
        rintro e w' ⟨rfl, rfl⟩
        go_wp2_with fail
        go_round
        case rel => exact ⟨j + 1, hlt, by go_num, Lib.hid (by rw [E.out]; exact hz.out)⟩
        case measure => simp [intOf]; omega
    · have e : j = ln := by omega
      subst e
      go_wp2_with fail
      go_ret
      exact ⟨⟨-1, rfl, by rw [hz.out]; omega⟩, rfl⟩
theorem containsFunc_any (w : World) (lb loff ln lcap : Nat) (l : Nat → Int) (hl : RowAt w lb loff ln l) (hln : ln ≤ 4096) (bx b off n cap : Nat) (g : Nat → Int) (hb : w.cell? ⟨bx, 0, none⟩ = some (.slice (some ⟨b, off, none⟩) n cap)) (hr : RowAt w b off n g) (hn : n ≤ 4096) :
    Calls Try.prog 67 #[.slice (some ⟨lb, loff, none⟩) ln lcap, .func (.func 68) #[] #[.pointer (some ⟨bx, 0, none⟩)]] w
      fun e w' => e = .returned (.bool (decide (0 < cnt ln fun k => !decide (0 < cnt n fun j => g j == l k)))) ∧ w = w' := by
  go_enter Try.func67, Try.ntmps67
  go_wp2_with fail
  refine (indexFunc_any w lb loff ln lcap l hl hln bx b off n cap g hb hr hn).mono ?_
  rintro e w' ⟨⟨r, rfl, h⟩, rfl⟩
  go_wp2_with fail
  go_ret
  exact ⟨by first | rfl | exact congrArg (fun x => Ending.returned (.bool x)) (decide_eq_decide.2 h), rfl⟩

/-- a run that is one -/
def okRun (m a n : Int) : Prop := 0 ≤ a ∧ 1 ≤ n ∧ n ≤ m - a
instance (m a n : Int) : Decidable (okRun m a n) := by unfold okRun; infer_instance
/-- pages of a run that are in none of the states -/
def badN (s : Nat → Int) (P : Int → Bool) (a n : Nat) : Nat := cnt n fun j => !P (s (a + j))
def turnE (m : Nat) (s : Nat → Int) (P : Int → Bool) (a n : Int) : Int := if okRun m a n then if 0 < badN s P a.toNat n.toNat then 5 else 0 else 1
def turnF (m : Nat) (s : Nat → Int) (P : Int → Bool) (v a n : Int) : Nat → Int := if okRun m a n ∧ badN s P a.toNat n.toNat = 0 then fillS s a.toNat n.toNat v else s
def inF (k : Nat) (fr : Nat → Int) (x : Int) : Bool := decide (0 < cnt k fun j => fr j == x)

set_option maxHeartbeats 1000000 in
theorem turn_in (w0 w : World) (F : List HP) (c m : Nat) (s : Nat → Int) (fb foff k fcap : Nat) (fr : Nat → Int) (hm : 0 < m) (hm2 : m ≤ 1024) (hk : 0 < k) (hk2 : k ≤ 2)
    (hs : St w0 (trk 61 c m s :: HP.arr 3 1 (.slice (some ⟨fb, foff, none⟩) k fcap) k (numsF k fr) :: F) w) (a n : Nat) (h1 : 1 ≤ n) (h2 : a + n ≤ m) (v : Int) :
    Calls Try.prog 49 #[.pointer (some ⟨c, 0, none⟩), .int .i64 a, .int .i64 n, .int .i64 v, .slice (some ⟨fb, foff, none⟩) k fcap] w
      fun e w' => e = .returned (.int .i64 (if 0 < badN s (inF k fr) a n then 5 else 0)) ∧ St w0 (trk 61 c m (if badN s (inF k fr) a n = 0 then fillS s a n v else s) :: F) w' := by
  have hb := hs.allocRow #[.slice (some ⟨fb, foff, none⟩) k fcap] 33
  obtain ⟨b, off, cap, hcap, h⟩ := trk_open hm (hb.front 1)
  have h3 : St w0 (HP.arr 3 1 (.slice (some ⟨b, off, none⟩) m cap) m (numsF m s) :: HP.blk c #[.slice (some ⟨b, off, none⟩) m cap] 61 :: HP.blk w.heap.size #[.slice (some ⟨fb, foff, none⟩) k fcap] 33 :: HP.arr 3 1 (.slice (some ⟨fb, foff, none⟩) k fcap) k (numsF k fr) :: F) _ := h.swap
  have c0 := (h3.front 1).cells1
  have c1 := (h3.front 2).cells1
  have rl := (RowAt.of h3).sub h2
  have rf := RowAt.of (h3.front 3)
  have HC := Lib.hid (containsFunc_any _ b (off + a) n (cap - a) _ rl (by omega) w.heap.size fb foff k fcap fr c1 rf (by omega))
  have HF := Lib.hid fun w1 h => fill_any w0 w1 (HP.blk c #[.slice (some ⟨b, off, none⟩) m cap] 61 :: HP.blk w.heap.size #[.slice (some ⟨fb, foff, none⟩) k fcap] 33 :: HP.arr 3 1 (.slice (some ⟨fb, foff, none⟩) k fcap) k (numsF k fr) :: F) b off cap m s h a n (cap - a) h2 hm2 v
  have H3 := Lib.hid h3
  clear h3 h hb hs rl rf c1
  have b0 : decide ((a : Int) < 0) = false := by simp
  have b1 : decide ((n : Int) < 1) = false := decide_eq_false (by omega)
  have b2 : decide ((m : Int) < (a : Int)) = false := decide_eq_false (by omega)
  have b3 : decide ((m : Int) - (a : Int) < (n : Int)) = false := decide_eq_false (by omega)
  have i1 : (0 : Int) ≤ (a : Int) := by omega
  have i2 : (a : Int) ≤ (a : Int) + (n : Int) := by omega
  have i3 : (a : Int) + (n : Int) ≤ (m : Int) := by omega
  have i4 : (a : Int) + (n : Int) ≤ (cap : Int) := by omega
  generalize hq : badN s (inF k fr) a n = q at *
  have hq2 : (cnt n fun k_1 => !decide (0 < cnt k fun j => fr j == s (a + k_1))) = q := hq
  rw [hq2] at HC
  clear hq hq2
  by_cases hz : 0 < q
  · rw [if_pos hz, if_neg (by omega)]
    have HZ := Lib.hid (decide_eq_true hz)
    rw [HZ.out] at HC
    clear hz
    go_enter Try.func49, Try.ntmps49
    go_wp2_with (go_at_call 39; refine (made_true _ _ _ _ _ _ hm c0).mono ?_; rintro e w' ⟨rfl, rfl⟩)
    refine HC.out.mono ?_
    rintro e w' ⟨rfl, rfl⟩
    go_wp2_with fail
    go_ret
    exact ⟨rfl, trk_shut (H3.out.pick 4 [1, 0])⟩
  · rw [if_neg hz, if_pos (by omega)]
    have HZ := Lib.hid (decide_eq_false hz)
    rw [HZ.out] at HC
    clear hz
    go_enter Try.func49, Try.ntmps49
    go_wp2_with (go_at_call 39; refine (made_true _ _ _ _ _ _ hm c0).mono ?_; rintro e w' ⟨rfl, rfl⟩)
    refine HC.out.mono ?_
    rintro e w' ⟨rfl, rfl⟩
    go_wp2_with fail
    refine (HF.out _ H3.out).mono ?_
    rintro e w' ⟨rfl, h4⟩
    go_wp2_with fail
    go_ret
    exact ⟨rfl, trk_shut (h4.pick 4 [1, 0])⟩
theorem turn_bad (w0 w : World) (F : List HP) (c m : Nat) (s : Nat → Int) (fa : Option Addr) (fl fcap : Nat) (hm : 0 < m) (hm2 : m ≤ 1024) (hs : St w0 (trk 61 c m s :: F) w) (a n v : Int) (h : ¬ okRun m a n) :
    Calls Try.prog 49 #[.pointer (some ⟨c, 0, none⟩), .int .i64 a, .int .i64 n, .int .i64 v, .slice fa fl fcap] w fun e w' => e = .returned (.int .i64 1) ∧ St w0 (trk 61 c m s :: F) w' := by
  have hb := hs.allocRow #[.slice fa fl fcap] 33
  obtain ⟨b, off, cap, c0, _, _⟩ := TrAt.of hm (hb.front 1)
  have h9 := hb.pick 2 [1]
  clear hb hs
  unfold okRun at h
  by_cases h0 : a < 0
  · have b0 : decide (a < 0) = true := decide_eq_true h0
    clear h
    go_enter Try.func49, Try.ntmps49
    go_wp2_with (go_at_call 39; refine (made_true _ _ _ _ _ _ hm c0).mono ?_; rintro e w' ⟨rfl, rfl⟩)
    go_ret
    exact ⟨rfl, h9⟩
  have b0 : decide (a < 0) = false := decide_eq_false h0
  by_cases h1 : n < 1
  · have b1 : decide (n < 1) = true := decide_eq_true h1
    clear h
    go_enter Try.func49, Try.ntmps49
    go_wp2_with (go_at_call 39; refine (made_true _ _ _ _ _ _ hm c0).mono ?_; rintro e w' ⟨rfl, rfl⟩)
    go_ret
    exact ⟨rfl, h9⟩
  have b1 : decide (n < 1) = false := decide_eq_false h1
  by_cases h2 : (m : Int) < a
  · have b2 : decide ((m : Int) < a) = true := decide_eq_true h2
    clear h
    go_enter Try.func49, Try.ntmps49
    go_wp2_with (go_at_call 39; refine (made_true _ _ _ _ _ _ hm c0).mono ?_; rintro e w' ⟨rfl, rfl⟩)
    go_ret
    exact ⟨rfl, h9⟩
  have b2 : decide ((m : Int) < a) = false := decide_eq_false h2
  have b3 : decide ((m : Int) - a < n) = true := decide_eq_true (by omega)
  clear h
  go_enter Try.func49, Try.ntmps49
  go_wp2_with (go_at_call 39; refine (made_true _ _ _ _ _ _ hm c0).mono ?_; rintro e w' ⟨rfl, rfl⟩)
  go_ret
  exact ⟨rfl, h9⟩
theorem turn_any (w0 w : World) (F : List HP) (c m : Nat) (s : Nat → Int) (fb foff k fcap : Nat) (fr : Nat → Int) (hm : 0 < m) (hm2 : m ≤ 1024) (hk : 0 < k) (hk2 : k ≤ 2)
    (hs : St w0 (trk 61 c m s :: HP.arr 3 1 (.slice (some ⟨fb, foff, none⟩) k fcap) k (numsF k fr) :: F) w) (a n v : Int) :
    Calls Try.prog 49 #[.pointer (some ⟨c, 0, none⟩), .int .i64 a, .int .i64 n, .int .i64 v, .slice (some ⟨fb, foff, none⟩) k fcap] w
      fun e w' => e = .returned (.int .i64 (turnE m s (inF k fr) a n)) ∧ St w0 (trk 61 c m (turnF m s (inF k fr) v a n) :: F) w' := by
  unfold turnE turnF
  by_cases h : okRun m a n
  · have h' := h
    unfold okRun at h'
    rw [if_pos h]
    have e1 : a = ((a.toNat : Nat) : Int) := by omega
    have e2 : n = ((n.toNat : Nat) : Int) := by omega
    have hc := turn_in w0 w F c m s fb foff k fcap fr hm hm2 hk hk2 hs a.toNat n.toNat (by omega) (by omega) v
    rw [← e1, ← e2] at hc
    refine hc.mono ?_
    rintro e w' ⟨rfl, h3⟩
    refine ⟨rfl, ?_⟩
    by_cases hz : badN s (inF k fr) a.toNat n.toNat = 0
    · rw [if_pos hz] at h3
      rw [if_pos ⟨h, hz⟩]
      exact h3
    · rw [if_neg hz] at h3
      rw [if_neg fun h => hz h.2]
      exact h3
  · rw [if_neg h, if_neg fun h' => h h'.1]
    refine (turn_bad w0 w _ c m s _ _ _ hm hm2 hs a n v h).mono ?_
    rintro e w' ⟨rfl, h3⟩
    exact ⟨rfl, h3.pick 2 [0]⟩
theorem turn_not (w : World) (q : Option Addr) (h : ∀ o, NotMade (w.alloc o) q) (a n v : Int) (fa : Option Addr) (fl fcap : Nat) :
    Calls Try.prog 49 #[.pointer q, .int .i64 a, .int .i64 n, .int .i64 v, .slice fa fl fcap] w fun e w' => e = .returned (.int .i64 5) ∧ w' = w.alloc (.cells #[.slice fa fl fcap] 33) := by
  have H := Lib.hid (made_not _ q (h (.cells #[.slice fa fl fcap] 33)))
  clear h
  go_enter Try.func49, Try.ntmps49
  go_wp2_with fail
  refine H.out.mono ?_
  rintro e w' ⟨rfl, rfl⟩
  go_wp2_with fail
  go_ret
  exact ⟨rfl, rfl⟩
end Go.Proofs.Ytjignbbdgoadjaa

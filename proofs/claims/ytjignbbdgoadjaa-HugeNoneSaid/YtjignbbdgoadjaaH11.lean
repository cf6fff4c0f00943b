/-
  Plan at any number; lists that are compared; has, total, alike, great.
-/
import Derived.Test.YtjignbbdgoadjaaH10
namespace Go.Proofs.Ytjignbbdgoadjaa
open Go.RowKit

set_option maxHeartbeats 1000000 in
theorem plan_neg (w0 w : World) (F : List HP) (c N : Nat) (s : Nat → Int) (hN0 : 0 < N) (hs : St w0 (trk 61 c (16 * N) s :: F) w) (want : Int) (hw : want < 0) :
    Calls Try.prog 15 #[.pointer (some ⟨c, 0, none⟩), .int .i64 want] w fun e w' => e = .returned (.tuple #[.slice none 0 0, .int .i64 1]) ∧ St w0 (trk 61 c (16 * N) s :: F) w' := by
  have hb := hs.allocRow #[.pointer (some ⟨c, 0, none⟩)] 25
  obtain ⟨b, off, cap, c0, hcap, hro⟩ := TrAt.of (by omega) (hb.front 1)
  have b0 : decide (want < 0) = true := decide_eq_true hw
  have bxc := hb.cells1
  have h9 := hb.pick 2 [1]
  clear hro hb hs
  go_enter Try.func15, Try.ntmps15
  go_wp2_with fail
  go_step3
  go_wp2_with (first | (go_at_call 39; refine (made_true _ _ _ _ _ _ (by omega) c0).mono ?_; rintro e w' ⟨rfl, rfl⟩))
  rw [Exit.noGoto_ret]
  go_ret2
  exact ⟨rfl, h9⟩
theorem plan_not (w : World) (q : Option Addr) (h : ∀ o, NotMade (w.alloc o) q) (want : Int) :
    Calls Try.prog 15 #[.pointer q, .int .i64 want] w fun e w' => e = .returned (.tuple #[.slice none 0 0, .int .i64 5]) ∧ w' = w.alloc (.cells #[.pointer q] 25) := by
  have H := Lib.hid (made_not _ q (h (.cells #[.pointer q] 25)))
  clear h
  go_enter Try.func15, Try.ntmps15
  go_wp2_with fail
  go_step3
  go_wp2_with fail
  refine H.out.mono ?_
  rintro e w' ⟨rfl, rfl⟩
  go_wp2_with fail
  rw [Exit.noGoto_ret]
  go_ret2
  exact ⟨rfl, rfl⟩
def planV (s : Nat → Int) (N : Nat) (want : Int) : List Rn := if want < 0 then [] else planL s N want
def planE (want : Int) : Int := if want < 0 then 1 else 0
theorem plan_any (w0 w : World) (F : List HP) (c N : Nat) (s : Nat → Int) (hN : N ≤ 64) (hN0 : 0 < N) (hs : St w0 (trk 61 c (16 * N) s :: F) w) (want : Int) :
    Calls Try.prog 15 #[.pointer (some ⟨c, 0, none⟩), .int .i64 want] w fun e w' => ∃ a cap, e = .returned (.tuple #[.slice a (planV s N want).length cap, .int .i64 (planE want)]) ∧
      St w0 (runsP (.slice a (planV s N want).length cap) (planV s N want) :: trk 61 c (16 * N) s :: F) w' := by
  unfold planV planE
  by_cases hw : want < 0
  · rw [if_pos hw, if_pos hw]
    refine (plan_neg w0 w F c N s hN0 hs want hw).mono ?_
    rintro e w' ⟨rfl, h⟩
    exact ⟨none, 0, rfl, h.arr_nil 36 2⟩
  · rw [if_neg hw, if_neg hw]
    exact plan_in w0 w F c N s hN hN0 hs want (by omega)

theorem great_any (w : World) (a : Option Addr) (n cap : Nat) (hn : n ≤ 9223372036854775807) :
    Calls Try.prog 12 #[.slice a n cap] w fun e w' => e = .returned (.bool (decide (40 < n))) ∧ w = w' := by
  by_cases h : 40 < n
  · have hd : decide ((40 : Int) < (n : Int)) = true := decide_eq_true (by omega)
    rw [decide_eq_true h]
    clear h
    go_enter Try.func12, Try.ntmps12
    go_wp2
    go_ret
    exact ⟨rfl, rfl⟩
  · have hd : decide ((40 : Int) < (n : Int)) = false := decide_eq_false (by omega)
    rw [decide_eq_false h]
    clear h
    go_enter Try.func12, Try.ntmps12
    go_wp2
    go_ret
    exact ⟨rfl, rfl⟩

/-- a list of numbers that can be read -/
theorem IntsAt.cell {w : World} {v : Value} {l : List Int} (h : IntsAt w v l) {k : Nat} {x : Int} (hx : l[k]? = some x) : ∃ b off cap, v = .slice (some ⟨b, off, none⟩) l.length cap ∧ w.cell? ⟨b, off + k, none⟩ = some (.int .i64 x) := by
  have hk := (List.getElem?_eq_some_iff.1 hx).1
  obtain ⟨b, off, cap, hv, _, hc⟩ := Reads.lies h (by omega)
  exact ⟨b, off, cap, hv, hc k _ (by rw [List.getElem?_map, hx]; rfl)⟩
def RunsAt (w : World) (v : Value) (l : List Rn) : Prop := Reads w 2 v l.length (rnCells l)
theorem runs_at {w0 w : World} {F : List HP} {v : Value} {l : List Rn} (h : St w0 (runsP v l :: F) w) : RunsAt w v l := HP.arr_reads h
theorem rnCells_get : ∀ (l : List Rn) (k : Nat) (x : Rn), l[k]? = some x → (rnCells l)[k * 2]? = some (.int .i64 (x.a : Int)) ∧ (rnCells l)[k * 2 + 1]? = some (.int .i64 (x.n : Int))
  | [], k, x, h => by simp at h
  | y :: l, 0, x, h => by
    simp at h
    subst h
    exact ⟨rfl, rfl⟩
  | y :: l, k + 1, x, h => by
    have ih := rnCells_get l k x (by simpa using h)
    rw [show (k + 1) * 2 = k * 2 + 1 + 1 by omega]
    exact ih
theorem RunsAt.cell {w : World} {v : Value} {l : List Rn} (h : RunsAt w v l) {k : Nat} {x : Rn} (hx : l[k]? = some x) :
    ∃ b off cap, v = .slice (some ⟨b, off, none⟩) l.length cap ∧ w.cell? ⟨b, off + k * 2, none⟩ = some (.int .i64 (x.a : Int)) ∧ w.cell? ⟨b, off + k * 2 + 1, none⟩ = some (.int .i64 (x.n : Int)) := by
  have hk := (List.getElem?_eq_some_iff.1 hx).1
  obtain ⟨b, off, cap, hv, _, hc⟩ := Reads.lies h (by omega)
  obtain ⟨h1, h2⟩ := rnCells_get l k x hx
  exact ⟨b, off, cap, hv, hc _ _ h1, by rw [Nat.add_assoc]; exact hc _ _ h2⟩
theorem drewN_drewN (w : World) (a b : Nat) : (w.drewN a).drewN b = w.drewN (a + b) := by
  show ({ w with drawn := w.drawn + a + b } : World) = { w with drawn := w.drawn + (a + b) }
  rw [Nat.add_assoc]
/-- lists that agree so far -/
def agree {α : Type} (xs ys : List α) (k : Nat) : Prop := xs.take k = ys.take k
theorem agree_zero {α : Type} (xs ys : List α) : agree xs ys 0 := by simp [agree]
theorem agree_succ {α : Type} {xs ys : List α} {k : Nat} {x : α} (h : agree xs ys k) (hx : xs[k]? = some x) (hy : ys[k]? = some x) : agree xs ys (k + 1) := by
  unfold agree at *
  rw [List.take_add_one, List.take_add_one, h, hx, hy]
theorem agree_all {α : Type} {xs ys : List α} {k : Nat} (h : agree xs ys k) (hk : xs.length ≤ k) (hl : xs.length = ys.length) : xs = ys := by
  unfold agree at h
  rwa [List.take_of_length_le hk, List.take_of_length_le (by omega)] at h
theorem agree_not {α : Type} {xs ys : List α} {k : Nat} {x y : α} (hx : xs[k]? = some x) (hy : ys[k]? = some y) (hne : x ≠ y) : xs ≠ ys := by
  intro h
  rw [h, hy] at hx
  exact hne (Option.some.inj hx).symm

set_option maxRecDepth 10000 in
set_option maxHeartbeats 1000000 in
theorem ints_any (w : World) (a b : Option Addr) (ca cb : Nat) (xs ys : List Int) (hx : IntsAt w (.slice a xs.length ca) xs) (hy : IntsAt w (.slice b ys.length cb) ys) (hn : xs.length ≤ 4096) :
    Calls Try.prog 36 #[.slice a xs.length ca, .slice b ys.length cb] w fun e w' => e = .returned (.bool (decide (xs = ys))) ∧ ∃ n, w' = w.drewN n := by
  by_cases hl : xs.length = ys.length
  · have hne : ((xs.length : Int) != ys.length) = false := by simp [hl]
    have HX := Lib.hid hx
    have HY := Lib.hid hy
    have HL := Lib.hid hl
    clear hx hy hl
    go_enter Try.func36, Try.ntmps36
    go_wp2_with fail
    go_loopw [5] (fun i wr => ∃ k : Nat, k ≤ xs.length ∧ i = .int .i64 k ∧ agree xs ys k ∧ ∃ n, wr = w.drewN n) (fun i _ => xs.length - (intOf i).toNat)
    case atStart => exact ⟨0, Nat.zero_le _, rfl, agree_zero _ _, 0, rfl⟩
    case round =>
      obtain ⟨k, hk, rfl, hag, n, rfl⟩ := hrel
      by_cases hlt : k < xs.length
      · obtain ⟨x, h1⟩ : ∃ x, xs[k]? = some x := ⟨xs[k], List.getElem?_eq_getElem hlt⟩
        obtain ⟨y, h2⟩ : ∃ y, ys[k]? = some y := ⟨ys[k]'(by have := HL.out; omega), List.getElem?_eq_getElem _⟩
        obtain ⟨xb, xo, xc, e1, c1⟩ := HX.out.cell h1
        obtain ⟨yb, yo, yc, e2, c2⟩ := HY.out.cell h2
        injection e1 with e1 e11 e12
        injection e2 with e2 e21 e22
        clear e11 e12 e21 e22
        subst e1 e2
        have hlt2 : k < ys.length := by have := HL.out; omega
        have ik0 : (0 : Int) ≤ (k : Int) := by omega
        have ik1 : (k : Int) < (xs.length : Int) := by omega
        have ik2 : (k : Int) < (ys.length : Int) := by omega
        have H1 := Lib.hid h1
        have H2 := Lib.hid h2
        clear h1 h2
        by_cases hxy : x = y
        · have bq : (x != y) = false := by simp [hxy]
          have HXY := Lib.hid hxy
          clear hxy
          go_wp2_with fail
          go_quiet (fail)
          go_wp2_with fail
          go_roundw
          case rel => exact ⟨k + 1, hlt, by go_num, agree_succ hag H1.out (by rw [HXY.out]; exact H2.out), _, by first | rfl | rw [drewN_drewN]⟩
          case measure => simp [intOf]; omega
        · have bq : (x != y) = true := by simp [hxy]
          have HXY := Lib.hid hxy
          clear hxy
          go_wp2_with fail
          go_quiet (fail)
          go_wp2_with fail
          go_ret
          exact ⟨by rw [decide_eq_false (agree_not H1.out H2.out HXY.out)]; rfl, _, by first | rfl | rw [drewN_drewN]⟩
      · go_wp2_with fail
        go_ret
        exact ⟨by rw [decide_eq_true (agree_all hag (by omega) HL.out)]; rfl, _, rfl⟩
  · have hne : ((xs.length : Int) != ys.length) = true := by simp; omega
    have H : decide (xs = ys) = false := decide_eq_false fun h => hl (by rw [h])
    have HH := Lib.hid H
    clear H hl
    go_enter Try.func36, Try.ntmps36
    go_wp2
    go_ret
    exact ⟨by rw [HH.out]; rfl, 0, rfl⟩

theorem has_any (w : World) (a : Option Addr) (ca : Nat) (l : List Int) (hl : IntsAt w (.slice a l.length ca) l) (hn : l.length ≤ 4096) (x : Int) :
    Calls Try.prog 17 #[.slice a l.length ca, .int .i64 x] w fun e w' => e = .returned (.bool (decide (x ∈ l))) ∧ w = w' := by
  have HL := Lib.hid hl
  clear hl
  go_enter Try.func17, Try.ntmps17
  go_wp2_with fail
  go_loop [5] (fun i => ∃ k : Nat, k ≤ l.length ∧ i = .int .i64 k ∧ Hid (¬ x ∈ l.take k)) (fun i => l.length - (intOf i).toNat)
  case atStart => exact ⟨0, Nat.zero_le _, rfl, Lib.hid (by simp)⟩
  case round =>
    obtain ⟨k, hk, rfl, hno⟩ := hrel
    by_cases hlt : k < l.length
    · obtain ⟨y, h1⟩ : ∃ y, l[k]? = some y := ⟨l[k], List.getElem?_eq_getElem hlt⟩
      obtain ⟨b, off, cp, e1, c1⟩ := HL.out.cell h1
      injection e1 with e1 e2 e3
      clear e2 e3
      subst e1
      by_cases hxy : y = x
      · have bq : (y == x) = true := by simp [hxy]
        have HM := Lib.hid (decide_eq_true (show x ∈ l by rw [← hxy]; exact List.mem_of_getElem? h1))
        clear hxy h1
        go_wp2_with fail
        go_ret
        exact ⟨by rw [HM.out]; rfl, rfl⟩
      · have bq : (y == x) = false := by simp [hxy]
        have HM : Hid (¬ x ∈ l.take (k + 1)) := Lib.hid (by
          rw [List.take_add_one, h1, List.mem_append]
          rintro (h | h)
          · exact hno.out h
          · simp at h; exact hxy h.symm)
        clear hxy h1
        go_wp2_with fail
        go_round
        case rel => exact ⟨k + 1, hlt, by go_num, HM⟩
        case measure => simp [intOf]; omega
    · have HM : Hid (decide (x ∈ l) = false) := Lib.hid (decide_eq_false (by have := hno.out; rwa [List.take_of_length_le (by omega)] at this))
      go_wp2_with fail
      go_ret
      exact ⟨by rw [HM.out]; rfl, rfl⟩
theorem sumRn_take {l : List Rn} {k : Nat} {x : Rn} (h : l[k]? = some x) : sumRn (l.take (k + 1)) = sumRn (l.take k) + x.n := by
  rw [List.take_add_one, h, sumRn_append]
  rfl
theorem sumRn_take_le (l : List Rn) (k : Nat) : sumRn (l.take k) ≤ sumRn l := by
  have e := sumRn_append (l.take k) (l.drop k)
  rw [List.take_append_drop] at e
  omega
theorem total_any (w : World) (a : Option Addr) (ca : Nat) (l : List Rn) (hl : RunsAt w (.slice a l.length ca) l) (hn : l.length ≤ 4096) (hb : sumRn l ≤ 4096) :
    Calls Try.prog 25 #[.slice a l.length ca] w fun e w' => e = .returned (.int .i64 (sumRn l)) ∧ w = w' := by
  have HL := Lib.hid hl
  clear hl
  go_enter Try.func25, Try.ntmps25
  go_wp2_with fail
  go_loop [3, 4] (fun t i => ∃ k : Nat, k ≤ l.length ∧ i = .int .i64 k ∧ t = .int .i64 (sumRn (l.take k))) (fun _ i => l.length - (intOf i).toNat)
  case atStart => exact ⟨0, Nat.zero_le _, rfl, rfl⟩
  case round =>
    obtain ⟨k, hk, rfl, rfl⟩ := hrel
    by_cases hlt : k < l.length
    · obtain ⟨y, h1⟩ : ∃ y, l[k]? = some y := ⟨l[k], List.getElem?_eq_getElem hlt⟩
      obtain ⟨b, off, cp, e1, c1, c2⟩ := HL.out.cell h1
      injection e1 with e1 e2 e3
      clear e2 e3
      subst e1
      have e4 := sumRn_take h1
      have l1 := sumRn_take_le l (k + 1)
      rw [e4] at l1
      have E := Lib.hid e4
      clear e4 h1
      go_wp2_with fail
      go_round
      case rel => exact ⟨k + 1, hlt, by go_num, by rw [E.out]; go_num⟩
      case measure => simp [intOf]; omega
    · have e : l.take k = l := List.take_of_length_le (by omega)
      rw [e]
      go_wp2_with fail
      go_ret
      exact ⟨rfl, rfl⟩
/-- two trackers tell the same states -/
def sameS (m : Nat) (s s' : Nat → Int) : Bool := (List.range m).all fun p => s p == s' p
theorem sameS_iff {m : Nat} {s s' : Nat → Int} : sameS m s s' = true ↔ ∀ p, p < m → s p = s' p := by
  unfold sameS
  rw [List.all_eq_true]
  constructor
  · intro h j hj; simpa using h j (List.mem_range.2 hj)
  · intro h j hj; simpa using h j (List.mem_range.1 hj)
theorem alike_any (w : World) (m c1 b1 o1 p1 c2 b2 o2 p2 : Nat) (s s' : Nat → Int) (hm : 0 < m) (hm2 : m ≤ 128) (h1 : TrAt w c1 b1 o1 p1 m s) (h2 : TrAt w c2 b2 o2 p2 m s') :
    Calls Try.prog 27 #[.pointer (some ⟨c1, 0, none⟩), .pointer (some ⟨c2, 0, none⟩)] w fun e w' => e = .returned (.bool (sameS m s s')) ∧ w = w' := by
  have H1 := Lib.hid fun p => state_any w c1 b1 o1 p1 m s hm h1 p
  have H2 := Lib.hid fun p => state_any w c2 b2 o2 p2 m s' hm h2 p
  clear h1 h2
  go_enter Try.func27, Try.ntmps27
  go_wp2_with fail
  go_loop [5] (fun i => ∃ k : Nat, k ≤ 129 ∧ i = .int .i64 k ∧ Hid (∀ r : Nat, r < k → r < m → s r = s' r)) (fun i => 129 - (intOf i).toNat)
  case atStart => exact ⟨0, by omega, rfl, Lib.hid fun r h => by omega⟩
  case round =>
    obtain ⟨k, hk, rfl, hz⟩ := hrel
    by_cases hlt : k < 129
    · have bk : decide ((k : Int) ≤ 128) = true := decide_eq_true (by omega)
      have e1 : stateV m s (k : Int) = if k < m then s k else -1 := by
        unfold stateV
        by_cases h : k < m
        · rw [if_pos (by omega), if_pos h]; rfl
        · rw [if_neg (by omega), if_neg h]
      have e2 : stateV m s' (k : Int) = if k < m then s' k else -1 := by
        unfold stateV
        by_cases h : k < m
        · rw [if_pos (by omega), if_pos h]; rfl
        · rw [if_neg (by omega), if_neg h]
      have G1 := Lib.hid (H1.out (k : Int))
      have G2 := Lib.hid (H2.out (k : Int))
      rw [e1] at G1
      rw [e2] at G2
      clear e1 e2
      by_cases hfk : k < m ∧ s k ≠ s' k
      · rw [if_pos hfk.1] at G1 G2
        have b1 : (s k != s' k) = true := by simp [hfk.2]
        have HN : Hid (sameS m s s' = false) := Lib.hid (by
          cases h : sameS m s s'
          · rfl
          · exact absurd (sameS_iff.1 h k hfk.1) hfk.2)
        clear hfk
        go_wp2_with fail
        refine G1.out.mono ?_
        rintro e w' ⟨rfl, rfl⟩
        go_wp2_with fail
        refine G2.out.mono ?_
        rintro e w' ⟨rfl, rfl⟩
        go_wp2_with fail
        go_ret
        exact ⟨by rw [HN.out]; rfl, rfl⟩
      · have e3 : (if k < m then s k else -1) = (if k < m then s' k else -1) := by
          by_cases h : k < m
          · rw [if_pos h, if_pos h]
            exact Classical.byContradiction fun hc => hfk ⟨h, hc⟩
          · rw [if_neg h, if_neg h]
        have HK : Hid (∀ r : Nat, r < k + 1 → r < m → s r = s' r) := Lib.hid fun r h1 h2 => by
          by_cases e : r = k
          · subst e; rw [if_pos h2, if_pos h2] at e3; exact e3
          · exact hz.out r (by omega) h2
        rw [e3] at G1
        generalize (if k < m then s' k else -1) = y at *
        clear e3 hfk
        go_wp2_with fail
        refine G1.out.mono ?_
        rintro e w' ⟨rfl, rfl⟩
        go_wp2_with fail
        refine G2.out.mono ?_
        rintro e w' ⟨rfl, rfl⟩
        go_wp2_with fail
        go_round
        case rel => exact ⟨k + 1, hlt, by go_num, HK⟩
        case measure => simp [intOf]; omega
    · have bk : decide ((k : Int) ≤ 128) = false := decide_eq_false (by omega)
      have HT : Hid (sameS m s s' = true) := Lib.hid (sameS_iff.2 fun p hp => hz.out p (by omega) hp)
      go_wp2_with fail
      go_ret
      exact ⟨by rw [HT.out]; rfl, rfl⟩
end Go.Proofs.Ytjignbbdgoadjaa

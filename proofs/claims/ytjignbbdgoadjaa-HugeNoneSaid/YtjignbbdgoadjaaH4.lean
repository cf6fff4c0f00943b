/-
  State, Used, Count, Idle, Broken, Whole, Clone, New.
-/
import Derived.Test.YtjignbbdgoadjaaH3
import Derived.Laws.MakeOwn
namespace Go.Proofs.Ytjignbbdgoadjaa
open Go.RowKit

def stateV (m : Nat) (s : Nat → Int) (p : Int) : Int := if 0 ≤ p ∧ p < m then s p.toNat else -1
theorem state_in (w : World) (c b off cap m : Nat) (s : Nat → Int) (ht : TrAt w c b off cap m s) (p : Nat) (hp : p < m) :
    Calls Try.prog 16 #[.pointer (some ⟨c, 0, none⟩), .int .i64 p] w fun e w' => e = .returned (.int .i64 (s p)) ∧ w = w' := by
  obtain ⟨c0, hcap, hr⟩ := ht
  have c1 := hr p hp
  clear hr
  have b0 : decide ((p : Int) < 0) = false := by simp
  have b1 : decide ((m : Int) ≤ (p : Int)) = false := decide_eq_false (by omega)
  go_enter Try.func16, Try.ntmps16
  go_wp2_with (go_at_call 39; refine (made_true _ _ _ _ _ _ (by omega) c0).mono ?_; rintro e w' ⟨rfl, rfl⟩)
  go_ret
  exact ⟨rfl, rfl⟩
theorem state_any (w : World) (c b off cap m : Nat) (s : Nat → Int) (hm : 0 < m) (ht : TrAt w c b off cap m s) (p : Int) :
    Calls Try.prog 16 #[.pointer (some ⟨c, 0, none⟩), .int .i64 p] w fun e w' => e = .returned (.int .i64 (stateV m s p)) ∧ w = w' := by
  unfold stateV
  have c0 := ht.1
  by_cases h0 : p < 0
  · rw [if_neg (by omega)]
    have b0 : decide (p < 0) = true := decide_eq_true h0
    clear ht
    go_enter Try.func16, Try.ntmps16
    go_wp2_with (go_at_call 39; refine (made_true _ _ _ _ _ _ hm c0).mono ?_; rintro e w' ⟨rfl, rfl⟩)
    go_ret
    exact ⟨rfl, rfl⟩
  by_cases h1 : (m : Int) ≤ p
  · rw [if_neg (by omega)]
    have b0 : decide (p < 0) = false := decide_eq_false h0
    have b1 : decide ((m : Int) ≤ p) = true := decide_eq_true h1
    clear ht
    go_enter Try.func16, Try.ntmps16
    go_wp2_with (go_at_call 39; refine (made_true _ _ _ _ _ _ hm c0).mono ?_; rintro e w' ⟨rfl, rfl⟩)
    go_ret
    exact ⟨rfl, rfl⟩
  rw [if_pos (by omega)]
  have e : p = ((p.toNat : Nat) : Int) := by omega
  have h := state_in w c b off cap m s ht p.toNat (by omega)
  rw [← e] at h
  exact h
theorem state_not (w : World) (q : Option Addr) (hq : NotMade w q) (p : Int) : Calls Try.prog 16 #[.pointer q, .int .i64 p] w fun e w' => e = .returned (.int .i64 (-1)) ∧ w = w' := by
  have HU := Lib.hid (made_not w q hq)
  clear hq
  go_enter Try.func16, Try.ntmps16
  go_wp2_with fail
  refine HU.out.mono ?_
  rintro e w' ⟨rfl, rfl⟩
  go_wp2_with fail
  go_ret
  exact ⟨rfl, rfl⟩

def usedV (N : Nat) (s : Nat → Int) (h : Int) : Int := if inH N h then ofS s h.toNat 1 else 0
theorem used_any (w : World) (c b off cap N : Nat) (s : Nat → Int) (hN : N ≤ 64) (hN0 : 0 < N) (ht : TrAt w c b off cap (16 * N) s) (h : Int) :
    Calls Try.prog 21 #[.pointer (some ⟨c, 0, none⟩), .int .i64 h] w fun e w' => e = .returned (.int .i64 (usedV N s h)) ∧ w = w' := by
  unfold usedV
  by_cases hh : inH N h
  · rw [if_pos hh]
    unfold inH at hh
    obtain ⟨k, rfl⟩ : ∃ k : Nat, h = k := ⟨h.toNat, by omega⟩
    have HU := Lib.hid (huge_in w c b off cap N s hN ht k (by omega))
    have HC := Lib.hid (count_any w b (off + 16 * k) 16 (cap - 16 * k) _ (ht.2.2.sub (a := 16 * k) (k := 16) (by omega)) (by omega) 1)
    clear ht
    go_enter Try.func21, Try.ntmps21
    go_wp2_with fail
    refine HU.out.mono ?_
    rintro e w' ⟨rfl, rfl⟩
    go_wp2_with fail
    refine HC.out.mono ?_
    rintro e w' ⟨rfl, rfl⟩
    go_wp2_with fail
    go_ret
    exact ⟨rfl, rfl⟩
  · rw [if_neg hh]
    have hh' : h < 0 ∨ (N : Int) ≤ h := by unfold inH at hh; omega
    have HU := Lib.hid (huge_bad w c b off cap N s hN hN0 ht h hh')
    clear hh hh' ht
    go_enter Try.func21, Try.ntmps21
    go_wp2_with fail
    refine HU.out.mono ?_
    rintro e w' ⟨rfl, rfl⟩
    go_wp2_with fail
    go_ret
    exact ⟨rfl, rfl⟩
theorem used_not (w : World) (q : Option Addr) (hq : NotMade w q) (h : Int) : Calls Try.prog 21 #[.pointer q, .int .i64 h] w fun e w' => e = .returned (.int .i64 0) ∧ w = w' := by
  have HU := Lib.hid (huge_not w q hq h)
  clear hq
  go_enter Try.func21, Try.ntmps21
  go_wp2_with fail
  refine HU.out.mono ?_
  rintro e w' ⟨rfl, rfl⟩
  go_wp2_with fail
  go_ret
  exact ⟨rfl, rfl⟩
theorem Count_any (w : World) (c b off cap m : Nat) (s : Nat → Int) (hm : 0 < m) (hm2 : m ≤ 1024) (ht : TrAt w c b off cap m s) (st : Int) :
    Calls Try.prog 22 #[.pointer (some ⟨c, 0, none⟩), .int .i64 st] w fun e w' => e = .returned (.int .i64 (cnt m fun j => s j == st)) ∧ w = w' := by
  have HC := Lib.hid (count_any w b off m cap _ ht.2.2 (by omega) st)
  have c0 := ht.1
  clear ht
  go_enter Try.func22, Try.ntmps22
  go_wp2_with (go_at_call 39; refine (made_true _ _ _ _ _ _ hm c0).mono ?_; rintro e w' ⟨rfl, rfl⟩)
  refine HC.out.mono ?_
  rintro e w' ⟨rfl, rfl⟩
  go_wp2_with fail
  go_ret
  exact ⟨rfl, rfl⟩
theorem Count_not (w : World) (q : Option Addr) (hq : NotMade w q) (st : Int) : Calls Try.prog 22 #[.pointer q, .int .i64 st] w fun e w' => e = .returned (.int .i64 0) ∧ w = w' := by
  have HU := Lib.hid (made_not w q hq)
  clear hq
  go_enter Try.func22, Try.ntmps22
  go_wp2_with fail
  refine HU.out.mono ?_
  rintro e w' ⟨rfl, rfl⟩
  go_wp2_with fail
  go_ret
  exact ⟨rfl, rfl⟩

/-- a list of numbers in memory -/
def intsP (v : Value) (l : List Int) : HP := HP.arr 3 1 v l.length (l.map (Value.int .i64))
def IntsAt (w : World) (v : Value) (l : List Int) : Prop := Reads w 1 v l.length (l.map (Value.int .i64))
theorem ints_at {w0 w : World} {F : List HP} {v : Value} {l : List Int} (h : St w0 (intsP v l :: F) w) : IntsAt w v l := HP.arr_reads h
theorem info3 : (Try.prog.info? 3).map (fun i => (i.zero, i.size, i.bytes)) = some (some (.int .i64 0), 1, 8) := by kernel_rfl
theorem oneCell_ints (l : List Int) : ∀ u ∈ l.map (Value.int .i64), u.oneCell' = true := by
  intro u hu
  simp only [List.mem_map] at hu
  obtain ⟨p, _, rfl⟩ := hu
  rfl

/-- the present huge pages of a kind, of the first k -/
def isKind (s : Nat → Int) (i : Int) (h : Nat) : Bool := s (16 * h) != 0 && kindS s h == i
def thoseN (s : Nat → Int) (i : Int) : Nat → List Int
  | 0 => []
  | k + 1 => if isKind s i k = true then thoseN s i k ++ [(k : Int)] else thoseN s i k
theorem thoseN_len (s : Nat → Int) (i : Int) : ∀ k, (thoseN s i k).length ≤ k
  | 0 => Nat.le_refl _
  | k + 1 => by
    have := thoseN_len s i k
    unfold thoseN
    split
    · rw [List.length_append, List.length_singleton]; omega
    · omega
set_option maxRecDepth 10000 in
set_option maxHeartbeats 2000000 in
theorem those_any (w0 w : World) (F : List HP) (c N : Nat) (s : Nat → Int) (hN : N ≤ 64) (hN0 : 0 < N) (hs : St w0 (trk 61 c (16 * N) s :: F) w) (i : Int) :
    Calls Try.prog 46 #[.pointer (some ⟨c, 0, none⟩), .int .i64 i] w fun e w' => ∃ a cap, e = .returned (.slice a (thoseN s i N).length cap) ∧ St w0 (intsP (.slice a (thoseN s i N).length cap) (thoseN s i N) :: trk 61 c (16 * N) s :: F) w' := by
  obtain ⟨i0, hi, hz0, hz1, hz2⟩ := info_parts info3
  obtain ⟨b, off, cap, c0, hcap, _⟩ := TrAt.of (by omega) hs
  go_enter Try.func46, Try.ntmps46
  go_wp2_with (first | (go_at_call 39; refine (made_true _ _ _ _ _ _ (by omega) c0).mono ?_; rintro e w' ⟨rfl, rfl⟩) | (go_at_call 40; refine (all_any _ _ _ _ _ _ hN c0).mono ?_; rintro e w' ⟨rfl, rfl⟩))
  clear c0 hcap
  go_loopw [5, 13] (fun v i' wr => ∃ (k : Nat) (l : List Int) (a : Option Addr) (cap : Nat), k ≤ N ∧ i' = .int .i64 k ∧ Hid (thoseN s i k = l) ∧ v = .slice a l.length cap ∧ St w0 (intsP v l :: trk 61 c (16 * N) s :: F) wr) (fun _ i' _ => N - (intOf i').toNat)
  case atStart => exact ⟨0, [], none, 0, Nat.zero_le _, rfl, Lib.hid rfl, rfl, hs.arr_nil 3 1⟩
  case round =>
    obtain ⟨k, l, a, cap, hk, rfl, hl, rfl, hs1⟩ := hrel
    by_cases hlt : k < N
    · have hll : l.length ≤ k := by have := thoseN_len s i k; rw [hl.out] at this; exact this
      have hstep : Hid (thoseN s i (k + 1) = if isKind s i k = true then l ++ [(k : Int)] else l) := Lib.hid (by show (if _ then _ else _) = _; rw [hl.out])
      obtain ⟨b, off, tcap, ht⟩ := TrAt.of (by omega) (hs1.front 1)
      have HO := Lib.hid (of_any wr c b off tcap N hN ht.1 ht.2.1 k hlt)
      have HK := Lib.hid (kind_any wr b (off + 16 * k) (tcap - 16 * k) _ (ht.2.2.sub (a := 16 * k) (k := 16) (by omega)))
      have c1 := ht.2.2 (16 * k) (by omega)
      clear ht
      cases h0 : s (16 * k) != 0 with
      | false =>
        have hstep2 := Lib.hid (show isKind s i k = false by unfold isKind; rw [h0]; rfl)
        go_wp2_with fail
        refine HO.out.mono ?_
        rintro e w' ⟨rfl, rfl⟩
        go_wp2_with fail
        go_roundw
        case rel => exact ⟨k + 1, l, a, cap, hlt, by go_num, Lib.hid (by rw [hstep.out, hstep2.out]; rfl), rfl, hs1⟩
        case measure => simp [intOf]; omega
      | true =>
        cases hki : kindS s k == i with
        | false =>
          have hstep2 := Lib.hid (show isKind s i k = false by unfold isKind; rw [hki, Bool.and_false])
          have hki' : (kindG (fun j => s (16 * k + j)) == i) = false := hki
          clear hki
          go_wp2_with fail
          refine HO.out.mono ?_
          rintro e w' ⟨rfl, rfl⟩
          go_wp2_with fail
          refine HK.out.mono ?_
          rintro e w' ⟨rfl, rfl⟩
          go_wp2_with fail
          go_roundw
          case rel => exact ⟨k + 1, l, a, cap, hlt, by go_num, Lib.hid (by rw [hstep.out, hstep2.out]; rfl), rfl, hs1⟩
          case measure => simp [intOf]; omega
        | true =>
          have hstep2 := Lib.hid (show isKind s i k = true by unfold isKind; rw [h0, hki]; rfl)
          have hki' : (kindG (fun j => s (16 * k + j)) == i) = true := hki
          clear hki
          have h4 := St.newArr hs1 3 1 1 [.int .i64 k] rfl (by decide)
          have r4 := HP.arr_reads h4
          have h5 := h4.swap
          go_wp2_with fail
          refine HO.out.mono ?_
          rintro e w' ⟨rfl, rfl⟩
          go_wp2_with fail
          refine HK.out.mono ?_
          rintro e w' ⟨rfl, rfl⟩
          go_wp2_with (at_builtin; refine wpList_append_st rfl _ _ 33 rfl 3 i0 _ 1 8 Try.underlying33 hi hz0 hz1 hz2 rfl (.slice a l.length cap) _ rfl rfl l.length (l.map (Value.int .i64)) (by exact h5) 1 [.int .i64 k] (by exact r4) (oneCell_ints [(k : Int)]) (by unfold maxLen; omega) (by omega) ?_; intro v5 w5 hs5 hv5; clear hv5; obtain ⟨a5, p5, rfl⟩ := (HP.arr_reads hs5).form)
          go_roundw
          case rel =>
            refine ⟨k + 1, l ++ [(k : Int)], a5, p5, hlt, by go_num, Lib.hid (by rw [hstep.out, hstep2.out]; rfl), by simp, ?_⟩
            unfold intsP
            rw [List.map_append, List.length_append]
            exact hs5.pick 3 [0, 2]
          case measure => simp [intOf]; omega
    · have e : k = N := by omega
      subst e
      have e := hl.out
      subst e
      go_wp2_with fail
      go_ret
      exact ⟨_, _, rfl, hs1⟩
theorem those_not (w : World) (q : Option Addr) (hq : NotMade w q) (i : Int) : Calls Try.prog 46 #[.pointer q, .int .i64 i] w fun e w' => e = .returned (.slice none 0 0) ∧ w = w' := by
  have HU := Lib.hid (made_not w q hq)
  clear hq
  go_enter Try.func46, Try.ntmps46
  go_wp2_with fail
  refine HU.out.mono ?_
  rintro e w' ⟨rfl, rfl⟩
  go_wp2_with fail
  go_ret
  exact ⟨rfl, rfl⟩
end Go.Proofs.Ytjignbbdgoadjaa

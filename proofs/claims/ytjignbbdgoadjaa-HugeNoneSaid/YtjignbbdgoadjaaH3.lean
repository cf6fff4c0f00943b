/-
  Use, Unuse, Release, Add, Remove, State, Used, Count.
-/
import Derived.Test.YtjignbbdgoadjaaH2
namespace Go.Proofs.Ytjignbbdgoadjaa
open Go.RowKit

def free (x : Int) : Bool := x == 2 || x == 3
theorem inF_use (x : Int) : inF 2 (fun j => if j = 0 then 2 else 3) x = free x := by
  unfold inF free
  by_cases h2 : x = 2
  · subst h2; decide
  · by_cases h3 : x = 3
    · subst h3; decide
    · have e2 : ((2 : Int) == x) = false := by rw [beq_eq_false_iff_ne]; omega
      have e3 : ((3 : Int) == x) = false := by rw [beq_eq_false_iff_ne]; omega
      have e4 : (x == 2) = false := by rw [beq_eq_false_iff_ne]; omega
      have e5 : (x == 3) = false := by rw [beq_eq_false_iff_ne]; omega
      simp [cnt, e2, e3, e4, e5]
theorem inF_one (y x : Int) : inF 1 (fun _ => y) x = (x == y) := by
  unfold inF
  by_cases h : y = x
  · subst h; simp [cnt]
  · have e2 : (y == x) = false := by rw [beq_eq_false_iff_ne]; exact h
    have e3 : (x == y) = false := by rw [beq_eq_false_iff_ne]; exact fun e => h e.symm
    simp [cnt, e2, e3]
def useE (m : Nat) (s : Nat → Int) (a n : Int) : Int := turnE m s free a n
def useF (m : Nat) (s : Nat → Int) (a n : Int) : Nat → Int := turnF m s free 1 a n
def unuseE (m : Nat) (s : Nat → Int) (a n : Int) : Int := turnE m s (fun x => x == 1) a n
def unuseF (m : Nat) (s : Nat → Int) (a n : Int) : Nat → Int := turnF m s (fun x => x == 1) 2 a n
def releaseE (m : Nat) (s : Nat → Int) (a n : Int) : Int := turnE m s (fun x => x == 2) a n
def releaseF (m : Nat) (s : Nat → Int) (a n : Int) : Nat → Int := turnF m s (fun x => x == 2) 3 a n

theorem use_any (w0 w : World) (F : List HP) (c m : Nat) (s : Nat → Int) (hm : 0 < m) (hm2 : m ≤ 1024) (hs : St w0 (trk 61 c m s :: F) w) (a n : Int) :
    Calls Try.prog 28 #[.pointer (some ⟨c, 0, none⟩), .int .i64 a, .int .i64 n] w fun e w' => e = .returned (.int .i64 (useE m s a n)) ∧ St w0 (trk 61 c m (useF m s a n) :: F) w' := by
  have h1 := (hs.newArr 3 1 2 [.int .i64 2, .int .i64 3] rfl (by decide)).swap
  have hc := Lib.hid (turn_any w0 _ F c m s w.heap.size 0 2 2 (fun j => if j = 0 then 2 else 3) hm hm2 (by omega) (by omega) h1 a n 1)
  rw [show inF 2 (fun j => if j = 0 then 2 else 3) = free from funext inF_use] at hc
  clear h1 hs
  unfold useE useF
  go_enter Try.func28, Try.ntmps28
  go_wp2_with fail
  refine hc.out.mono ?_
  rintro e w' ⟨rfl, h⟩
  go_wp2_with fail
  go_ret
  exact ⟨rfl, h⟩
theorem unuse_any (w0 w : World) (F : List HP) (c m : Nat) (s : Nat → Int) (hm : 0 < m) (hm2 : m ≤ 1024) (hs : St w0 (trk 61 c m s :: F) w) (a n : Int) :
    Calls Try.prog 26 #[.pointer (some ⟨c, 0, none⟩), .int .i64 a, .int .i64 n] w fun e w' => e = .returned (.int .i64 (unuseE m s a n)) ∧ St w0 (trk 61 c m (unuseF m s a n) :: F) w' := by
  have h1 := (hs.newArr 3 1 1 [.int .i64 1] rfl (by decide)).swap
  have hc := Lib.hid (turn_any w0 _ F c m s w.heap.size 0 1 1 (fun _ => 1) hm hm2 (by omega) (by omega) h1 a n 2)
  rw [show inF 1 (fun _ => 1) = (fun x => x == 1) from funext (inF_one 1)] at hc
  clear h1 hs
  unfold unuseE unuseF
  go_enter Try.func26, Try.ntmps26
  go_wp2_with fail
  refine hc.out.mono ?_
  rintro e w' ⟨rfl, h⟩
  go_wp2_with fail
  go_ret
  exact ⟨rfl, h⟩
theorem release_any (w0 w : World) (F : List HP) (c m : Nat) (s : Nat → Int) (hm : 0 < m) (hm2 : m ≤ 1024) (hs : St w0 (trk 61 c m s :: F) w) (a n : Int) :
    Calls Try.prog 24 #[.pointer (some ⟨c, 0, none⟩), .int .i64 a, .int .i64 n] w fun e w' => e = .returned (.int .i64 (releaseE m s a n)) ∧ St w0 (trk 61 c m (releaseF m s a n) :: F) w' := by
  have h1 := (hs.newArr 3 1 1 [.int .i64 2] rfl (by decide)).swap
  have hc := Lib.hid (turn_any w0 _ F c m s w.heap.size 0 1 1 (fun _ => 2) hm hm2 (by omega) (by omega) h1 a n 3)
  rw [show inF 1 (fun _ => 2) = (fun x => x == 2) from funext (inF_one 2)] at hc
  clear h1 hs
  unfold releaseE releaseF
  go_enter Try.func24, Try.ntmps24
  go_wp2_with fail
  refine hc.out.mono ?_
  rintro e w' ⟨rfl, h⟩
  go_wp2_with fail
  go_ret
  exact ⟨rfl, h⟩

theorem huge_in (w : World) (c b off cap N : Nat) (s : Nat → Int) (hN : N ≤ 64) (ht : TrAt w c b off cap (16 * N) s) (h : Nat) (hh : h < N) :
    Calls Try.prog 47 #[.pointer (some ⟨c, 0, none⟩), .int .i64 h] w fun e w' => e = .returned (.tuple #[.slice (some ⟨b, off + 16 * h, none⟩) 16 (cap - 16 * h), .int .i64 0]) ∧ w = w' := by
  obtain ⟨c0, hcap, _⟩ := ht
  have b0 : decide ((h : Int) < 0) = false := by simp
  have b1 : decide ((N : Int) ≤ (h : Int)) = false := decide_eq_false (by omega)
  go_enter Try.func47, Try.ntmps47
  go_wp2_with (first | (go_at_call 39; refine (made_true _ _ _ _ _ _ (by omega) c0).mono ?_; rintro e w' ⟨rfl, rfl⟩) | (go_at_call 40; refine (all_any _ _ _ _ _ _ hN c0).mono ?_; rintro e w' ⟨rfl, rfl⟩) | (go_at_call 42; refine (of_any _ _ _ _ _ _ hN c0 hcap _ hh).mono ?_; rintro e w' ⟨rfl, rfl⟩))
  go_ret2
  exact ⟨rfl, rfl⟩
theorem huge_bad (w : World) (c b off cap N : Nat) (s : Nat → Int) (hN : N ≤ 64) (hN0 : 0 < N) (ht : TrAt w c b off cap (16 * N) s) (h : Int) (hh : h < 0 ∨ (N : Int) ≤ h) :
    Calls Try.prog 47 #[.pointer (some ⟨c, 0, none⟩), .int .i64 h] w fun e w' => e = .returned (.tuple #[.slice none 0 0, .int .i64 1]) ∧ w = w' := by
  obtain ⟨c0, hcap, _⟩ := ht
  by_cases h0 : h < 0
  · have b0 : decide (h < 0) = true := decide_eq_true h0
    clear hh
    go_enter Try.func47, Try.ntmps47
    go_wp2_with (first | (go_at_call 39; refine (made_true _ _ _ _ _ _ (by omega) c0).mono ?_; rintro e w' ⟨rfl, rfl⟩))
    go_ret2
    exact ⟨rfl, rfl⟩
  · have b0 : decide (h < 0) = false := decide_eq_false h0
    have b1 : decide ((N : Int) ≤ h) = true := decide_eq_true (by omega)
    clear hh
    go_enter Try.func47, Try.ntmps47
    go_wp2_with (first | (go_at_call 39; refine (made_true _ _ _ _ _ _ (by omega) c0).mono ?_; rintro e w' ⟨rfl, rfl⟩) | (go_at_call 40; refine (all_any _ _ _ _ _ _ hN c0).mono ?_; rintro e w' ⟨rfl, rfl⟩))
    go_ret2
    exact ⟨rfl, rfl⟩
theorem huge_not (w : World) (q : Option Addr) (hq : NotMade w q) (h : Int) :
    Calls Try.prog 47 #[.pointer q, .int .i64 h] w fun e w' => e = .returned (.tuple #[.slice none 0 0, .int .i64 5]) ∧ w = w' := by
  have H := Lib.hid (made_not w q hq)
  clear hq
  go_enter Try.func47, Try.ntmps47
  go_wp2_with fail
  refine H.out.mono ?_
  rintro e w' ⟨rfl, rfl⟩
  go_wp2_with fail
  go_ret2
  exact ⟨rfl, rfl⟩

/-- a huge page that is there -/
def inH (N : Nat) (h : Int) : Prop := 0 ≤ h ∧ h < N
instance (N : Nat) (h : Int) : Decidable (inH N h) := by unfold inH; infer_instance
def addE (N : Nat) (s : Nat → Int) (h : Int) : Int := if inH N h then if s (16 * h.toNat) = 0 then 0 else 5 else 1
def addF (N : Nat) (s : Nat → Int) (h : Int) : Nat → Int := if inH N h ∧ s (16 * h.toNat) = 0 then fillS s (16 * h.toNat) 16 3 else s
def removeE (N : Nat) (s : Nat → Int) (h : Int) : Int := if inH N h then if idleG (fun j => s (16 * h.toNat + j)) = true then 0 else 5 else 1
def removeF (N : Nat) (s : Nat → Int) (h : Int) : Nat → Int := if inH N h ∧ idleG (fun j => s (16 * h.toNat + j)) = true then fillS s (16 * h.toNat) 16 0 else s

theorem add_in (w0 w : World) (F : List HP) (c N : Nat) (s : Nat → Int) (hN : N ≤ 64) (hs : St w0 (trk 61 c (16 * N) s :: F) w) (h : Nat) (hh : h < N) :
    Calls Try.prog 35 #[.pointer (some ⟨c, 0, none⟩), .int .i64 h] w fun e w' => e = .returned (.int .i64 (if s (16 * h) = 0 then 0 else 5)) ∧ St w0 (trk 61 c (16 * N) (if s (16 * h) = 0 then fillS s (16 * h) 16 3 else s) :: F) w' := by
  obtain ⟨b, off, cap, hcap, h3⟩ := trk_open (by omega) hs
  have ht : TrAt w c b off cap (16 * N) s := ⟨h3.cells1, hcap, RowAt.of h3.swap⟩
  have HU := Lib.hid (huge_in w c b off cap N s hN ht h hh)
  have c1 := ht.2.2 (16 * h) (by omega)
  have H3 := Lib.hid h3
  have HF := Lib.hid (fill_any w0 w _ b off cap (16 * N) s h3.swap (16 * h) 16 (cap - 16 * h) (by omega) (by omega) 3)
  clear ht h3 hs
  by_cases h0 : s (16 * h) = 0
  · rw [if_pos h0, if_pos h0]
    have b0 : (s (16 * h) != 0) = false := by simp [h0]
    clear h0
    go_enter Try.func35, Try.ntmps35
    go_wp2_with fail
    refine HU.out.mono ?_
    rintro e w' ⟨rfl, rfl⟩
    go_wp2_with fail
    refine HF.out.mono ?_
    rintro e w' ⟨rfl, h4⟩
    go_wp2_with fail
    go_ret
    exact ⟨rfl, trk_shut h4.swap⟩
  · rw [if_neg h0, if_neg h0]
    have b0 : (s (16 * h) != 0) = true := by simp [h0]
    clear h0
    go_enter Try.func35, Try.ntmps35
    go_wp2_with fail
    refine HU.out.mono ?_
    rintro e w' ⟨rfl, rfl⟩
    go_wp2_with fail
    go_ret
    exact ⟨rfl, trk_shut H3.out⟩
theorem add_any (w0 w : World) (F : List HP) (c N : Nat) (s : Nat → Int) (hN : N ≤ 64) (hN0 : 0 < N) (hs : St w0 (trk 61 c (16 * N) s :: F) w) (h : Int) :
    Calls Try.prog 35 #[.pointer (some ⟨c, 0, none⟩), .int .i64 h] w fun e w' => e = .returned (.int .i64 (addE N s h)) ∧ St w0 (trk 61 c (16 * N) (addF N s h) :: F) w' := by
  unfold addE addF
  by_cases hh : inH N h
  · have hh' := hh
    unfold inH at hh'
    rw [if_pos hh]
    have e1 : h = ((h.toNat : Nat) : Int) := by omega
    have hc := add_in w0 w F c N s hN hs h.toNat (by omega)
    rw [← e1] at hc
    simp only [hh, true_and]
    exact hc
  · rw [if_neg hh, if_neg fun h' => hh h'.1]
    have hh' : h < 0 ∨ (N : Int) ≤ h := by unfold inH at hh; omega
    obtain ⟨b, off, cap, ht⟩ := TrAt.of (by omega) hs
    have HU := Lib.hid (huge_bad w c b off cap N s hN hN0 ht h hh')
    clear hh hh' ht
    go_enter Try.func35, Try.ntmps35
    go_wp2_with fail
    refine HU.out.mono ?_
    rintro e w' ⟨rfl, rfl⟩
    go_wp2_with fail
    go_ret
    exact ⟨rfl, hs⟩
theorem add_not (w : World) (q : Option Addr) (hq : NotMade w q) (h : Int) :
    Calls Try.prog 35 #[.pointer q, .int .i64 h] w fun e w' => e = .returned (.int .i64 5) ∧ w = w' := by
  have HU := Lib.hid (huge_not w q hq h)
  clear hq
  go_enter Try.func35, Try.ntmps35
  go_wp2_with fail
  refine HU.out.mono ?_
  rintro e w' ⟨rfl, rfl⟩
  go_wp2_with fail
  go_ret
  exact ⟨rfl, rfl⟩
theorem remove_in (w0 w : World) (F : List HP) (c N : Nat) (s : Nat → Int) (hN : N ≤ 64) (hs : St w0 (trk 61 c (16 * N) s :: F) w) (h : Nat) (hh : h < N) :
    Calls Try.prog 38 #[.pointer (some ⟨c, 0, none⟩), .int .i64 h] w fun e w' => e = .returned (.int .i64 (if idleG (fun j => s (16 * h + j)) = true then 0 else 5)) ∧ St w0 (trk 61 c (16 * N) (if idleG (fun j => s (16 * h + j)) = true then fillS s (16 * h) 16 0 else s) :: F) w' := by
  obtain ⟨b, off, cap, hcap, h3⟩ := trk_open (by omega) hs
  have ht : TrAt w c b off cap (16 * N) s := ⟨h3.cells1, hcap, RowAt.of h3.swap⟩
  have HU := Lib.hid (huge_in w c b off cap N s hN ht h hh)
  have HI := Lib.hid (idle_any w b (off + 16 * h) (cap - 16 * h) _ (ht.2.2.sub (a := 16 * h) (k := 16) (by omega)))
  have H3 := Lib.hid h3
  have HF := Lib.hid (fill_any w0 w _ b off cap (16 * N) s h3.swap (16 * h) 16 (cap - 16 * h) (by omega) (by omega) 0)
  clear ht h3 hs
  cases h0 : idleG (fun j => s (16 * h + j)) with
  | true =>
    rw [h0] at HI
    rw [if_pos rfl, if_pos rfl]
    clear h0
    go_enter Try.func38, Try.ntmps38
    go_wp2_with fail
    refine HU.out.mono ?_
    rintro e w' ⟨rfl, rfl⟩
    go_wp2_with fail
    refine HI.out.mono ?_
    rintro e w' ⟨rfl, rfl⟩
    go_wp2_with fail
    refine HF.out.mono ?_
    rintro e w' ⟨rfl, h4⟩
    go_wp2_with fail
    go_ret
    exact ⟨rfl, trk_shut h4.swap⟩
  | false =>
    rw [h0] at HI
    rw [if_neg (by simp), if_neg (by simp)]
    clear h0
    go_enter Try.func38, Try.ntmps38
    go_wp2_with fail
    refine HU.out.mono ?_
    rintro e w' ⟨rfl, rfl⟩
    go_wp2_with fail
    refine HI.out.mono ?_
    rintro e w' ⟨rfl, rfl⟩
    go_wp2_with fail
    go_ret
    exact ⟨rfl, trk_shut H3.out⟩
theorem remove_any (w0 w : World) (F : List HP) (c N : Nat) (s : Nat → Int) (hN : N ≤ 64) (hN0 : 0 < N) (hs : St w0 (trk 61 c (16 * N) s :: F) w) (h : Int) :
    Calls Try.prog 38 #[.pointer (some ⟨c, 0, none⟩), .int .i64 h] w fun e w' => e = .returned (.int .i64 (removeE N s h)) ∧ St w0 (trk 61 c (16 * N) (removeF N s h) :: F) w' := by
  unfold removeE removeF
  by_cases hh : inH N h
  · have hh' := hh
    unfold inH at hh'
    rw [if_pos hh]
    have e1 : h = ((h.toNat : Nat) : Int) := by omega
    have hc := remove_in w0 w F c N s hN hs h.toNat (by omega)
    rw [← e1] at hc
    simp only [hh, true_and]
    exact hc
  · rw [if_neg hh, if_neg fun h' => hh h'.1]
    have hh' : h < 0 ∨ (N : Int) ≤ h := by unfold inH at hh; omega
    obtain ⟨b, off, cap, ht⟩ := TrAt.of (by omega) hs
    have HU := Lib.hid (huge_bad w c b off cap N s hN hN0 ht h hh')
    clear hh hh' ht
    go_enter Try.func38, Try.ntmps38
    go_wp2_with fail
    refine HU.out.mono ?_
    rintro e w' ⟨rfl, rfl⟩
    go_wp2_with fail
    go_ret
    exact ⟨rfl, hs⟩
theorem remove_not (w : World) (q : Option Addr) (hq : NotMade w q) (h : Int) :
    Calls Try.prog 38 #[.pointer q, .int .i64 h] w fun e w' => e = .returned (.int .i64 5) ∧ w = w' := by
  have HU := Lib.hid (huge_not w q hq h)
  clear hq
  go_enter Try.func38, Try.ntmps38
  go_wp2_with fail
  refine HU.out.mono ?_
  rintro e w' ⟨rfl, rfl⟩
  go_wp2_with fail
  go_ret
  exact ⟨rfl, rfl⟩
end Go.Proofs.Ytjignbbdgoadjaa

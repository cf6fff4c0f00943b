/-
  What a tracker is in memory; made, all, of, count, fill, kind, idle.
-/
import Derived.Test.YtjignbbdgoadjaaProg
import Derived.Test.YtjignbbdgoadjaaCnt
namespace Go.Proofs.Ytjignbbdgoadjaa
open Go.RowKit

/-- a tracker of type T at block c: m pages, their states -/
def trk (T : TypeId) (c m : Nat) (s : Nat → Int) : HP := HP.ex fun v => HP.blk c #[v] T * HP.arr 3 1 v m (numsF m s)

/-- some cells hold these numbers -/
def RowAt (w : World) (b off n : Nat) (g : Nat → Int) : Prop := ∀ j, j < n → w.cell? ⟨b, off + j, none⟩ = some (.int .i64 (g j))
/-- what can be read of a tracker -/
def TrAt (w : World) (c b off cap m : Nat) (s : Nat → Int) : Prop := w.cell? ⟨c, 0, none⟩ = some (.slice (some ⟨b, off, none⟩) m cap) ∧ m ≤ cap ∧ RowAt w b off m s

section
variable {w0 w : World} {F : List HP} {T : TypeId} {c m : Nat} {s : Nat → Int}
theorem trk_open (hm : 0 < m) (h : St w0 (trk T c m s :: F) w) : ∃ b off cap, m ≤ cap ∧ St w0 (HP.blk c #[.slice (some ⟨b, off, none⟩) m cap] T :: HP.arr 3 1 (.slice (some ⟨b, off, none⟩) m cap) m (numsF m s) :: F) w := by
  obtain ⟨v, h⟩ := St.ex.1 h
  have h := St.two.1 h
  rcases HP.arr_form h.swap with ⟨_, h0⟩ | ⟨b, off, cap, rfl, hc⟩
  · omega
  · exact ⟨b, off, cap, hc, h⟩
theorem trk_shut {v : Value} (h : St w0 (HP.blk c #[v] T :: HP.arr 3 1 v m (numsF m s) :: F) w) : St w0 (trk T c m s :: F) w := St.ex.2 ⟨v, St.two.2 h⟩
theorem trk_ext {s' : Nat → Int} (e : ∀ p, p < m → s p = s' p) : trk T c m s = trk T c m s' := by
  unfold trk
  rw [numsF_ext e]
theorem RowAt.of {b off cap : Nat} (h : St w0 (HP.arr 3 1 (.slice (some ⟨b, off, none⟩) m cap) m (numsF m s) :: F) w) : RowAt w b off m s := fun _ hp => HP.arr_cell h (numsF_get hp)
theorem TrAt.of (hm : 0 < m) (h : St w0 (trk T c m s :: F) w) : ∃ b off cap, TrAt w c b off cap m s := by
  obtain ⟨b, off, cap, hc, h⟩ := trk_open hm h
  exact ⟨b, off, cap, h.cells1, hc, RowAt.of h.swap⟩
theorem RowAt.sub {b off n : Nat} {g : Nat → Int} (h : RowAt w b off n g) {a k : Nat} (hk : a + k ≤ n) : RowAt w b (off + a) k fun j => g (a + j) := fun j hj => by
  rw [Nat.add_assoc]
  exact h (a + j) (by omega)
end

/-- how many pages of a huge page are in a state; its kind -/
def ofS (s : Nat → Int) (h : Nat) (st : Int) : Nat := cnt 16 fun j => s (16 * h + j) == st
def kindG (g : Nat → Int) : Int := if cnt 16 (fun j => g j == 1) = 0 then 0 else if 0 < cnt 16 (fun j => g j == 3) then 1 else 2
def kindS (s : Nat → Int) (h : Nat) : Int := kindG fun j => s (16 * h + j)
def idleG (g : Nat → Int) : Bool := g 0 != 0 && cnt 16 (fun j => g j == 1) == 0

theorem made_true (w : World) (c b off cap m : Nat) (hm : 0 < m) (c0 : w.cell? ⟨c, 0, none⟩ = some (.slice (some ⟨b, off, none⟩) m cap)) :
    Calls Try.prog 39 #[.pointer (some ⟨c, 0, none⟩)] w fun e w' => e = .returned (.bool true) ∧ w = w' := by
  have h0 : decide ((0 : Int) < (m : Int)) = true := decide_eq_true (by omega)
  go_enter Try.func39, Try.ntmps39
  go_wp2
  go_ret
  exact ⟨by simp, rfl⟩
theorem made_zero (w : World) (c : Nat) (c0 : w.cell? ⟨c, 0, none⟩ = some (.slice none 0 0)) :
    Calls Try.prog 39 #[.pointer (some ⟨c, 0, none⟩)] w fun e w' => e = .returned (.bool false) ∧ w = w' := by
  go_enter Try.func39, Try.ntmps39
  go_wp2
  go_ret
  exact ⟨rfl, rfl⟩
theorem made_nil (w : World) : Calls Try.prog 39 #[.pointer none] w fun e w' => e = .returned (.bool false) ∧ w = w' := by
  go_enter Try.func39, Try.ntmps39
  go_wp2
  go_ret
  exact ⟨rfl, rfl⟩
/-- the tracker that nobody made: nil, or zero -/
def NotMade (w : World) (p : Option Addr) : Prop := p = none ∨ ∃ c, p = some ⟨c, 0, none⟩ ∧ w.cell? ⟨c, 0, none⟩ = some (.slice none 0 0)
theorem made_not (w : World) (p : Option Addr) (h : NotMade w p) : Calls Try.prog 39 #[.pointer p] w fun e w' => e = .returned (.bool false) ∧ w = w' := by
  rcases h with rfl | ⟨c, rfl, hc⟩
  · exact made_nil w
  · exact made_zero w c hc
theorem all_any (w : World) (c b off cap N : Nat) (hN : N ≤ 64) (c0 : w.cell? ⟨c, 0, none⟩ = some (.slice (some ⟨b, off, none⟩) (16 * N) cap)) :
    Calls Try.prog 40 #[.pointer (some ⟨c, 0, none⟩)] w fun e w' => e = .returned (.int .i64 N) ∧ w = w' := by
  go_enter Try.func40, Try.ntmps40
  go_wp2
  go_ret
  exact ⟨by simp, rfl⟩
theorem of_any (w : World) (c b off cap N : Nat) (hN : N ≤ 64) (c0 : w.cell? ⟨c, 0, none⟩ = some (.slice (some ⟨b, off, none⟩) (16 * N) cap)) (hcap : 16 * N ≤ cap) (h : Nat) (hh : h < N) :
    Calls Try.prog 42 #[.pointer (some ⟨c, 0, none⟩), .int .i64 h] w fun e w' => e = .returned (.slice (some ⟨b, off + 16 * h, none⟩) 16 (cap - 16 * h)) ∧ w = w' := by
  have h1 : (0 : Int) ≤ (h : Int) * 16 := by omega
  have h2 : (h : Int) * 16 ≤ ((h : Int) + 1) * 16 := by omega
  have h3 : ((h : Int) + 1) * 16 ≤ ((16 * N : Nat) : Int) := by omega
  have h4 : ((h : Int) + 1) * 16 ≤ (cap : Int) := by omega
  go_enter Try.func42, Try.ntmps42
  go_wp2
  go_ret
  refine ⟨?_, rfl⟩
  show Ending.returned (.slice (some ⟨b, off + h * 16, none⟩) ((h + 1) * 16 - h * 16) (cap - h * 16)) = _
  rw [show (h + 1) * 16 - h * 16 = 16 by omega, Nat.mul_comm h 16]
theorem count_any (w : World) (b off n cap : Nat) (g : Nat → Int) (hr : RowAt w b off n g) (hn : n ≤ 4096) (st : Int) :
    Calls Try.prog 41 #[.slice (some ⟨b, off, none⟩) n cap, .int .i64 st] w fun e w' => e = .returned (.int .i64 (cnt n fun j => g j == st)) ∧ w = w' := by
  have HR := Lib.hid hr
  clear hr
  go_enter Try.func41, Try.ntmps41
  go_wp2_with fail
  go_loop [5, 10] (fun k i => ∃ j : Nat, j ≤ n ∧ i = .int .i64 j ∧ k = .int .i64 (cnt j fun j => g j == st)) (fun _ i => n - (intOf i).toNat)
  case atStart => exact ⟨0, Nat.zero_le _, rfl, rfl⟩
  case round =>
    obtain ⟨j, hj, rfl, rfl⟩ := hrel
    have l1 := cnt_le j fun j => g j == st
    by_cases hlt : j < n
    · have c1 := HR.out j hlt
      cases hg : g j == st with
      | true =>
        have E := Lib.hid (cnt_true (n := j) (P := fun j => g j == st) hg)
        go_wp2_with fail
        go_round
        case rel => exact ⟨j + 1, hlt, by go_num, by rw [E.out]; go_num⟩
        case measure => simp [intOf]; omega
      | false =>
        have E := Lib.hid (cnt_false (n := j) (P := fun j => g j == st) hg)
        go_wp2_with fail
        go_round
        case rel => exact ⟨j + 1, hlt, by go_num, by rw [E.out]⟩
        case measure => simp [intOf]; omega
    · have e : j = n := by omega
      subst e
      go_wp2_with fail
      go_ret
      exact ⟨rfl, rfl⟩
theorem kind_any (w : World) (b off cap : Nat) (g : Nat → Int) (hr : RowAt w b off 16 g) :
    Calls Try.prog 45 #[.slice (some ⟨b, off, none⟩) 16 cap] w fun e w' => e = .returned (.int .i64 (kindG g)) ∧ w = w' := by
  have H1 := Lib.hid (count_any w b off 16 cap g hr (by omega) 1)
  have H3 := Lib.hid (count_any w b off 16 cap g hr (by omega) 3)
  clear hr
  unfold kindG
  generalize (cnt 16 fun j => g j == 1) = x at *
  generalize (cnt 16 fun j => g j == 3) = y at *
  by_cases h1 : x = 0
  · subst h1
    rw [if_pos rfl]
    go_enter Try.func45, Try.ntmps45
    go_wp2_with fail
    refine H1.out.mono ?_
    rintro e w' ⟨rfl, rfl⟩
    go_wp2_with fail
    go_ret
    exact ⟨rfl, rfl⟩
  have b1 : ((x : Int) == 0) = false := by simp; omega
  rw [if_neg h1]
  by_cases h3 : 0 < y
  · rw [if_pos h3]
    have b3 : decide (0 < (y : Int)) = true := decide_eq_true (by omega)
    go_enter Try.func45, Try.ntmps45
    go_wp2_with fail
    refine H1.out.mono ?_
    rintro e w' ⟨rfl, rfl⟩
    go_wp2_with fail
    refine H3.out.mono ?_
    rintro e w' ⟨rfl, rfl⟩
    go_wp2_with fail
    go_ret
    exact ⟨rfl, rfl⟩
  · rw [if_neg h3]
    have b3 : decide (0 < (y : Int)) = false := decide_eq_false (by omega)
    go_enter Try.func45, Try.ntmps45
    go_wp2_with fail
    refine H1.out.mono ?_
    rintro e w' ⟨rfl, rfl⟩
    go_wp2_with fail
    refine H3.out.mono ?_
    rintro e w' ⟨rfl, rfl⟩
    go_wp2_with fail
    go_ret
    exact ⟨rfl, rfl⟩
theorem idle_any (w : World) (b off cap : Nat) (g : Nat → Int) (hr : RowAt w b off 16 g) :
    Calls Try.prog 64 #[.slice (some ⟨b, off, none⟩) 16 cap] w fun e w' => e = .returned (.bool (idleG g)) ∧ w = w' := by
  have H1 := Lib.hid (count_any w b off 16 cap g hr (by omega) 1)
  have c0 := hr 0 (by omega)
  rw [Nat.add_zero] at c0
  clear hr
  unfold idleG
  generalize (cnt 16 fun j => g j == 1) = x at *
  cases h0 : g 0 != 0 with
  | false =>
    go_enter Try.func64, Try.ntmps64
    go_wp2_with fail
    go_ret
    exact ⟨rfl, rfl⟩
  | true =>
    go_enter Try.func64, Try.ntmps64
    go_wp2_with fail
    refine H1.out.mono ?_
    rintro e w' ⟨rfl, rfl⟩
    go_wp2_with fail
    go_ret
    exact ⟨by simp; rw [Bool.eq_iff_iff]; simp; try omega, rfl⟩

/-- these pages get this state -/
def fillS (s : Nat → Int) (a n : Nat) (v : Int) (p : Nat) : Int := if a ≤ p ∧ p < a + n then v else s p
theorem fillS_zero (s : Nat → Int) (a : Nat) (v : Int) : fillS s a 0 v = s := by
  funext p
  unfold fillS
  rw [if_neg (by omega)]
theorem fillS_succ (s : Nat → Int) (a n : Nat) (v : Int) : upd (fillS s a n v) (a + n) v = fillS s a (n + 1) v := by
  funext p
  unfold fillS upd
  by_cases h : p = a + n
  · rw [if_pos h, if_pos (by omega)]
  · rw [if_neg h]
    dsimp only
    by_cases h2 : a ≤ p ∧ p < a + n
    · rw [if_pos h2, if_pos (by omega)]
    · rw [if_neg h2, if_neg (by omega)]
theorem fill_any (w0 w : World) (F : List HP) (b off cap m : Nat) (s : Nat → Int) (hs : St w0 (HP.arr 3 1 (.slice (some ⟨b, off, none⟩) m cap) m (numsF m s) :: F) w) (a n cap' : Nat) (h : a + n ≤ m) (hm : m ≤ 1024) (v : Int) :
    Calls Try.prog 63 #[.slice (some ⟨b, off + a, none⟩) n cap', .int .i64 v] w fun e w' => e = .returned (.tuple #[]) ∧ St w0 (HP.arr 3 1 (.slice (some ⟨b, off, none⟩) m cap) m (numsF m (fillS s a n v)) :: F) w' := by
  go_enter Try.func63, Try.ntmps63
  go_wp2_with fail
  go_loopw [7] (fun i wr => ∃ j : Nat, j ≤ n ∧ i = .int .i64 j ∧ St w0 (HP.arr 3 1 (.slice (some ⟨b, off, none⟩) m cap) m (numsF m (fillS s a j v)) :: F) wr) (fun i _ => n - (intOf i).toNat)
  case atStart => exact ⟨0, Nat.zero_le _, rfl, by rw [fillS_zero]; exact hs⟩
  case round =>
    obtain ⟨j, hj, rfl, hs1⟩ := hrel
    by_cases hlt : j < n
    · obtain ⟨hset, hfz⟩ := HP.arr_set (a + j) (.int .i64 v) (by omega) hs1
      have c1 := HP.arr_cell hs1 (numsF_get (show a + j < m by omega))
      rw [numsF_set, fillS_succ] at hset
      rw [← Nat.add_assoc] at hset hfz c1
      clear hs1
      go_wp2_with fail
      go_roundw
      case rel => exact ⟨j + 1, hlt, by go_num, hset⟩
      case measure => simp [intOf]; omega
    · have e : j = n := by omega
      subst e
      go_wp2_with fail
      go_end0
      exact ⟨rfl, hs1⟩
end Go.Proofs.Ytjignbbdgoadjaa

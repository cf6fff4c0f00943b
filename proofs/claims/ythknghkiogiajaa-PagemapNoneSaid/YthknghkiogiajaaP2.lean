/-
  Package pagemap: good, Get, there.
-/
import Derived.Test.YthknghkiogiajaaProg
import Derived.Test.YthknghkiogiajaaP1
namespace Go.Proofs.Ythknghkiogiajaa
open Go.RowKit

/-- the map that nobody made: nil, or zero -/
def NotMade (w : World) (p : Option Addr) : Prop := p = none ∨ ∃ c, p = some ⟨c, 0, none⟩ ∧ w.cell? ⟨c, 0, none⟩ = some (.bool false)

theorem good_true (w : World) (c : Nat) (c0 : w.cell? ⟨c, 0, none⟩ = some (.bool true)) :
    Calls Try.prog 33 #[.pointer (some ⟨c, 0, none⟩)] w fun e w' => e = .returned (.bool true) ∧ w = w' := by
  go_enter Try.func33, Try.ntmps33
  go_wp2
  go_ret
  exact ⟨rfl, rfl⟩
theorem good_zero (w : World) (c : Nat) (c0 : w.cell? ⟨c, 0, none⟩ = some (.bool false)) :
    Calls Try.prog 33 #[.pointer (some ⟨c, 0, none⟩)] w fun e w' => e = .returned (.bool false) ∧ w = w' := by
  go_enter Try.func33, Try.ntmps33
  go_wp2
  go_ret
  exact ⟨rfl, rfl⟩
theorem good_nil (w : World) : Calls Try.prog 33 #[.pointer none] w fun e w' => e = .returned (.bool false) ∧ w = w' := by
  go_enter Try.func33, Try.ntmps33
  go_wp2
  go_ret
  exact ⟨rfl, rfl⟩
theorem good_not (w : World) (p : Option Addr) (h : NotMade w p) : Calls Try.prog 33 #[.pointer p] w fun e w' => e = .returned (.bool false) ∧ w = w' := by
  rcases h with rfl | ⟨c, rfl, hc⟩
  · exact good_nil w
  · exact good_zero w c hc

/-- the number that a map gives to a page -/
def mget (f : Nat → Int) (p : Int) : Int := if 0 ≤ p ∧ p < 1024 then f p.toNat else 0

theorem get_in (w0 w : World) (F : List HP) (c : Nat) (f : Nat → Int) (hs : St w0 (mapP c f :: F) w) (p : Nat) (hp : p < 1024) :
    Calls Try.prog 16 #[.pointer (some ⟨c, 0, none⟩), .int .i64 p] w fun e w' => e = .returned (.int .i64 (f p)) ∧ w = w' := by
  have hm : w.cell? ⟨c, 0, none⟩ = some (.bool true) := by
    obtain ⟨q, h⟩ := mapP_open hs
    exact mapRow_made h
  have hc := get_cells hs (i := p / 8 / 8) (j := p / 8 % 8) (k := p % 8) (by omega) (by omega) (by omega)
  have e : 64 * (p / 8 / 8) + (8 * (p / 8 % 8) + p % 8) = p := by omega
  rw [e] at hc
  have h0 : decide ((p : Int) < 0) = false := by simp
  have h1 : decide ((1024 : Int) ≤ (p : Int)) = false := by simp; omega
  clear e
  rcases hc with ⟨c1, hz⟩ | ⟨b, c1, c2, hz⟩ | ⟨b, lb, c1, c2, c3⟩
  · rw [hz]
    clear hz
    go_enter Try.func16, Try.ntmps16
    go_wp2_with (go_at_call 33; refine (good_true _ _ hm).mono ?_; rintro e w' ⟨rfl, rfl⟩)
    go_ret
    exact ⟨rfl, rfl⟩
  · rw [hz]
    clear hz
    go_enter Try.func16, Try.ntmps16
    go_wp2_with (go_at_call 33; refine (good_true _ _ hm).mono ?_; rintro e w' ⟨rfl, rfl⟩)
    go_ret
    exact ⟨rfl, rfl⟩
  · go_enter Try.func16, Try.ntmps16
    go_wp2_with (go_at_call 33; refine (good_true _ _ hm).mono ?_; rintro e w' ⟨rfl, rfl⟩)
    go_ret
    exact ⟨rfl, rfl⟩
theorem get_low (w : World) (c : Nat) (c0 : w.cell? ⟨c, 0, none⟩ = some (.bool true)) (p : Int) (hp : p < 0) :
    Calls Try.prog 16 #[.pointer (some ⟨c, 0, none⟩), .int .i64 p] w fun e w' => e = .returned (.int .i64 0) ∧ w = w' := by
  have h0 : decide (p < 0) = true := by simp; omega
  go_enter Try.func16, Try.ntmps16
  go_wp2_with (go_at_call 33; refine (good_true _ _ c0).mono ?_; rintro e w' ⟨rfl, rfl⟩)
  go_ret
  exact ⟨rfl, rfl⟩
theorem get_high (w : World) (c : Nat) (c0 : w.cell? ⟨c, 0, none⟩ = some (.bool true)) (p : Int) (hp : 1024 ≤ p) :
    Calls Try.prog 16 #[.pointer (some ⟨c, 0, none⟩), .int .i64 p] w fun e w' => e = .returned (.int .i64 0) ∧ w = w' := by
  have h0 : decide (p < 0) = false := by simp; omega
  have h1 : decide ((1024 : Int) ≤ p) = true := by simp; omega
  go_enter Try.func16, Try.ntmps16
  go_wp2_with (go_at_call 33; refine (good_true _ _ c0).mono ?_; rintro e w' ⟨rfl, rfl⟩)
  go_ret
  exact ⟨rfl, rfl⟩
theorem get_not (w : World) (q : Option Addr) (h : NotMade w q) (p : Int) :
    Calls Try.prog 16 #[.pointer q, .int .i64 p] w fun e w' => e = .returned (.int .i64 0) ∧ w = w' := by
  have H := Lib.hid (good_not w q h)
  clear h
  go_enter Try.func16, Try.ntmps16
  go_wp2_with fail
  refine H.out.mono ?_
  rintro e w' ⟨rfl, rfl⟩
  go_wp2_with fail
  go_ret
  exact ⟨rfl, rfl⟩
theorem get_any (w0 w : World) (F : List HP) (c : Nat) (f : Nat → Int) (hs : St w0 (mapP c f :: F) w) (p : Int) :
    Calls Try.prog 16 #[.pointer (some ⟨c, 0, none⟩), .int .i64 p] w fun e w' => e = .returned (.int .i64 (mget f p)) ∧ w = w' := by
  have hm : w.cell? ⟨c, 0, none⟩ = some (.bool true) := by
    obtain ⟨q, h⟩ := mapP_open hs
    exact mapRow_made h
  unfold mget
  by_cases h0 : p < 0
  · rw [if_neg (by omega)]
    exact get_low w c hm p h0
  by_cases h1 : 1024 ≤ p
  · rw [if_neg (by omega)]
    exact get_high w c hm p h1
  rw [if_pos (by omega)]
  have e : p = ((p.toNat : Nat) : Int) := by omega
  have h := get_in w0 w F c f hs p.toNat (by omega)
  rw [← e] at h
  exact h

/-- there: a node that is -/
theorem there_mid_is (w : World) (b o : Nat) (a : Addr) (c1 : w.cell? ⟨b, o, none⟩ = some (.pointer (some a))) :
    Calls Try.prog 42 #[.pointer (some ⟨b, o, none⟩)] w fun e w' => e = .returned (.pointer (some a)) ∧ w = w' := by
  go_enter Try.func42, Try.ntmps42
  go_wp2
  go_ret
  exact ⟨rfl, rfl⟩
theorem there_leaf_is (w : World) (b o : Nat) (a : Addr) (c1 : w.cell? ⟨b, o, none⟩ = some (.pointer (some a))) :
    Calls Try.prog 43 #[.pointer (some ⟨b, o, none⟩)] w fun e w' => e = .returned (.pointer (some a)) ∧ w = w' := by
  go_enter Try.func43, Try.ntmps43
  go_wp2
  go_ret
  exact ⟨rfl, rfl⟩
end Go.Proofs.Ythknghkiogiajaa

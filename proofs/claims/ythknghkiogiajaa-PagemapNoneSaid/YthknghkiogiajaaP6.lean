/-
  Package pagemap: Next, Same, Nodes.
-/
import Derived.Test.YthknghkiogiajaaP5
namespace Go.Proofs.Ythknghkiogiajaa
open Go.RowKit

/-- all numbers are none or above none -/
def fOk (f : Nat → Int) : Prop := ∀ p, p < 1024 → 0 ≤ f p ∧ f p ≤ 1073741824
theorem fOk_zero : fOk fun _ => 0 := fun _ _ => ⟨Int.le_refl 0, (by decide : (0 : Int) ≤ 1073741824)⟩
theorem fOk_Mset {f : Nat → Int} (h : fOk f) (s n no : Int) : fOk (Mset f s n no) := by
  unfold Mset
  split
  · rename_i hs
    intro p hp
    unfold fill
    split
    · exact ⟨by have := hs.1.1; omega, hs.1.2⟩
    · exact h p hp
  · exact h
theorem fOk_mset {f : Nat → Int} (h : fOk f) (s n : Int) : fOk (mset f s n 0) := by
  unfold mset
  split
  · intro p hp
    unfold fill
    split
    · exact ⟨by omega, by omega⟩
    · exact h p hp
  · exact h

/-- what Next returns -/
def isNext (f : Nat → Int) (page : Int) (v : Value) : Prop :=
  (∃ q : Nat, q < 1024 ∧ page ≤ q ∧ f q ≠ 0 ∧ (∀ r : Nat, r < q → page ≤ r → f r = 0) ∧ v = .tuple #[.int .i64 q, .int .i64 (f q), .int .i64 0]) ∨
  ((∀ r : Nat, r < 1024 → page ≤ r → f r = 0) ∧ v = .tuple #[.int .i64 0, .int .i64 0, .int .i64 4])
theorem isNext_one {f : Nat → Int} {page : Int} {v u : Value} (hv : isNext f page v) (hu : isNext f page u) : v = u := by
  rcases hv with ⟨q, h1, h2, h3, h4, rfl⟩ | ⟨h1, rfl⟩ <;> rcases hu with ⟨q', g1, g2, g3, g4, rfl⟩ | ⟨g1, rfl⟩
  · have : q = q' := by
      rcases Nat.lt_trichotomy q q' with h | h | h
      · exact absurd (g4 q h h2) h3
      · exact h
      · exact absurd (h4 q' h g2) g3
    subst this; rfl
  · exact absurd (g1 q h1 h2) h3
  · exact absurd (h1 q' g1 g2) g3
  · rfl

set_option maxRecDepth 10000 in
set_option maxHeartbeats 1000000 in
theorem next_nat (w0 w : World) (F : List HP) (c : Nat) (f : Nat → Int) (hf : fOk f) (hs : St w0 (mapP c f :: F) w) (a : Nat) :
    Calls Try.prog 18 #[.pointer (some ⟨c, 0, none⟩), .int .i64 a] w fun e w' => ∃ v, e = .returned v ∧ isNext f a v ∧ w = w' := by
  have c0 := mapP_made hs
  have HF := Lib.hid hf
  clear hf
  have ha2 : ∀ r : Nat, (a : Int) ≤ r ↔ a ≤ r := fun r => by omega
  have HA := Lib.hid ha2
  clear ha2
  go_enter Try.func18, Try.ntmps18
  go_wp2_with (go_at_call 33; refine (good_true _ _ c0).mono ?_; rintro e w' ⟨rfl, rfl⟩)
  go_loop [7] (fun i => ∃ k : Nat, i = .int .i64 k ∧ a ≤ k ∧ Hid (∀ r : Nat, r < k → a ≤ r → r < 1024 → f r = 0)) (fun i => 1024 - (intOf i).toNat)
  case atStart => exact ⟨a, rfl, Nat.le_refl _, Lib.hid fun r h1 h2 => by omega⟩
  case round =>
    obtain ⟨k, rfl, hak, hz⟩ := hrel
    by_cases hlt : k < 1024
    · have hk := HF.out k hlt
      by_cases hfk : f k = 0
      · have b1 : decide (0 < f k) = false := by simp; omega
        have HK := Lib.hid hfk
        clear hfk hk
        go_wp2_with fail
        refine (get_in w0 w F c f hs k hlt).mono ?_
        rintro e w' ⟨rfl, rfl⟩
        go_wp2_with fail
        go_round
        case rel =>
          refine ⟨k + 1, by go_num, by omega, Lib.hid fun r h1 h2 h3 => ?_⟩
          by_cases e : r = k
          · rw [e]; exact HK.out
          · exact hz.out r (by omega) h2 h3
        case measure => simp [intOf]; omega
      · have b1 : decide (0 < f k) = true := by simp; omega
        have HK := Lib.hid hfk
        clear hfk hk
        go_wp2_with fail
        refine (get_in w0 w F c f hs k hlt).mono ?_
        rintro e w' ⟨rfl, rfl⟩
        go_wp2_with fail
        go_ret3
        exact ⟨_, rfl, .inl ⟨k, hlt, (HA.out k).2 hak, HK.out, fun r h1 h2 => hz.out r h1 ((HA.out r).1 h2) (by omega), rfl⟩, rfl⟩
    · go_wp2_with fail
      go_ret3
      exact ⟨_, rfl, .inr ⟨fun r h1 h2 => hz.out r (by omega) ((HA.out r).1 h2) h1, rfl⟩, rfl⟩
set_option maxRecDepth 10000 in
set_option maxHeartbeats 1000000 in
theorem next_neg (w0 w : World) (F : List HP) (c : Nat) (f : Nat → Int) (hf : fOk f) (hs : St w0 (mapP c f :: F) w) (page : Int) (hp : page < 0) :
    Calls Try.prog 18 #[.pointer (some ⟨c, 0, none⟩), .int .i64 page] w fun e w' => ∃ v, e = .returned v ∧ isNext f page v ∧ w = w' := by
  have c0 := mapP_made hs
  have HF := Lib.hid hf
  clear hf
  have ha2 : ∀ r : Nat, page ≤ r ↔ 0 ≤ r := fun r => by omega
  have HA := Lib.hid ha2
  clear ha2
  go_enter Try.func18, Try.ntmps18
  go_wp2_with (go_at_call 33; refine (good_true _ _ c0).mono ?_; rintro e w' ⟨rfl, rfl⟩)
  go_loop [7] (fun i => ∃ k : Nat, i = .int .i64 k ∧ 0 ≤ k ∧ Hid (∀ r : Nat, r < k → 0 ≤ r → r < 1024 → f r = 0)) (fun i => 1024 - (intOf i).toNat)
  case atStart => exact ⟨0, rfl, Nat.le_refl _, Lib.hid fun r h1 h2 => by omega⟩
  case round =>
    obtain ⟨k, rfl, hak, hz⟩ := hrel
    by_cases hlt : k < 1024
    · have hk := HF.out k hlt
      by_cases hfk : f k = 0
      · have b1 : decide (0 < f k) = false := by simp; omega
        have HK := Lib.hid hfk
        clear hfk hk
        go_wp2_with fail
        refine (get_in w0 w F c f hs k hlt).mono ?_
        rintro e w' ⟨rfl, rfl⟩
        go_wp2_with fail
        go_round
        case rel =>
          refine ⟨k + 1, by go_num, by omega, Lib.hid fun r h1 h2 h3 => ?_⟩
          by_cases e : r = k
          · rw [e]; exact HK.out
          · exact hz.out r (by omega) h2 h3
        case measure => simp [intOf]; omega
      · have b1 : decide (0 < f k) = true := by simp; omega
        have HK := Lib.hid hfk
        clear hfk hk
        go_wp2_with fail
        refine (get_in w0 w F c f hs k hlt).mono ?_
        rintro e w' ⟨rfl, rfl⟩
        go_wp2_with fail
        go_ret3
        exact ⟨_, rfl, .inl ⟨k, hlt, (HA.out k).2 hak, HK.out, fun r h1 h2 => hz.out r h1 ((HA.out r).1 h2) (by omega), rfl⟩, rfl⟩
    · go_wp2_with fail
      go_ret3
      exact ⟨_, rfl, .inr ⟨fun r h1 h2 => hz.out r (by omega) ((HA.out r).1 h2) h1, rfl⟩, rfl⟩
theorem next_any (w0 w : World) (F : List HP) (c : Nat) (f : Nat → Int) (hf : fOk f) (hs : St w0 (mapP c f :: F) w) (page : Int) :
    Calls Try.prog 18 #[.pointer (some ⟨c, 0, none⟩), .int .i64 page] w fun e w' => ∃ v, e = .returned v ∧ isNext f page v ∧ w = w' := by
  by_cases hp : page < 0
  · exact next_neg w0 w F c f hf hs page hp
  · obtain ⟨a, rfl⟩ : ∃ a : Nat, page = a := ⟨page.toNat, by omega⟩
    exact next_nat w0 w F c f hf hs a

/-- the numbers of two maps are the same -/
def sameF (f g : Nat → Int) : Bool := (List.range 1024).all fun p => f p == g p
theorem sameF_iff {f g : Nat → Int} : sameF f g = true ↔ ∀ p, p < 1024 → f p = g p := by
  unfold sameF
  rw [List.all_eq_true]
  constructor
  · intro h j hj; simpa using h j (List.mem_range.2 hj)
  · intro h j hj; simpa using h j (List.mem_range.1 hj)
/-- two maps that can be read -/
def MapAt (w : World) (q : Option Addr) (f : Nat → Int) : Prop := ∀ p : Nat, p < 1024 → Calls Try.prog 16 #[.pointer q, .int .i64 p] w fun e w' => e = .returned (.int .i64 (f p)) ∧ w = w'
theorem MapAt.of {w0 w : World} {F : List HP} {c : Nat} {f : Nat → Int} (hs : St w0 (mapP c f :: F) w) : MapAt w (some ⟨c, 0, none⟩) f := fun p hp => get_in w0 w F c f hs p hp
theorem MapAt.not {w : World} {q : Option Addr} (h : NotMade w q) : MapAt w q (fun _ => 0) := fun p _ => get_not w q h p
set_option maxRecDepth 10000 in
set_option maxHeartbeats 1000000 in
theorem Same_any (w : World) (a b : Option Addr) (f g : Nat → Int) (ha : MapAt w a f) (hb : MapAt w b g) :
    Calls Try.prog 22 #[.pointer a, .pointer b] w fun e w' => e = .returned (.bool (sameF f g)) ∧ w = w' := by
  have HA := Lib.hid ha
  have HB := Lib.hid hb
  clear ha hb
  go_enter Try.func22, Try.ntmps22
  go_wp2_with fail
  go_loop [6] (fun i => ∃ k : Nat, k ≤ 1024 ∧ i = .int .i64 k ∧ Hid (∀ r : Nat, r < k → f r = g r)) (fun i => 1024 - (intOf i).toNat)
  case atStart => exact ⟨0, by omega, rfl, Lib.hid fun r h => by omega⟩
  case round =>
    obtain ⟨k, hk, rfl, hz⟩ := hrel
    by_cases hlt : k < 1024
    · by_cases hfk : f k = g k
      · have b1 : (f k != g k) = false := by simp [hfk]
        have HK := Lib.hid hfk
        clear hfk
        go_wp2_with fail
        refine (HA.out k hlt).mono ?_
        rintro e w' ⟨rfl, rfl⟩
        go_wp2_with fail
        refine (HB.out k hlt).mono ?_
        rintro e w' ⟨rfl, rfl⟩
        go_wp2_with fail
        go_round
        case rel =>
          refine ⟨k + 1, hlt, by go_num, Lib.hid fun r h1 => ?_⟩
          by_cases e : r = k
          · rw [e]; exact HK.out
          · exact hz.out r (by omega)
        case measure => simp [intOf]; omega
      · have b1 : (f k != g k) = true := by simp [hfk]
        have hne : sameF f g = false := by
          cases h : sameF f g
          · rfl
          · exact absurd (sameF_iff.1 h k hlt) hfk
        have HN := Lib.hid hne
        clear hfk hne
        go_wp2_with fail
        refine (HA.out k hlt).mono ?_
        rintro e w' ⟨rfl, rfl⟩
        go_wp2_with fail
        refine (HB.out k hlt).mono ?_
        rintro e w' ⟨rfl, rfl⟩
        go_wp2_with fail
        go_ret
        exact ⟨by rw [HN.out]; rfl, rfl⟩
    · go_wp2_with fail
      go_ret
      exact ⟨by rw [sameF_iff.2 fun p hp => hz.out p (by omega)]; rfl, rfl⟩
end Go.Proofs.Ythknghkiogiajaa

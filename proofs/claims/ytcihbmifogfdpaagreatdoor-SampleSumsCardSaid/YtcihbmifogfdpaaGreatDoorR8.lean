/-
  SampleBack: its walk.
-/
import Derived.Test.YtcihbmifogfdpaaGreatDoorRA
import Derived.Test.YtcihbmifogfdpaaGreatDoorR6
import Derived.Test.YtcihbmifogfdpaaGreatDoorR7
namespace Go.Proofs.YtcihbmifogfdpaaGreatDoor
open Go.RowKit

theorem long_any (w : World) (a : Option Addr) (cap n : Nat) :
    Calls Tryz.prog 15 #[.slice a n cap] w fun e w' => e = .returned (.bool (decide (250 < n))) ∧ Below w.heap.size w w' := by
  go_enter Tryz.func15, Tryz.ntmps15
  go_wp2
  go_ret
  refine ⟨?_, Below.refl _ _⟩
  have e : decide ((250 : Int) < (n : Int)) = decide (250 < n) := decide_eq_decide.2 (by omega)
  simp only [e]
  rfl

set_option maxRecDepth 10000 in
theorem back_walk (a : Option Addr) (cap : Nat) (l : List Rw) (w : World) (hw : (∀ r ∈ l, r.wf) ∧ RowsAt w (.slice a l.length cap) l) (hl : l.length ≤ 9223372036854775807) (hg : Globs w) :
    Calls Tryz.prog 5 #[.slice a l.length cap] w fun e w' => e = .returned (.bool true) ∧ Below w.heap.size w w' := by
  have cA : Hid (∀ w', Below w.heap.size w w' → Calls Tryz.prog 16 #[] w' fun e w'' => e = .returned (.bool true) ∧ Below w'.heap.size w' w'') := Lib.hid fun w' hb => awake_any (hg.grow hb)
  have cL := Lib.hid (long_any w a cap l.length)
  by_cases h2 : 250 < l.length
  · rw [decide_eq_true h2] at cL
    clear hw hg
    go_enter Tryz.func5, Tryz.ntmps5
    go_wp2_with (first
      | (go_at_call 15; refine cL.out.mono ?_; rintro e w2 ⟨rfl, hb2⟩)
      | (go_at_call 16; refine (cA.out _ hb2).mono ?_; rintro e w3 ⟨rfl, hb3⟩))
    go_ret
    exact ⟨rfl, hb2.trans (hb3.mono hb2.size)⟩
  · rw [decide_eq_false h2] at cL
    have cI : Hid (∀ w', Below w.heap.size w w' → Calls Tryz.prog 25 #[.slice a l.length cap] w' fun e w'' => e = .returned (.bool (isProfB l)) ∧ Below w'.heap.size w' w'') := Lib.hid fun w' hb => is_any w' a cap l hw.1 hl (Reads.grow hw.2 hb)
    by_cases h : isProfB l = true
    · have cT : Hid (∀ w', Below w.heap.size w w' → Calls Tryz.prog 17 #[.slice a l.length cap] w' fun e w'' => e = .returned (.tuple #[.string ⟨(textL l).toArray⟩, .int .i64 0]) ∧ Below w'.heap.size w' w'') := Lib.hid fun w' hb => (ptext_any w' a cap l hw.1 hl (hg.pw.grow hb) (Reads.grow hw.2 hb)).mono fun e w'' ⟨h3, h4⟩ => ⟨by rw [h3, show ptS l = _ from if_pos h, show ptE l = 0 from if_pos h], h4⟩
      have hsz : (⟨(textL l).toArray⟩ : ByteArray).size ≤ 4294967280 := by
        have := textL_len hw.1 (short_of h).2
        simp only [ByteArray.size, List.size_toArray]
        omega
      have cP : Hid (∀ w', Below w.heap.size w w' → Calls Tryz.prog 19 #[.string ⟨(textL l).toArray⟩] w' fun e w'' => ∃ a2 cap2, e = .returned (.tuple #[.slice a2 l.length cap2, .int .i64 0]) ∧ RowsAt w'' (.slice a2 l.length cap2) l ∧ Below w'.heap.size w' w'') := Lib.hid fun w' hb => (parse_any w' _ hsz (hg.er.grow hb) (hg.pw.grow hb)).mono fun e w'' hp => by
        unfold parsePost at hp
        rw [parse_text h] at hp
        obtain ⟨v, h1, h2, _, h3⟩ := hp
        obtain ⟨a2, cap2, rfl⟩ := (HP.arr_reads h3).form
        exact ⟨a2, cap2, h1, HP.arr_reads h3, h3.below⟩
      have cR : Hid (∀ a2 cap2 w', Below w.heap.size w w' → RowsAt w' (.slice a2 l.length cap2) l → Calls Tryz.prog 21 #[.slice a2 l.length cap2, .slice a l.length cap] w' fun e w'' => e = .returned (.bool true) ∧ Below w'.heap.size w' w'') := Lib.hid fun a2 cap2 w' hb h1 => (rrows_any w' a2 a cap2 cap l l (by omega) h1 (Reads.grow hw.2 hb)).mono fun e w'' ⟨h3, h4⟩ => ⟨by rw [h3, decide_eq_true rfl], h4⟩
      rw [h] at cI
      clear hw hg h hsz
      go_enter Tryz.func5, Tryz.ntmps5
      go_wp2_with (first
        | (go_at_call 15; refine cL.out.mono ?_; rintro e w2 ⟨rfl, hb2⟩)
        | (go_at_call 25; refine (cI.out _ hb2).mono ?_; rintro e w3 ⟨rfl, hb3'⟩; have hb3 := hb2.trans (hb3'.mono hb2.size); clear hb3')
        | (go_at_call 17; refine (cT.out _ hb3).mono ?_; rintro e w4 ⟨rfl, hb4'⟩; have hb4 := hb3.trans (hb4'.mono hb3.size); clear hb4')
        | (go_at_call 19; refine (cP.out _ hb4).mono ?_; rintro e w5 ⟨a5, p5, rfl, hr5', hb5'⟩; have hr5 := Lib.hid hr5'; have hb5 := hb4.trans (hb5'.mono hb4.size); clear hb5' hr5')
        | (go_at_call 21; refine (cR.out _ _ _ hb5 hr5.out).mono ?_; rintro e w6 ⟨rfl, hb6'⟩; have hb6 := hb5.trans (hb6'.mono hb5.size); clear hb6')
        | (go_at_call 16; refine (cA.out _ hb6).mono ?_; rintro e w7 ⟨rfl, hb7⟩))
      go_ret
      exact ⟨rfl, hb6.trans (hb7.mono hb6.size)⟩
    · rw [Bool.not_eq_true] at h
      rw [h] at cI
      clear hw hg h
      go_enter Tryz.func5, Tryz.ntmps5
      go_wp2_with (first
        | (go_at_call 15; refine cL.out.mono ?_; rintro e w2 ⟨rfl, hb2⟩)
        | (go_at_call 25; refine (cI.out _ hb2).mono ?_; rintro e w3 ⟨rfl, hb3'⟩; have hb3 := hb2.trans (hb3'.mono hb2.size); clear hb3')
        | (go_at_call 16; refine (cA.out _ hb3).mono ?_; rintro e w7 ⟨rfl, hb7⟩))
      go_ret
      exact ⟨rfl, hb3.trans (hb7.mono hb3.size)⟩
end Go.Proofs.YtcihbmifogfdpaaGreatDoor

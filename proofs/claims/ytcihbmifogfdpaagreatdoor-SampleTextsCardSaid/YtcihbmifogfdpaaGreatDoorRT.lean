/-
  SampleTexts: its walk.
-/
import Derived.Test.YtcihbmifogfdpaaGreatDoorR8
import Derived.Test.YtcihbmifogfdpaaGreatDoorR9
import Derived.Test.YtcihbmifogfdpaaGreatDoorRP
namespace Go.Proofs.YtcihbmifogfdpaaGreatDoor
open Go.RowKit

/-- what a Parse gives, in one piece -/
def gotL (s : ByteArray) : List Rw := (parseP s).getD []
def gotE (s : ByteArray) : Int := if (parseP s).isSome then 0 else 2
theorem got_p {w w' : World} {s : ByteArray} {e : Ending} (h : parsePost w s e w') : ∃ a cap, e = .returned (.tuple #[.slice a (gotL s).length cap, .int .i64 (gotE s)]) ∧ RowsAt w' (.slice a (gotL s).length cap) (gotL s) ∧ Below w.heap.size w w' := by
  unfold parsePost at h
  unfold gotL gotE
  cases hp : parseP s with
  | none =>
    rw [hp] at h
    exact ⟨none, 0, h.1, Reads.nil w' 5, h.2⟩
  | some l =>
    rw [hp] at h
    obtain ⟨v, h1, h2, _, h3⟩ := h
    obtain ⟨a, cap, rfl⟩ := (HP.arr_reads h3).form
    exact ⟨a, cap, h1, HP.arr_reads h3, h3.below⟩
theorem got_r {w w' : World} {s : ByteArray} {e : Ending} (h : rPost w s e w') : ∃ a cap, e = .returned (.tuple #[.slice a (gotL s).length cap, .int .i64 (gotE s)]) ∧ RowsAt w' (.slice a (gotL s).length cap) (gotL s) ∧ Below w.heap.size w w' := by
  unfold rPost at h
  rw [← parse_same] at h
  unfold gotL gotE
  cases hp : parseP s with
  | none =>
    rw [hp] at h
    exact ⟨none, 0, h.1, Reads.nil w' 5, h.2⟩
  | some l =>
    rw [hp] at h
    obtain ⟨v, h1, h2, h3⟩ := h
    obtain ⟨a, cap, rfl⟩ := (HP.arr_reads h3).form
    exact ⟨a, cap, h1, HP.arr_reads h3, h3.below⟩
theorem gotL_len (s : ByteArray) : (gotL s).length ≤ 200 := by
  unfold gotL
  cases hp : parseP s with
  | none => simp
  | some l => exact (isProfB_len (parse_inv hp).1).1

set_option maxRecDepth 10000 in
theorem texts_walk (a : Option Addr) (cap : Nat) (l : List Rw) (s : ByteArray) (w : World) (hw : (∀ r ∈ l, r.wf) ∧ RowsAt w (.slice a l.length cap) l) (hl : l.length ≤ 9223372036854775807) (hs : s.size ≤ 9223372036854775807) (hg : Globs w) :
    Calls Tryz.prog 3 #[.slice a l.length cap, .string s] w fun e w' => e = .returned (.bool true) ∧ Below w.heap.size w w' := by
  have cA : Hid (∀ w', Below w.heap.size w w' → Calls Tryz.prog 16 #[] w' fun e w'' => e = .returned (.bool true) ∧ Below w'.heap.size w' w'') := Lib.hid fun w' hb => awake_any (hg.grow hb)
  have cL := Lib.hid (long_any w a cap l.length)
  by_cases h2 : 250 < l.length
  · rw [decide_eq_true h2] at cL
    clear hw hg
    go_enter Tryz.func3, Tryz.ntmps3
    go_wp2_with (first
      | (go_at_call 15; refine cL.out.mono ?_; rintro e w2 ⟨rfl, hb2⟩)
      | (go_at_call 16; refine (cA.out _ hb2).mono ?_; rintro e w3 ⟨rfl, hb3⟩))
    go_ret
    exact ⟨rfl, hb2.trans (hb3.mono hb2.size)⟩
  · rw [decide_eq_false h2] at cL
    by_cases h4 : 4000 < s.size
    · have i1 : (4000 : Int) < (s.size : Int) := by omega
      clear hw hg
      go_enter Tryz.func3, Tryz.ntmps3
      go_wp2_with (first
        | (go_at_call 15; refine cL.out.mono ?_; rintro e w2 ⟨rfl, hb2⟩)
        | (go_at_call 16; refine (cA.out _ hb2).mono ?_; rintro e w3 ⟨rfl, hb3⟩))
      go_ret
      exact ⟨rfl, hb2.trans (hb3.mono hb2.size)⟩
    · have i1 : ¬ (4000 : Int) < (s.size : Int) := by omega
      have cT : Hid (∀ w', Below w.heap.size w w' → Calls Tryz.prog 17 #[.slice a l.length cap] w' fun e w'' => e = .returned (.tuple #[.string (ptS l), .int .i64 (ptE l)]) ∧ Below w'.heap.size w' w'') := Lib.hid fun w' hb => ptext_any w' a cap l hw.1 hl (hg.pw.grow hb) (Reads.grow hw.2 hb)
      have cU : Hid (∀ w', Below w.heap.size w w' → Calls Tryz.prog 18 #[.slice a l.length cap] w' fun e w'' => e = .returned (.tuple #[.string (ptS l), .int .i64 (ptE l)]) ∧ Below w'.heap.size w' w'') := Lib.hid fun w' hb => rtext_any w' a cap l hw.1 hl (Reads.grow hw.2 hb)
      have cP : Hid (∀ w', Below w.heap.size w w' → Calls Tryz.prog 19 #[.string s] w' fun e w'' => ∃ a2 cap2, e = .returned (.tuple #[.slice a2 (gotL s).length cap2, .int .i64 (gotE s)]) ∧ RowsAt w'' (.slice a2 (gotL s).length cap2) (gotL s) ∧ Below w'.heap.size w' w'') := Lib.hid fun w' hb => (parse_any w' s (by omega) (hg.er.grow hb) (hg.pw.grow hb)).mono fun e w'' hp => got_p hp
      have cQ : Hid (∀ w', Calls Tryz.prog 20 #[.string s] w' fun e w'' => ∃ a2 cap2, e = .returned (.tuple #[.slice a2 (gotL s).length cap2, .int .i64 (gotE s)]) ∧ RowsAt w'' (.slice a2 (gotL s).length cap2) (gotL s) ∧ Below w'.heap.size w' w'') := Lib.hid fun w' => (rparse_any w' s (by omega)).mono fun e w'' hp => got_r hp
      have cR : Hid (∀ a2 cap2 a3 cap3 w', RowsAt w' (.slice a2 (gotL s).length cap2) (gotL s) → RowsAt w' (.slice a3 (gotL s).length cap3) (gotL s) → Calls Tryz.prog 21 #[.slice a2 (gotL s).length cap2, .slice a3 (gotL s).length cap3] w' fun e w'' => e = .returned (.bool true) ∧ Below w'.heap.size w' w'') := Lib.hid fun a2 cap2 a3 cap3 w' h1 h3 => (rrows_any w' a2 a3 cap2 cap3 _ _ (by have := gotL_len s; omega) h1 h3).mono fun e w'' ⟨h5, h6⟩ => ⟨by rw [h5, decide_eq_true rfl], h6⟩
      clear hw hg
      generalize gotL s = g at *
      generalize gotE s = ge at *
      generalize ptS l = ps at *
      generalize ptE l = pe at *
      have eq2 : (pe == pe) = true := beq_iff_eq.2 rfl
      have eq3 : (ge == ge) = true := beq_iff_eq.2 rfl
      go_enter Tryz.func3, Tryz.ntmps3
      go_wp2_with (first
        | (go_at_call 15; refine cL.out.mono ?_; rintro e w2 ⟨rfl, hb2⟩)
        | (go_at_call 17; refine (cT.out _ hb2).mono ?_; rintro e w4 ⟨rfl, hb4'⟩; have hb4 := hb2.trans (hb4'.mono hb2.size); clear hb4')
        | (go_at_call 18; refine (cU.out _ hb4).mono ?_; rintro e w5 ⟨rfl, hb5'⟩; have hb5 := hb4.trans (hb5'.mono hb4.size); clear hb5')
        | (go_at_call 19; refine (cP.out _ hb5).mono ?_; rintro e w6 ⟨a6, p6, rfl, hr6', hb6'⟩; have hr6 := Lib.hid hr6'; have hb6 := hb5.trans (hb6'.mono hb5.size); clear hb6' hr6')
        | (go_at_call 20; refine (cQ.out _).mono ?_; rintro e w7 ⟨a7, p7, rfl, hr7', hb7'⟩; have hr7 := Lib.hid hr7'; have hr67 := Lib.hid (Reads.grow hr6.out hb7'); have hb7 := hb6.trans (hb7'.mono hb6.size); clear hb7' hr7')
        | (go_at_call 21; refine (cR.out _ _ _ _ _ hr67.out hr7.out).mono ?_; rintro e w8 ⟨rfl, hb8'⟩; have hb8 := hb7.trans (hb8'.mono hb7.size); clear hb8')
        | (go_at_call 16; refine (cA.out _ hb8).mono ?_; rintro e w9 ⟨rfl, hb9⟩))
      go_ret
      exact ⟨rfl, hb8.trans (hb9.mono hb8.size)⟩
end Go.Proofs.YtcihbmifogfdpaaGreatDoor

/-
  Text of the program; SampleOnce: its walk.
-/
import Derived.Test.YtcihbmifogfdpaaGreatDoorQ2
import Derived.Test.YtcihbmifogfdpaaGreatDoorTC
import Derived.Test.YtcihbmifogfdpaaGreatDoorOB
namespace Go.Proofs.YtcihbmifogfdpaaGreatDoor
open Go.RowKit

def ptS (l : List Rw) : ByteArray := if isProfB l = true then ⟨(textL l).toArray⟩ else ⟨#[]⟩
def ptE (l : List Rw) : Int := if isProfB l = true then 0 else 2
theorem short_of {l : List Rw} (h : isProfB l = true) : Short l := by
  obtain ⟨h1, h2⟩ := isProfB_len h
  exact ⟨by omega, fun r hr => Nat.le_trans (h2 r hr) (by decide)⟩
set_option maxRecDepth 10000 in
theorem ptext_any (w : World) (a : Option Addr) (cap : Nat) (l : List Rw) (hw : ∀ r ∈ l, r.wf) (hl : l.length ≤ 9223372036854775807) (ht : Pow10 w) (hr : RowsAt w (.slice a l.length cap) l) :
    Calls Tryz.prog 17 #[.slice a l.length cap] w fun e w' => e = .returned (.tuple #[.string (ptS l), .int .i64 (ptE l)]) ∧ Below w.heap.size w w' := by
  have cP := Lib.hid (isProfile_any w a cap l hw hl hr)
  by_cases h : isProfB l = true
  · have cX : Hid (∀ w', Below w.heap.size w w' → Calls Tryz.prog 48 #[.slice a l.length cap] w' fun e w'' => e = .returned (.string ⟨(textL l).toArray⟩) ∧ Below w'.heap.size w' w'') := Lib.hid fun w' hb => text_any w' a cap l hw (short_of h) (ht.grow hb) (Reads.grow hr hb)
    have E1 := Lib.hid (show ptS l = ⟨(textL l).toArray⟩ from if_pos h)
    have E2 := Lib.hid (show ptE l = 0 from if_pos h)
    rw [h] at cP
    clear h hr ht hw
    go_enter Tryz.func17, Tryz.ntmps17
    go_wp2_with (first
      | (go_at_call 47; refine cP.out.mono ?_; rintro e w2 ⟨rfl, hb2⟩)
      | (go_at_call 48; refine (cX.out _ hb2).mono ?_; rintro e w3 ⟨rfl, hb3⟩))
    go_ret2
    exact ⟨by rw [E1.out, E2.out]; rfl, hb2.trans (hb3.mono hb2.size)⟩
  · have E1 := Lib.hid (show ptS l = ⟨#[]⟩ from if_neg h)
    have E2 := Lib.hid (show ptE l = 2 from if_neg h)
    rw [Bool.not_eq_true] at h
    rw [h] at cP
    clear h hr ht hw
    go_enter Tryz.func17, Tryz.ntmps17
    go_wp2_with (first
      | (go_at_call 47; refine cP.out.mono ?_; rintro e w2 ⟨rfl, hb2⟩))
    go_ret2
    exact ⟨by rw [E1.out, E2.out]; rfl, hb2⟩

set_option maxRecDepth 10000 in
theorem once_walk (s : ByteArray) (w : World) (hs : s.size ≤ 9223372036854775807) (hg : Globs w) :
    Calls Tryz.prog 6 #[.string s] w fun e w' => e = .returned (.bool true) ∧ Below w.heap.size w w' := by
  have cA : Hid (∀ w', Below w.heap.size w w' → Calls Tryz.prog 16 #[] w' fun e w'' => e = .returned (.bool true) ∧ Below w'.heap.size w' w'') := Lib.hid fun w' hb => awake_any (hg.grow hb)
  by_cases h4 : 4000 < s.size
  · have i1 : (4000 : Int) < (s.size : Int) := by omega
    go_enter Tryz.func6, Tryz.ntmps6
    go_wp2_with (go_at_call 16; refine (cA.out _ (Below.refl _ _)).mono ?_; rintro e w2 ⟨rfl, hb2⟩)
    go_ret
    exact ⟨rfl, hb2⟩
  · have i1 : ¬ (4000 : Int) < (s.size : Int) := by omega
    have cP := Lib.hid (parse_any w s (by omega) hg.er hg.pw)
    have HG := Lib.hid hg
    clear hg
    cases hp : parseP s with
    | none =>
      have cP2 : Hid (Calls Tryz.prog 19 #[.string s] w fun e w' => e = .returned (.tuple #[.slice none 0 0, .int .i64 2]) ∧ Below w.heap.size w w') := Lib.hid (cP.out.mono fun e w' h => by unfold parsePost at h; rw [hp] at h; exact h)
      clear cP hp
      go_enter Tryz.func6, Tryz.ntmps6
      go_wp2_with (first
        | (go_at_call 19; refine cP2.out.mono ?_; rintro e w2 ⟨rfl, hb2⟩)
        | (go_at_call 16; refine (cA.out _ hb2).mono ?_; rintro e w3 ⟨rfl, hb3⟩))
      go_ret
      exact ⟨rfl, hb2.trans (hb3.mono hb2.size)⟩
    | some l =>
      have hpi := parse_inv hp
      have cP2 : Hid (Calls Tryz.prog 19 #[.string s] w fun e w' => ∃ a cap, e = .returned (.tuple #[.slice a l.length cap, .int .i64 0]) ∧ (∀ r ∈ l, r.wf) ∧ RowsAt w' (.slice a l.length cap) l ∧ Below w.heap.size w w') := Lib.hid (cP.out.mono fun e w' h => by
        unfold parsePost at h
        rw [hp] at h
        obtain ⟨v, h1, h2, _, h3⟩ := h
        obtain ⟨a, cap, rfl⟩ := (HP.arr_reads h3).form
        exact ⟨a, cap, h1, h2, HP.arr_reads h3, h3.below⟩)
      have hlen : l.length ≤ 200 := (isProfB_len hpi.1).1
      have cT : Hid (∀ a cap w', Below w.heap.size w w' → (∀ r ∈ l, r.wf) → RowsAt w' (.slice a l.length cap) l → Calls Tryz.prog 17 #[.slice a l.length cap] w' fun e w'' => e = .returned (.tuple #[.string s, .int .i64 0]) ∧ Below w'.heap.size w' w'') := Lib.hid fun a cap w' hb h1 h2 => (ptext_any w' a cap l h1 (by omega) (HG.out.pw.grow hb) h2).mono fun e w'' ⟨h3, h4⟩ => ⟨by rw [h3, show ptS l = s by unfold ptS; rw [if_pos hpi.1, hpi.2], show ptE l = 0 from if_pos hpi.1], h4⟩
      clear cP hp hpi hlen
      go_enter Tryz.func6, Tryz.ntmps6
      go_wp2_with (first
        | (go_at_call 19; refine cP2.out.mono ?_; rintro e w2 ⟨a2, p2, rfl, hw2, hr2, hb2⟩; have HW2 := Lib.hid hw2; have HR2 := Lib.hid hr2; clear hw2 hr2)
        | (go_at_call 17; refine (cT.out _ _ _ hb2 HW2.out HR2.out).mono ?_; rintro e w3 ⟨rfl, hb3⟩)
        | (go_at_call 16; refine (cA.out _ (hb2.trans (hb3.mono hb2.size))).mono ?_; rintro e w4 ⟨rfl, hb4⟩))
      go_ret
      exact ⟨rfl, (hb2.trans (hb3.mono hb2.size)).trans (hb4.mono (Nat.le_trans hb2.size hb3.size))⟩
end Go.Proofs.YtcihbmifogfdpaaGreatDoor

/-
  A new sampler on the small heap; Profile, Total; a round of SampleFull.
-/
import Derived.Test.YtcodjodhacjfeaaGreatDoorS7
namespace Go.Proofs.YtcodjodhacjfeaaGreatDoor
open Go.RowKit Cl

namespace Cl
theorem real_run : (callA Tryz.prog ovA 2000 60 20 [.pointer (some ⟨16, 0, none⟩)]).kont Bool 128 (ofL mem0) 0 0 (fun a _ h _ _ => some (leaves (mem0.map fun x => (x.1, x.1)) mem0 (.bool true) a h)) = some true := by decide +kernel
section
variable {wr w : World} {A : List HP}
set_option maxRecDepth 100000 in
theorem real_st {p : Pl} (hg : Globs wr) (hs : St wr (memP wr mem0 p :: A) w) : Calls Tryz.prog 20 #[.pointer (some ⟨p.blk, p.base, none⟩)] w fun e w' => e = .returned (.bool true) ∧ St wr (memP wr mem0 p :: A) w' := by
  obtain ⟨x, hx, e⟩ := run_of_kont real_run
  simp only [Option.some.injEq] at e
  unfold leaves at e
  split at e
  · rename_i s1 s2 s3
    refine (rep_call follows noGo' (ovA_okF hg) hs (args := [.pointer (some ⟨16, 0, none⟩)]) (args' := [.pointer (some ⟨p.blk, p.base, none⟩)]) (fun ρ hl => .cons (ptr_G (R16_le.1 hl)) .nil) (Tryz.call20 _ _) hx).mono ?_
    rintro e' w' ⟨v', R', rfl, h2, h3, h4⟩
    refine ⟨?_, rep_turn h4 s2 (fun x hx => Nat.eq_of_beq_eq_true (List.all_eq_true.1 s3 x hx)) fun ρ hl => R16_le.2 ?_⟩
    · congr 1
      exact sameV_eq (ρ := R') rfl s1 (turnP (mem0.map fun x => (x.1, x.1)) R') (fun i j hij => by
        unfold turnM at hij
        unfold turnP
        split at hij
        · rw [Nat.eq_of_beq_eq_true hij]
        · cases hij) h3
    · exact hl 16 p (h2 16 p (by simp [R16]))
  · cases e
end
theorem m16 : ∃ c e, look mem0 16 = some (.cells c e false) := ⟨_, _, rfl⟩
end Cl
/-- the heap's memory after so many rounds, and amid a round -/
noncomputable def hpF (wr : World) (p : Pl) (i : Nat) : HP := memP wr (if i = 0 then mem0 else mem2 i) p
noncomputable def midF (wr : World) (p : Pl) (i : Nat) : HP := memP wr (if i = 0 then mem1 else mem3 i) p
section
variable {wr w : World} {A : List HP}
theorem hpF_malloc {p : Pl} (i : Nat) (hg : Globs wr) (hs : St wr (hpF wr p i :: A) w) : Calls Tryz.prog 23 #[.pointer (some ⟨p.blk, p.base, none⟩), .int .i64 0, .int .i64 8, .int .i64 8] w fun e w' => e = .returned (.tuple #[.int .i64 4096, .int .i64 0]) ∧ St wr (midF wr p i :: A) w' := by
  unfold hpF midF at *
  by_cases h : i = 0
  · rw [if_pos h] at hs ⊢; exact malloc0_st hg hs
  · rw [if_neg h] at hs ⊢; exact malloc_st i hg hs
theorem hpF_free {p : Pl} (i : Nat) (hg : Globs wr) (hs : St wr (midF wr p i :: A) w) : Calls Tryz.prog 25 #[.pointer (some ⟨p.blk, p.base, none⟩), .int .i64 0, .int .i64 4096] w fun e w' => e = .returned (.int .i64 0) ∧ St wr (hpF wr p (i + 1) :: A) w' := by
  unfold hpF midF at *
  rw [if_neg (Nat.succ_ne_zero i)]
  by_cases h : i = 0
  · rw [if_pos h] at hs; rw [h]; exact free0_st hg hs
  · rw [if_neg h] at hs; exact free_st i hg hs

set_option maxRecDepth 10000 in
set_option maxHeartbeats 2000000 in
theorem snew_st {p : Pl} (hg : Globs wr) (hb : p.base = 0) (hs : St wr (hpF wr p 0 :: A) w) :
    Calls Tryz.prog 6 #[.pointer (some ⟨p.blk, 0, none⟩), .int .i64 8] w fun e w' => ∃ b mk mr : Nat, e = .returned (.tuple #[.pointer (some ⟨b, 0, none⟩), .int .i64 0]) ∧ St wr (smpL b mk mr (.pointer (some ⟨p.blk, 0, none⟩)) 8 0 [] [] (hpF wr p 0 :: A)) w' := by
  have cR := Lib.hid (real_st hg hs)
  rw [hb] at cR
  have hmk : ∀ (t : TypeId) (W : World), (Instr.makeMap t none).run Tryz.prog W = .ok (.map (some W.heap.size)) (W.alloc (.map #[] 0)) := fun t W => by simp [Instr.makeMap]
  clear hs
  go_enter Tryz.func6, Tryz.ntmps6
  go_wp2_with (go_at_call 20; go_loud (refine cR.out.mono ?_; rintro e w1 ⟨rfl, h1⟩; have H1 := Lib.hid (((mapP_new (E := strE) (mapP_new (E := intE) h1)).allocRow #[.pointer (some ⟨p.blk, 0, none⟩), .int .i64 8, .int .i64 0, .map (some w1.heap.size), .map (some (w1.alloc (.map #[] 0)).heap.size)] 43)); clear h1))
  go_ret2
  refine ⟨_, w1.heap.size, w1.heap.size + 1, rfl, ?_⟩
  have H2 := H1.out.pick 3 [0, 2, 1]
  simpa [smpL, hpF, kvk, kvs] using H2
theorem stotal_st {b mk mr hp : Nat} {every total : Int} {K : List Smp} {R : List Rw} (hs : St wr (smpL b mk mr (.pointer (some ⟨hp, 0, none⟩)) every total K R A) w) :
    Calls Tryz.prog 11 #[.pointer (some ⟨b, 0, none⟩)] w fun e w' => e = .returned (.int .i64 total) ∧ w' = w := by
  have cM := Lib.hid (smade_yes w b hp (hs.cell rfl))
  have c2 := hs.cell (i := 2) rfl
  go_enter Tryz.func11, Tryz.ntmps11
  go_wp2_with (go_at_call 21; refine cM.out.mono ?_; rintro e w1 ⟨rfl, rfl⟩)
  go_ret
  exact ⟨rfl, rfl⟩
theorem sprofile_st {b mk mr hp : Nat} {every total : Int} {K : List Smp} {R : List Rw} (hl : R.length ≤ 1000) (hz : ∀ r ∈ R, r.site.size ≤ 1000) (hn : (R.map Rw.site).Nodup) (hs : St wr (smpL b mk mr (.pointer (some ⟨hp, 0, none⟩)) every total K R A) w) :
    Calls Tryz.prog 10 #[.pointer (some ⟨b, 0, none⟩)] w fun e w' => ∃ v OUT, e = .returned v ∧ Rows0 w' v OUT ∧ Srt OUT ∧ OUT.Perm R ∧ Below w.heap.size w w' := by
  have cM := Lib.hid (smade_yes w b hp (hs.cell rfl))
  have c4 := hs.cell (i := 4) rfl
  have cS := Lib.hid (sorted_any wr w _ mr R hl hz hn ((hs.front 2)))
  clear hs hn hz
  go_enter Tryz.func10, Tryz.ntmps10
  go_wp2_with (first
    | (go_at_call 21; refine cM.out.mono ?_; rintro e w1 ⟨rfl, rfl⟩)
    | (go_at_call 26; refine cS.out.mono ?_; rintro e w1 ⟨v, OUT, rfl, h1, h2, h3, h4⟩; have H1 := Lib.hid h1; have H2 := Lib.hid h2; have H3 := Lib.hid h3; have H4 := Lib.hid h4; clear h1 h2 h3 h4))
  go_ret
  exact ⟨_, OUT, rfl, H1.out, H2.out, H3.out, H4.out⟩
end
end Go.Proofs.YtcodjodhacjfeaaGreatDoor

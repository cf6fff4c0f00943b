/-
  The statement SampleSums holds, as a tied card: whatever the input, the law returns true, and the input reads as it did, where the packages' listed variables hold what the program's text lays in them. No other condition.
-/
import Derived.Test.YtcihbmifogfdpaaGreatDoorRows
import Derived.Test.YtcihbmifogfdpaaGreatDoorTie
import Derived.Test.YtcihbmifogfdpaaGreatDoorCards
import Derived.WalkKit
import Derived.ProofKit
import Derived.OpenShut
import Derived.ShutString
import Derived.ChangeOld
import Derived.Below
import Derived.Lay
import Derived.SevenTiedAt
import Derived.MakeChecks
import Derived.ChangeMaps5
import Derived.Test.YtcihbmifogfdpaaGreatDoorJoinMk
import Derived.Test.YtcihbmifogfdpaaGreatDoorFacts
import Derived.Test.YtcihbmifogfdpaaGreatDoorRM
import Derived.Test.YtcihbmifogfdpaaGreatDoorRowOpen
import Derived.Test.YtcihbmifogfdpaaGreatDoorGlOpen
namespace Go.Proofs.YtcihbmifogfdpaaGreatDoor.sampleSumsDone
open Go.ChangeShapes Go.WideShapes Go.ChangeAt Go.RowKit
open Go.ChangeMaps (open_string)
open facts (own laidOut)

set_option maxRecDepth 100000 in
theorem lifted (os : Os) (started : os.Started) (H : Type) (enc : TypeId × Value → H) :
    ReturnsInHanded {} Tryz.checked os 10 .any (fun w args => (Rows.sampleSumsSpec.pre enc Tryz.prog Tryz.f10 [] false w args ∧ laidMetH Tryz.prog Rows.sampleSumsRow.laid w) ∧ sizedMet enc Tryz.prog Tryz.f10 (OpenSpec.ofChange Rows.sampleSumsSpec) false w args)
      (Rows.sampleSumsSpec.post enc Tryz.prog Tryz.f10 false true false false) := by
  refine returnsInHanded_of_change_and (C := Tryz.checked) (X := fun w _ => laidMetH Tryz.prog Rows.sampleSumsRow.laid w) (fun _ _ _ hh h => h.of_heap hh) own started (by kernel_rfl) Tryz.func10
    (ChangeSpec.witness_shaped (enc := enc) (C := Tryz.checked) (os := os) (X := fun w _ => laidMetH Tryz.prog Rows.sampleSumsRow.laid w) false (World.laidAll Tryz.prog os Rows.sampleSumsRow.laid) #[.slice none 0 0, .slice none 0 0] 8 (World.laidAll_os _ _ _)
      (World.shaped_of_ZipB (by kernel_rfl) (by kernel_rfl)) (by kernel_rfl) (by kernel_rfl) (by kernel_rfl)
      (by rw [MakeChecks.laidMetH_plain _ _ _ (by kernel_rfl)]; exact laidMet_laidAll _ (by kernel_rfl) (by kernel_rfl))) ?_
  intro W base args ds gs before hval0 hW _ _ hL _
  have hval : ∀ (j : Nat) t v, Tryz.f10.params[j]? = some t → args[j]? = some v → Value.okWide Tryz.prog W .any base t v := hval0
  have hW' := hW
  obtain ⟨p, q, hA0, hV, rfl, hfz, hnd⟩ := hW
  have hA : DataW.TrodAll enc Tryz.prog W 0 (fun _ => true) true Tryz.f10.params.toList args.toList ds p := hA0
  rw [Tryz.params10] at hA hval
  obtain ⟨v0, vs0, d0, ds0, p0, q0, hargs, rfl, rfl, h0, r0⟩ := trodAll_cons hA
  obtain ⟨v1, vs1, d1, ds1, p1, q1, rfl, rfl, rfl, h1, r1⟩ := trodAll_cons r0
  obtain ⟨rfl, rfl, rfl⟩ := trodAll_nil r1
  obtain rfl : args = #[v0, v1] := by cases args; simp_all
  obtain ⟨rfl, rfl⟩ := trodVars_none hV
  have k0 := h0
  have lt0 : ∀ x ∈ p0, x.block < W.heap.size := by obtain ⟨m, hm⟩ := k0; exact DataW.trod_lt m _ _ _ hm
  have k1 := h1
  have lt1 : ∀ x ∈ p1, x.block < W.heap.size := by obtain ⟨m, hm⟩ := k1; exact DataW.trod_lt m _ _ _ hm
  obtain ⟨a0, c0, l0, hv0, hl0, hm0⟩ := rows_open h0 (okWide_slice Tryz.underlying22 (hval 0 22 v0 rfl rfl))
  subst hv0
  have hb0 : l0.length ≤ 9223372036854775807 := by unfold maxLen at hm0; omega
  obtain ⟨a1, c1, l1, hv1, hl1, hm1⟩ := rows_open h1 (okWide_slice Tryz.underlying22 (hval 1 22 v1 rfl rfl))
  subst hv1
  have hb1 : l1.length ≤ 9223372036854775807 := by unfold maxLen at hm1; omega
  clear hA0 hval0
  rw [MakeChecks.laidMetH_plain _ _ _ (by kernel_rfl)] at hL
  have hG : Globs W := globs_of (Lib.laidMet.reads hL (by simp [Rows.sampleSumsRow])) (Lib.laidMet.reads hL (by simp [Rows.sampleSumsRow])) (Lib.laidMet.reads hL (by simp [Rows.sampleSumsRow])) (Lib.laidMet.reads hL (by simp [Rows.sampleSumsRow])) (Lib.laidMet.reads hL (by simp [Rows.sampleSumsRow])) (Lib.laidMet.reads hL (by simp [Rows.sampleSumsRow]))
  refine (sums_walk a0 c0 l0 a1 c1 l1 W hl0 hb0 hl1 hb1 hG).mono fun e W' ⟨he, bel⟩ => ?_
  subst he
  exact ⟨_, rfl, _, _, _, [], _, [], hW', trodAll_mk1 (shut_bool Tryz.underlying4 _), (trodAll_cons_mk (Below.trod laidOut (by kernel_rfl) (of_decide_eq_true (by kernel_rfl)) k0 bel lt0) (trodAll_cons_mk (Below.trod laidOut (by kernel_rfl) (of_decide_eq_true (by kernel_rfl)) k1 bel lt1) trodAll_mk0)), rfl, bel.frame _, fun h => by cases h⟩

theorem c9 : (Rows.sampleSumsRow.inPlace == Tryz.prog.inPlace 10) = true := by kernel_rfl
theorem c10 : (Rows.sampleSumsRow.unfollowed == Tryz.prog.unfollowed 10) = true := by kernel_rfl
theorem c11 : (Rows.sampleSumsRow.recurses == Tryz.prog.recurses 10) = true := by kernel_rfl
theorem c12 : (Rows.sampleSumsRow.named == Tryz.prog.varsNamed 10) = true := by kernel_rfl
theorem joined : joinedFacts Tryz.pinned.checked.prog 10 Tryz.f10 Rows.sampleSumsSpec Rows.sampleSumsRow = true :=
  JoinMk.mk (by as_aux_lemma => kernel_rfl) laidOut facts.rowed (by as_aux_lemma => kernel_rfl) (by as_aux_lemma => kernel_rfl) rfl (by as_aux_lemma => kernel_rfl) rfl (by as_aux_lemma => kernel_rfl)
    c9 c10 c11 c12 (by as_aux_lemma => kernel_rfl) (by as_aux_lemma => kernel_rfl) (by as_aux_lemma => kernel_rfl) (by as_aux_lemma => kernel_rfl) (by as_aux_lemma => kernel_rfl) (by as_aux_lemma => kernel_rfl) (by as_aux_lemma => kernel_rfl) (by as_aux_lemma => kernel_rfl) (by as_aux_lemma => kernel_rfl)
    (by rw [show Tryz.pinned.checked.prog.plainKeys = _ from facts.plainKeys]; rfl) rfl facts.heard facts.mayEnter (by rw [show Tryz.pinned.checked.prog.liftsFinal = _ from facts.lifts]; rfl) (by rw [show Tryz.pinned.checked.prog.make = _ from facts.make]; rfl)
    (by as_aux_lemma => kernel_rfl) (by as_aux_lemma => kernel_rfl) (by as_aux_lemma => kernel_rfl) (by as_aux_lemma => kernel_rfl)
theorem named : Tryz.prog.funcNamed "freehold/freeholdlaw14.SampleSums" = some 10 := by kernel_rfl
theorem goes : false = Rows.sampleSumsRow.goesBy Tryz.pinned.checked.prog := by kernel_rfl
theorem over : Rows.sampleSumsRow.holds Tryz.pinned (OpenSpec.ofChange Rows.sampleSumsSpec) :=
  OpenClaim.holds_of_wide 10 Tryz.f10 rfl rfl rfl rfl rfl rfl rfl ⟨rfl, rfl, rfl, rfl, rfl⟩ rfl rfl rfl rfl rfl named Tryz.func10 joined
    (of_decide_eq_true (by kernel_rfl)) (by unfold Func.isWrapper; first | (rw [if_pos (by decide +kernel)]; kernel_rfl) | (rw [if_neg (by decide +kernel)]; exact ⟨rfl, rfl⟩))
    (fun os started H enc _ => lifted os started H enc)
end Go.Proofs.YtcihbmifogfdpaaGreatDoor.sampleSumsDone
namespace Go.Proofs.YtcihbmifogfdpaaGreatDoor
theorem sampleSums_holds : Rows.SampleSumsCardSaid :=
  Claim7.holds_tied_plain_at .later [] [.data, .data, .data, .data, .data, .data, .sentinel, .sentinel, .pinned] true (true, "3d96cfb6102b2faac6e5fe2ee42261854e4cc9fc0ca1f315ad7aa8a03fa5a3e1") true sampleSumsDone.over (fun _ h => by cases h) (by kernel_rfl) (fun _ h => by cases h) sampleSums_row_tie rfl ⟨rfl, rfl⟩ facts.mainIs rfl
    (fun f fn hf hfn => by
      obtain rfl : f = 10 := Option.some.inj (sampleSumsDone.named.symm.trans hf) |>.symm
      obtain rfl : fn = Tryz.f10 := (Option.some.inj (Tryz.func10.symm.trans hfn)).symm
      exact ⟨facts.looks, fun j t ht => by
        rw [Tryz.params10] at ht
        have hm : t ∈ [22, 22] := by simpa using Array.mem_of_getElem? ht
        have hall : ([22, 22].all fun u => !Tryz.prog.wantsStandIn u) = true := by kernel_rfl
        exact (show Tryz.prog.wantsStandIn t = false by simpa using List.all_eq_true.1 hall t hm)⟩)
    sampleSumsDone.goes
end Go.Proofs.YtcihbmifogfdpaaGreatDoor
#print axioms Go.Proofs.YtcihbmifogfdpaaGreatDoor.sampleSums_holds

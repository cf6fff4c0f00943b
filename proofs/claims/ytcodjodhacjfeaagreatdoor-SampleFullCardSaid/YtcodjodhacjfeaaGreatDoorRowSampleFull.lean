/-
  The statement SampleFull holds, as a tied card: whatever the input, the law returns true, and the input reads as it did, where the packages' listed variables hold what the program's text lays in them. No other condition.
-/
import Derived.Test.YtcodjodhacjfeaaGreatDoorRows
import Derived.Test.YtcodjodhacjfeaaGreatDoorTie
import Derived.Test.YtcodjodhacjfeaaGreatDoorCards
import Derived.WalkKit
import Derived.ProofKit
import Derived.OpenShut
import Derived.ShutString
import Derived.ChangeOld
import Derived.Below
import Derived.Lay
import Derived.SevenTiedAt
import Derived.MakeChecks
import Derived.ChangeMaps5
import Derived.Test.YtcodjodhacjfeaaGreatDoorJoinMk
import Derived.Test.YtcodjodhacjfeaaGreatDoorFacts
import Derived.Test.YtcodjodhacjfeaaGreatDoorS10
import Derived.Test.YtcodjodhacjfeaaGreatDoorGlOpen
namespace Go.Proofs.YtcodjodhacjfeaaGreatDoor.sampleFullDone
open Go.ChangeShapes Go.WideShapes Go.ChangeAt Go.RowKit
open Go.ChangeMaps (open_string)
open facts (own laidOut)

set_option maxRecDepth 100000 in
theorem lifted (os : Os) (started : os.Started) (H : Type) (enc : TypeId × Value → H) :
    ReturnsInHanded {} Tryz.checked os 3 .any (fun w args => (Rows.sampleFullSpec.pre enc Tryz.prog Tryz.f3 [] false w args ∧ laidMetH Tryz.prog Rows.sampleFullRow.laid w) ∧ sizedMet enc Tryz.prog Tryz.f3 (OpenSpec.ofChange Rows.sampleFullSpec) false w args)
      (Rows.sampleFullSpec.post enc Tryz.prog Tryz.f3 false true false false) := by
  refine returnsInHanded_of_change_and (C := Tryz.checked) (X := fun w _ => laidMetH Tryz.prog Rows.sampleFullRow.laid w) (fun _ _ _ hh h => h.of_heap hh) own started (by kernel_rfl) Tryz.func3
    (ChangeSpec.witness_shaped (enc := enc) (C := Tryz.checked) (os := os) (X := fun w _ => laidMetH Tryz.prog Rows.sampleFullRow.laid w) false (World.laidAll Tryz.prog os Rows.sampleFullRow.laid) #[.int .u8 0] 8 (World.laidAll_os _ _ _)
      (World.shaped_of_ZipB (by kernel_rfl) (by kernel_rfl)) (by kernel_rfl) (by kernel_rfl) (by kernel_rfl)
      (by rw [MakeChecks.laidMetH_plain _ _ _ (by kernel_rfl)]; exact laidMet_laidAll _ (by kernel_rfl) (by kernel_rfl))) ?_
  intro W base args ds gs before hval0 hW _ _ hL _
  have hval : ∀ (j : Nat) t v, Tryz.f3.params[j]? = some t → args[j]? = some v → Value.okWide Tryz.prog W .any base t v := hval0
  have hW' := hW
  obtain ⟨p, q, hA0, hV, rfl, hfz, hnd⟩ := hW
  have hA : DataW.TrodAll enc Tryz.prog W 0 (fun _ => true) true Tryz.f3.params.toList args.toList ds p := hA0
  rw [Tryz.params3] at hA hval
  obtain ⟨v0, vs0, d0, ds0, p0, q0, hargs, rfl, rfl, h0, r0⟩ := trodAll_cons hA
  obtain ⟨rfl, rfl, rfl⟩ := trodAll_nil r0
  obtain rfl : args = #[v0] := by cases args; simp_all
  obtain ⟨rfl, rfl⟩ := trodVars_none hV
  have k0 := h0
  have lt0 : ∀ x ∈ p0, x.block < W.heap.size := by obtain ⟨m, hm⟩ := k0; exact DataW.trod_lt m _ _ _ hm
  obtain ⟨a0, rfl, rfl, rfl, w0⟩ := open_int Tryz.underlying5 (hval 0 5 v0 rfl rfl) h0
  clear hA0 hval0
  rw [MakeChecks.laidMetH_plain _ _ _ (by kernel_rfl)] at hL
  have hG : Globs W := globs_of (Lib.laidMet.reads hL (by simp [Rows.sampleFullRow])) (Lib.laidMet.reads hL (by simp [Rows.sampleFullRow])) (Lib.laidMet.reads hL (by simp [Rows.sampleFullRow])) (Lib.laidMet.reads hL (by simp [Rows.sampleFullRow])) (Lib.laidMet.reads hL (by simp [Rows.sampleFullRow])) (Lib.laidMet.reads hL (by simp [Rows.sampleFullRow]))
  refine (full_walk a0 w0 W  hG).mono fun e W' ⟨he, bel⟩ => ?_
  subst he
  exact ⟨_, rfl, _, _, _, [], _, [], hW', trodAll_mk1 (shut_bool Tryz.underlying4 _), (trodAll_cons_mk (Below.trod laidOut (by kernel_rfl) (of_decide_eq_true (by kernel_rfl)) k0 bel lt0) trodAll_mk0), rfl, bel.frame _, fun h => by cases h⟩

theorem c9 : (Rows.sampleFullRow.inPlace == Tryz.prog.inPlace 3) = true := by kernel_rfl
theorem c10 : (Rows.sampleFullRow.unfollowed == Tryz.prog.unfollowed 3) = true := by kernel_rfl
theorem c11 : (Rows.sampleFullRow.recurses == Tryz.prog.recurses 3) = true := by kernel_rfl
theorem c12 : (Rows.sampleFullRow.named == Tryz.prog.varsNamed 3) = true := by kernel_rfl
theorem joined : joinedFacts Tryz.pinned.checked.prog 3 Tryz.f3 Rows.sampleFullSpec Rows.sampleFullRow = true :=
  JoinMk.mk (by as_aux_lemma => kernel_rfl) laidOut facts.rowed (by as_aux_lemma => kernel_rfl) (by as_aux_lemma => kernel_rfl) rfl (by as_aux_lemma => kernel_rfl) rfl (by as_aux_lemma => kernel_rfl)
    c9 c10 c11 c12 (by as_aux_lemma => kernel_rfl) (by as_aux_lemma => kernel_rfl) (by as_aux_lemma => kernel_rfl) (by as_aux_lemma => kernel_rfl) (by as_aux_lemma => kernel_rfl) (by as_aux_lemma => kernel_rfl) (by as_aux_lemma => kernel_rfl) (by as_aux_lemma => kernel_rfl) (by as_aux_lemma => kernel_rfl)
    (by rw [show Tryz.pinned.checked.prog.plainKeys = _ from facts.plainKeys]; rfl) rfl facts.heard facts.mayEnter (by rw [show Tryz.pinned.checked.prog.liftsFinal = _ from facts.lifts]; rfl) (by rw [show Tryz.pinned.checked.prog.make = _ from facts.make]; rfl)
    (by as_aux_lemma => kernel_rfl) (by as_aux_lemma => kernel_rfl) (by as_aux_lemma => kernel_rfl) (by as_aux_lemma => kernel_rfl)
theorem named : Tryz.prog.funcNamed "freehold/freeholdlaw14.SampleFull" = some 3 := by kernel_rfl
theorem goes : false = Rows.sampleFullRow.goesBy Tryz.pinned.checked.prog := by kernel_rfl
theorem over : Rows.sampleFullRow.holds Tryz.pinned (OpenSpec.ofChange Rows.sampleFullSpec) :=
  OpenClaim.holds_of_wide 3 Tryz.f3 rfl rfl rfl rfl rfl rfl rfl ⟨rfl, rfl, rfl, rfl, rfl⟩ rfl rfl rfl rfl rfl named Tryz.func3 joined
    (of_decide_eq_true (by kernel_rfl)) (by unfold Func.isWrapper; first | (rw [if_pos (by decide +kernel)]; kernel_rfl) | (rw [if_neg (by decide +kernel)]; exact ⟨rfl, rfl⟩))
    (fun os started H enc _ => lifted os started H enc)
end Go.Proofs.YtcodjodhacjfeaaGreatDoor.sampleFullDone
namespace Go.Proofs.YtcodjodhacjfeaaGreatDoor
theorem sampleFull_holds : Rows.SampleFullCardSaid :=
  Claim7.holds_tied_plain_at .later [] [.data, .data, .data, .data, .data, .data, .sentinel, .sentinel, .pinned] true (true, "9b17e598764a5d1b4538e1ba3bc4b281b6165fa394191560104c103837acf0c4") true sampleFullDone.over (fun _ h => by cases h) (by kernel_rfl) (fun _ h => by cases h) sampleFull_row_tie rfl ⟨rfl, rfl⟩ facts.mainIs rfl
    (fun f fn hf hfn => by
      obtain rfl : f = 3 := Option.some.inj (sampleFullDone.named.symm.trans hf) |>.symm
      obtain rfl : fn = Tryz.f3 := (Option.some.inj (Tryz.func3.symm.trans hfn)).symm
      exact ⟨facts.looks, fun j t ht => by
        rw [Tryz.params3] at ht
        have hm : t ∈ [5] := by simpa using Array.mem_of_getElem? ht
        have hall : ([5].all fun u => !Tryz.prog.wantsStandIn u) = true := by kernel_rfl
        exact (show Tryz.prog.wantsStandIn t = false by simpa using List.all_eq_true.1 hall t hm)⟩)
    sampleFullDone.goes
end Go.Proofs.YtcodjodhacjfeaaGreatDoor
#print axioms Go.Proofs.YtcodjodhacjfeaaGreatDoor.sampleFull_holds

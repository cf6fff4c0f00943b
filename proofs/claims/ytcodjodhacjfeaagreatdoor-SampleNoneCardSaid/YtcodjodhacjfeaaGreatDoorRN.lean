/-
  SampleNone: by the machine, whatever its numbers and its site are; the examples of the chapter are given.
-/
import Derived.Test.YtcodjodhacjfeaaGreatDoorOB
namespace Go.Proofs.YtcodjodhacjfeaaGreatDoor
open Go.RowKit
namespace Cl
noncomputable def awakeOv (args : List Value) : HM Value := match args with
  | [] => pure (.bool true)
  | _ => HM.fail
set_option maxRecDepth 100000 in
theorem awakeOv_ok (w0 : Bs) (hg : Globs w0.w) : OneOk Tryz.prog w0 14 awakeOv := by
  intro args n h x e ρ w args' hw hgl
  unfold awakeOv at e
  split at e
  · obtain rfl := hgl.nil_eq
    have := HM.pure_iff.1 e
    subst this
    rw [Tryz.call14]
    exact (awake_any (hg.grow hw.below.1)).mono fun e w' ⟨h1, h2⟩ => ⟨_, h1, ρ, Pm.le_refl _, hw.later h2, .flat rfl⟩
  · rw [HM.fail_iff] at e; cases e
noncomputable def ovN (f : FuncId) : Option (List Value → HM Value) := match Nat.beq f 14 with
  | true => some awakeOv
  | false => ovA f
set_option maxRecDepth 100000 in
theorem ovN_ok {w : World} (hg : Globs w) : OvOk Tryz.prog ⟨w, HL.none⟩ ovN := fun f m hf => by
  unfold ovN at hf
  split at hf
  · rename_i h
    obtain rfl := Nat.eq_of_beq_eq_true h
    cases hf
    exact ovOk_of (ov := fun f' => if f' = 14 then some awakeOv else none) (fun f' m' hf' => by
      by_cases he : f' = 14
      · rw [if_pos he] at hf'; cases hf'; subst he; exact awakeOv_ok _ hg
      · rw [if_neg he] at hf'; cases hf') _ _ (if_pos rfl)
  · exact ovA_ok hg f m hf
noncomputable def noneArgs (b : Bool) : List Value := [.chan (some 0), .chan (some 1), .chan (some 2), .chan (some 3), .bool b]
theorem none_run : (callA Tryz.prog ovN 2000 60 4 (noneArgs true)).kont Bool 16 hGlobs 0 0 (fun a _ _ _ _ => some (isT a)) = some true ∧ (callA Tryz.prog ovN 2000 60 4 (noneArgs false)).kont Bool 16 hGlobs 0 0 (fun a _ _ _ _ => some (isT a)) = some true := by decide +kernel
end Cl
set_option maxRecDepth 100000 in
theorem none_walk (thread : Int) (_ : (Lit.int .i64 thread).wf = true) (a : Int) (_ : (Lit.int .i64 a).wf = true) (b : Int) (_ : (Lit.int .i64 b).wf = true) (site : ByteArray) (none : Bool) (w : World) (_ : site.size ≤ 9223372036854775807) (hg : Globs w) : Calls Tryz.prog 4 #[.int .i64 thread, .int .i64 a, .int .i64 b, .string site, .bool none] w fun e w' => e = .returned (.bool true) ∧ Below w.heap.size w w' := by
  refine (Cl.open_call (p := Cl.isT) (ov := Cl.ovN) (L := 2000) (d := 60) (n0 := 16) Cl.follows Cl.noGo' w (Cl.ovN_ok hg) (Cl.hGlobs_ok hg) (args := Cl.noneArgs none) (args' := [.int .i64 thread, .int .i64 a, .int .i64 b, .string site, .bool none])
    (fun ρ => .cons (.unk rfl) (.cons (.unk rfl) (.cons (.unk rfl) (.cons (.unk rfl) (.cons (.flat rfl) .nil))))) (Tryz.call4 _ _) (by
      cases none
      · exact Cl.none_run.2
      · exact Cl.none_run.1)).mono ?_
  rintro e w' ⟨v, v', h1, rfl, h2, h3⟩
  have := Cl.isT_eq h1
  subst this
  rw [h3 rfl]
  exact ⟨rfl, h2⟩
end Go.Proofs.YtcodjodhacjfeaaGreatDoor

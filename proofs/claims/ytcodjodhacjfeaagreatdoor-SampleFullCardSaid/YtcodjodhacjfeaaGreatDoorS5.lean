/-
  slices.Collect of the keys of an empty map of blocks: given to the machine.
-/
import Derived.Test.YtcodjodhacjfeaaGreatDoorSD
namespace Go.Proofs
open Go.RowKit Go.Maps Go.Sort Go.Shelf
shelf_lay_g SlLaysZI.n7 Ggz 7 at Tryz 29 as Tryz.keysB
end Go.Proofs
namespace Go.Proofs.YtcodjodhacjfeaaGreatDoor
open Go.RowKit Go.Maps Go.Sort Go.Shelf
namespace Cl
noncomputable def collect0 (G : Nat) (args : List Value) : HM Value := do
  let (es, _) ← keysOf G args
  match es with
  | [] => pure (.slice none 0 0)
  | _ => HM.fail
set_option maxRecDepth 100000 in
theorem collect0_ok (w0 : Bs) : OneOk Tryz.prog w0 44 (collect0 46) := by
  intro args n h x e ρ w args' hw hg
  unfold collect0 at e
  rw [HM.bind_iff] at e
  obtain ⟨⟨⟨es, clock⟩, n1, h1, r1, q1⟩, e1, x2, e2, rfl⟩ := e
  obtain ⟨Bm, b, es', rfl, k1, k2, k3, k4, k5, k6⟩ := keysOf_spec hw hg e1
  simp only at e2 k4 k5 k6
  subst k6
  split at e2
  · have := HM.pure_iff.1 e2
    subst this
    obtain ⟨D0, hown, l, rfl, hl⟩ := owns_map (k := 3) k4 k5 (by simp) (by simp) (by simp) (by simp) (fun _ => .int .i64 0) (by simp)
    have hseq : SeqGives Fence.wide 2 Tryz.prog 46 #[.pointer (some ⟨Bm, 0, none⟩)] encZ (fun ss => ss.Perm (intKeys (.map l))) (Maps.size (.map l)) w :=
      AnyZI.keys_gives (ρ := Tryz.keysB_ren) { Tryz.keysB with } Fence.wide _ trivial rfl (by omega) Bm b _ _ w k1 k3 hown
    have hsz : Maps.size (DataW.map l) = 0 := by have := hl.length_eq; simpa [Maps.size_eq] using this
    have hc := AnyZI.collect_in Tryz.collI Fence.wide 4 trivial trivial rfl (by omega) 46 #[.pointer (some ⟨Bm, 0, none⟩)] trivial (enters_of Tryz.func46 (by kernel_rfl) rfl) _ _ (by rw [hsz]; simp [maxLen]) (by rw [hsz]; omega) _ hseq
    rw [Tryz.call44]
    refine (callsIn_wide.1 hc).mono ?_
    rintro e w' ⟨v2, ss, rfl, hS, hrow, hnil, hbe⟩
    have hss : ss = [] := by
      have h9 : (intKeys (.map l)).Perm [] := by
        have := hl.map Go.intOf
        simpa [intKeys, List.map_map, Go.intOf] using this
      exact List.perm_nil.1 (hS.trans h9)
    have hv := hnil.2 hss
    subst hv
    exact ⟨_, rfl, ρ, Pm.le_refl _, hw.later hbe, .flat rfl⟩
  · rw [HM.fail_iff] at e2; cases e2
noncomputable def ovL (f : FuncId) : Option (List Value → HM Value) := match Nat.beq f 44 with
  | true => some (collect0 46)
  | false => none
set_option maxRecDepth 100000 in
theorem ovL_ok (w0 : Bs) : OvOk Tryz.prog w0 ovL := ovOk_of fun f m hf => by
  unfold ovL at hf
  split at hf
  · rename_i h; obtain rfl := Nat.eq_of_beq_eq_true h; cases hf; exact collect0_ok _
  · cases hf
theorem live_run : (callA Tryz.prog ovL 2000 60 13 [.pointer (some ⟨16, 0, none⟩)]).kont Bool 128 (ofL (mem2 200)) 0 0 (fun a _ h _ _ => some (leaves ((mem2 200).map fun x => (x.1, x.1)) (mem2 200) (.slice none 0 0) a h)) = some true := by decide +kernel
end Cl
end Go.Proofs.YtcodjodhacjfeaaGreatDoor

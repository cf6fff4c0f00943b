/-
  A slice that a call of the library hands back, as the machine's own row.
-/
import Derived.Test.YtcihbmifogfdpaaGreatDoorK12
import Derived.Laws.AppendOwn
namespace Go.Proofs.YtcihbmifogfdpaaGreatDoor
open Go.RowKit
namespace Cl
section
variable {P : Program} {w0 w w' : World} {ρ : Pm} {h : H} {n : Nat}
/-- what lay there lies there: nothing that is spoken of has turned -/
theorem W.later (hw : W P w0 ρ h w) (hb : Below w.heap.size w w') : W P w0 ρ h w' := by
  refine hw.world (hb.mono hw.below.size) fun i o p e hl e1 => ?_
  obtain ⟨q, e2, e3⟩ := hw.obj i o e
  rw [e1] at e2
  cases e2
  exact hb.block _ (e3.old hl).2
/-- a slice of a row of its own gets a number -/
theorem post_row (hw : W P w0 ρ h w) (hb : Below w.heap.size w w') {e : TypeId} {size m : Nat} {r : Bool} {v : Value} {xs xs0 : List Value} (hk : tk P e = some (r, size)) (hm : m ≠ 0) (ho : w'.ownsRow w.heap.size e size v m xs) (hg : GL ρ xs0 xs) (hn : hget h n = none) {k q s : Nat} :
    Post P w0 ρ ⟨.slice (some ⟨n, 0, none⟩) m m, k, hset h n (.cells xs0 e true), q, s⟩ v w' := by
  obtain ⟨h1, ⟨_, h0⟩ | ⟨g, cap, cur, rfl, h2, h3, h4, h5, h6, h7⟩⟩ := ho
  · exact absurd h0 hm
  · have hw' := hw.later hb
    have hle := hw'.le_up hn ⟨g, 0, cap - m⟩
    have hlen : cur.size = xs0.length + (cap - m) * size := by
      rw [hg.1, h1, h6, ← Nat.add_mul, Nat.add_sub_cancel' h4]
    refine ⟨upP ρ n ⟨g, 0, cap - m⟩, hle, hw'.name hn (fun _ i oi p hi hl hp => ?_) ⟨Nat.le_trans hw.below.size h2, fun hv => (by cases hv), cur, h3, ?_, fun j u hu => ?_⟩, ?_⟩
    · obtain ⟨p', e1, e2⟩ := hw.obj i oi hi
      rw [hp] at e1
      cases e1
      have := (e2.old hl).2
      simp only
      omega
    · simpa [szOf, hk] using hlen
    · obtain ⟨u', f1, f2⟩ := hg.get hu
      refine ⟨u', ?_, f2.mono hle⟩
      rw [← h7, List.getElem?_take] at f1
      split at f1
      · simpa using f1
      · cases f1
    · have := G.slc (ρ := upP ρ n ⟨g, 0, cap - m⟩) (b := n) (off := 0) (n := m) (c := m) (upP_same _ _ _)
      simp only [Nat.add_zero, Nat.add_sub_cancel' h4] at this
      exact this
end
end Cl
end Go.Proofs.YtcihbmifogfdpaaGreatDoor

/-
  Arguments that came in: an act by value.
-/
import Derived.Test.YthlmjdkpkikcpaaTOpen
import Derived.Lib.SmallJoins
namespace Go.Proofs.Ythlmjdkpkikcpaa
open Go.ChangeShapes Go.WideShapes Go.ChangeAt Go.RowKit Go.Deep Go.Joins

theorem act_open {H : Type} {enc : TypeId × Value → H} {W : World} {base b0 : Nat} {r : Reach} {v : Value} {d : DataW H} {p : List MemPlace}
    (h : DataW.Trod enc Try.prog W base (fun _ => true) true 42 v d p) (hv : Value.okWide Try.prog W r b0 42 v) :
    ∃ x : ActV, v = .agg #[.int .i64 x.kind, x.v] ∧ (IntsAt W x.v x.l ∧ x.l.length ≤ 9223372036854775807) := by
  obtain ⟨v0, v1, y0, y1, n, rfl, _, _, h0, h1⟩ := open_agg2 Try.underlying42 (by kernel_rfl) (by kernel_rfl) hv h
  obtain ⟨z, hz, _⟩ := DataW.trod_int Try.underlying3 h0
  simp at hz
  subst hz
  obtain ⟨al, cl, l, hv1, hil, hll⟩ := ints_open Try.underlying27 Try.underlying3 (by kernel_rfl) h1
  subst hv1
  exact ⟨⟨z, al, cl, l⟩, rfl, hil, by unfold maxLen at hll; omega⟩
end Go.Proofs.Ythlmjdkpkikcpaa

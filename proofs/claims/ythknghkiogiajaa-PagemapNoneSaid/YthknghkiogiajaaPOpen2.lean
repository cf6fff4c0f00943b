/-
  Arguments that came in: an act by value.
-/
import Derived.Test.YthknghkiogiajaaPOpen
namespace Go.Proofs.Ythknghkiogiajaa
open Go.ChangeShapes Go.WideShapes Go.ChangeAt Go.RowKit Go.Deep Go.Joins

theorem act_open {H : Type} {enc : TypeId × Value → H} {W : World} {base b0 : Nat} {r : Reach} {v : Value} {d : DataW H} {p : List MemPlace}
    (h : DataW.Trod enc Try.prog W base (fun _ => true) true 30 v d p) (hv : Value.okWide Try.prog W r b0 30 v) :
    ∃ x : ActV, v = .agg #[.int .i64 x.kind, .int .i64 x.a, .int .i64 x.b, .int .i64 x.c] ∧ True := by
  obtain ⟨v0, v1, v2, v3, y0, y1, y2, y3, n, rfl, _, _, h0, h1, h2, h3⟩ := open_agg4 Try.underlying30 (by kernel_rfl) (by kernel_rfl) hv h
  obtain ⟨z0, hz0, _⟩ := DataW.trod_int Try.underlying3 h0
  obtain ⟨z1, hz1, _⟩ := DataW.trod_int Try.underlying3 h1
  obtain ⟨z2, hz2, _⟩ := DataW.trod_int Try.underlying3 h2
  obtain ⟨z3, hz3, _⟩ := DataW.trod_int Try.underlying3 h3
  simp at hz0 hz1 hz2 hz3
  subst hz0 hz1 hz2 hz3
  exact ⟨⟨z0, z1, z2, z3⟩, rfl, trivial⟩
end Go.Proofs.Ythknghkiogiajaa

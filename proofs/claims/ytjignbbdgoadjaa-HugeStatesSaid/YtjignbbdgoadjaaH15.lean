/-
  HugeRefuses, HugeBack: as their rows ask.
-/
import Derived.Test.YtjignbbdgoadjaaH14
namespace Go.Proofs.Ytjignbbdgoadjaa
open Go.RowKit

theorem u8_nat {m : Int} (h : (Lit.int .u8 m).wf = true) : ∃ k : Nat, k < 256 ∧ m = k := by
  have : 0 ≤ m ∧ m ≤ 255 := by
    simp only [Lit.wf, decide_eq_true_eq, Bool.and_eq_true] at h
    exact h
  exact ⟨m.toNat, by omega, by omega⟩
theorem i64_range {m : Int} (h : (Lit.int .i64 m).wf = true) : -9223372036854775808 ≤ m ∧ m ≤ 9223372036854775807 := by
  simp only [Lit.wf, decide_eq_true_eq, Bool.and_eq_true] at h
  exact h
theorem refuses_row (m : Int) (hw : (Lit.int .u8 m).wf = true) (a : Option Addr) (cap : Nat) (acts : List ActV) (x : ActV) (w : World) (h : ActsAt w (.slice a acts.length cap) acts) (hn : acts.length ≤ 9223372036854775807) (_ : True) :
    Calls Try.prog 7 #[.int .u8 m, .slice a acts.length cap, .agg #[.int .i64 x.kind, .int .i64 x.a, .int .i64 x.b]] w fun e w' => e = .returned (.bool true) ∧ Below w.heap.size w w' := by
  obtain ⟨k, hk, rfl⟩ := u8_nat hw
  exact refuses_walk k hk a cap acts x w h hn
theorem back_row (m : Int) (hw : (Lit.int .u8 m).wf = true) (a : Option Addr) (cap : Nat) (acts : List ActV) (start : Int) (hs : (Lit.int .i64 start).wf = true) (pages : Int) (_ : (Lit.int .i64 pages).wf = true) (first : Bool) (w : World) (h : ActsAt w (.slice a acts.length cap) acts) (hn : acts.length ≤ 9223372036854775807) :
    Calls Try.prog 6 #[.int .u8 m, .slice a acts.length cap, .int .i64 start, .int .i64 pages, .bool first] w fun e w' => e = .returned (.bool true) ∧ Below w.heap.size w w' := by
  obtain ⟨k, hk, rfl⟩ := u8_nat hw
  exact back_walk k hk a cap acts start pages (i64_range hs) first w h hn
end Go.Proofs.Ytjignbbdgoadjaa

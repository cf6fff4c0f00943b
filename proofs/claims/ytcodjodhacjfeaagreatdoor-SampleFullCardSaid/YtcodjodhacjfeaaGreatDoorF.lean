/-
  One more block, and back.
-/
import Derived.Test.YtcodjodhacjfeaaGreatDoorSD
namespace Go.Proofs.YtcodjodhacjfeaaGreatDoor
open Go.RowKit
namespace Cl
noncomputable def isZ (v : Value) : Bool := match v with
  | .int .i64 (.ofNat 0) => true
  | _ => false
noncomputable def fin2 (a : Value) (n : Nat) (h : H) : Option Bool := match a with
  | .tuple c => match c.toList with
    | [.int .i64 (.ofNat ad), z] => match isZ z, Nat.blt 0 ad, Nat.blt ad 1000000 with
      | true, true, true => (callA Tryz.prog ovA 2000 60 25 [.pointer (some ⟨16, 0, none⟩), .int .i64 0, .int .i64 (.ofNat ad)]).kont Bool n h 0 0 (fun b _ _ _ _ => some (isZ b))
      | _, _, _ => none
    | _ => none
  | _ => none
noncomputable def fin1 (k : Nat) : Bool := match (callA Tryz.prog ovA 2000 60 23 [.pointer (some ⟨16, 0, none⟩), .int .i64 0, .int .i64 (.ofNat (k + 1)), .int .i64 8]).kont Bool 128 (ofL (mem2 200)) 0 0 (fun a n h _ _ => fin2 a n h) with
  | some true => true
  | _ => false
end Cl
end Go.Proofs.YtcodjodhacjfeaaGreatDoor

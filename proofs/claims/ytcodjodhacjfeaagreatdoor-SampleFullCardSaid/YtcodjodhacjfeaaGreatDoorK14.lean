/-
  What is reached in the machine's memory, by numbers in the order in which it is met.
-/
import Derived.Test.YtcodjodhacjfeaaGreatDoorK13
namespace Go.Proofs.YtcodjodhacjfeaaGreatDoor
open Go.RowKit
namespace Cl
def refsV : Nat → Value → List Nat
  | _, .pointer (some a) => [a.block]
  | _, .slice (some a) _ _ => [a.block]
  | _, .map (some b) => [b]
  | d + 1, .iface _ v => refsV d v
  | d + 1, .agg a => a.toList.flatMap (refsV d)
  | d + 1, .tuple a => a.toList.flatMap (refsV d)
  | d + 1, .func _ a b => a.toList.flatMap (refsV d) ++ b.toList.flatMap (refsV d)
  | _, _ => []
def refsO : AO → List Nat
  | .cells c _ _ => c.flatMap (refsV 6)
  | .map es _ => es.flatMap fun e => refsV 6 e.val
  | .tail b _ => [b]
  | _ => []
noncomputable def meet (h : H) : Nat → List Nat → List Nat → List Nat
  | 0, _, seen => seen.reverse
  | _, [], seen => seen.reverse
  | f + 1, b :: q, seen => match seen.any (Nat.beq b) with
    | true => meet h f q seen
    | false => match hget h b with
      | some (.glob _ _) => meet h f q seen
      | some o => meet h f (q ++ refsO o) (b :: seen)
      | none => meet h f q seen
def numAt : List Nat → Nat → Nat → Nat
  | [], _, b => b
  | x :: l, k, b => match Nat.beq x b with
    | true => k
    | false => numAt l (k + 1) b
def renV (f : Nat → Nat) : Nat → Value → Value
  | _, .pointer (some a) => .pointer (some ⟨f a.block, a.off, a.spot⟩)
  | _, .slice (some a) n c => .slice (some ⟨f a.block, a.off, a.spot⟩) n c
  | _, .map (some b) => .map (some (f b))
  | d + 1, .iface t v => .iface t (renV f d v)
  | d + 1, .agg a => .agg (a.toList.map (renV f d)).toArray
  | d + 1, .tuple a => .tuple (a.toList.map (renV f d)).toArray
  | d + 1, .func g a b => .func g (a.toList.map (renV f d)).toArray (b.toList.map (renV f d)).toArray
  | _, v => v
def renO (f : Nat → Nat) : AO → AO
  | .cells c e v => .cells (c.map (renV f 6)) e v
  | .map es k => .map (es.map fun e => ⟨e.key, renV f 6 e.val, e.born⟩) k
  | .tail b k => .tail (f b) k
  | o => o
def zipN : Nat → List Nat → List (Nat × Nat)
  | _, [] => []
  | k, b :: l => (k, b) :: zipN (k + 1) l
/-- the memory that is reached from these, from number 16 on; and what the numbers were -/
noncomputable def gcOf (h : H) (roots : List Nat) : List (Nat × Nat) × List (Nat × AO) :=
  let ord := meet h 100000 roots []
  let ren := numAt ord 16
  (zipN 16 ord, (zipN 16 ord).filterMap fun x => match hget h x.2 with
    | some o => some (x.1, renO ren o)
    | none => none)
def gls : List Nat := [6, 7, 8, 3]
def blkV : Value → Nat
  | .pointer (some a) => a.block
  | _ => 0
end Cl
end Go.Proofs.YtcodjodhacjfeaaGreatDoor

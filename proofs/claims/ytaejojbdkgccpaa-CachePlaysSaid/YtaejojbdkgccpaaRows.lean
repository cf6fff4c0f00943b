/-
  No cell of these rows narrows 'for every input' (looked for: loops, veiled, ifaces, maps, wideKeys, modest, calm, conditions, laid).
  DERIVED. THE GIVEN ROWS OF THIS SEAT. 11 by the template 'for every input the law returns true; each argument reads behind the call as it read before'; 0 by the template 'total and deterministic' (their statements: YtaejojbdkgccpaaTotals.lean).
  GIVEN WITH THE SEED: the statements are not yours to turn. If you find one false, say at which input.
  Laid BY PROGRAM, IN A SANDBOX (cutbox-rows.mjs): the forced cells as the released guide's own fill.sh prints them over the translation c2a8edece4e07216… (all of the seat's roots in one cut). By AI agents, Wed Nov 11 2026. No macro, syntax, notation, axiom, sorry.
-/
import Derived.Test.YtaejojbdkgccpaaChecked
import GoSem.Claim
import GoSem.ClaimJoined
import GoSem.ClaimMapViews
import Derived.JoinedTies
import Derived.KernelRfl
namespace Go.Proofs.Ytaejojbdkgccpaa
/- THE CELL 'sum', in the pinned program and in every row, IS THE sha256 OF THE DUMP (.gsa) THAT YtaejojbdkgccpaaProg.lean LOADS. Nothing in Lean hashes anything: it is a label: what it is worth is what the hold of that sum in a sandbox is worth. -/
noncomputable def Try.pinned : Pinned := { name := "ytaejojbdkgccpaa", sum := "c2a8edece4e07216149d83eb82ddb819a3f24aadd6b1e9186cc8a88262cfdf19", checked := Try.checked }
namespace Rows
def none {H : Type} : Left H := { results := [], args := [] }

/-- 'freeholdlaw09.CacheStack': WHATEVER THE INPUT: true; the input reads as it did. -/
def cacheStackSpec : ChangeSpec := { name := "cacheStack", fn := fun _ => fun
  | [d1, d2, d3, d4] => { results := [.lit (.bool true)], args := [d1, d2, d3, d4] }
  | _ => none }
def cacheStackRow : OpenClaim := { program := "ytaejojbdkgccpaa", sum := "c2a8edece4e07216149d83eb82ddb819a3f24aadd6b1e9186cc8a88262cfdf19", func := "freehold/freeholdlaw09.CacheStack", spec := "cacheStack", unfollowed := true, recurses := true, apart := false }
def CacheStackSaid : Prop := cacheStackRow.holds Try.pinned (OpenSpec.ofChange cacheStackSpec)

/-- ITS FALSE NEIGHBOUR: 'it returns false'. Refute it at one input. -/
def cacheStackWrong : ChangeSpec := { name := "cacheStack", fn := fun _ => fun
  | [d1, d2, d3, d4] => { results := [.lit (.bool false)], args := [d1, d2, d3, d4] }
  | _ => none }
def CacheStackWrongFalsely : Prop := cacheStackRow.holds Try.pinned (OpenSpec.ofChange cacheStackWrong)

/-- 'freeholdlaw09.CacheOnce': WHATEVER THE INPUT: true; the input reads as it did. -/
def cacheOnceSpec : ChangeSpec := { name := "cacheOnce", fn := fun _ => fun
  | [d1, d2, d3] => { results := [.lit (.bool true)], args := [d1, d2, d3] }
  | _ => none }
def cacheOnceRow : OpenClaim := { program := "ytaejojbdkgccpaa", sum := "c2a8edece4e07216149d83eb82ddb819a3f24aadd6b1e9186cc8a88262cfdf19", func := "freehold/freeholdlaw09.CacheOnce", spec := "cacheOnce", unfollowed := true, recurses := true, apart := false }
def CacheOnceSaid : Prop := cacheOnceRow.holds Try.pinned (OpenSpec.ofChange cacheOnceSpec)

/-- ITS FALSE NEIGHBOUR: 'it returns false'. Refute it at one input. -/
def cacheOnceWrong : ChangeSpec := { name := "cacheOnce", fn := fun _ => fun
  | [d1, d2, d3] => { results := [.lit (.bool false)], args := [d1, d2, d3] }
  | _ => none }
def CacheOnceWrongFalsely : Prop := cacheOnceRow.holds Try.pinned (OpenSpec.ofChange cacheOnceWrong)

/-- 'freeholdlaw09.CacheLimits': WHATEVER THE INPUT: true; the input reads as it did. -/
def cacheLimitsSpec : ChangeSpec := { name := "cacheLimits", fn := fun _ => fun
  | [d1, d2, d3, d4] => { results := [.lit (.bool true)], args := [d1, d2, d3, d4] }
  | _ => none }
def cacheLimitsRow : OpenClaim := { program := "ytaejojbdkgccpaa", sum := "c2a8edece4e07216149d83eb82ddb819a3f24aadd6b1e9186cc8a88262cfdf19", func := "freehold/freeholdlaw09.CacheLimits", spec := "cacheLimits", unfollowed := true, recurses := true, apart := false }
def CacheLimitsSaid : Prop := cacheLimitsRow.holds Try.pinned (OpenSpec.ofChange cacheLimitsSpec)

/-- ITS FALSE NEIGHBOUR: 'it returns false'. Refute it at one input. -/
def cacheLimitsWrong : ChangeSpec := { name := "cacheLimits", fn := fun _ => fun
  | [d1, d2, d3, d4] => { results := [.lit (.bool false)], args := [d1, d2, d3, d4] }
  | _ => none }
def CacheLimitsWrongFalsely : Prop := cacheLimitsRow.holds Try.pinned (OpenSpec.ofChange cacheLimitsWrong)

/-- 'freeholdlaw09.CacheRefuses': WHATEVER THE INPUT: true; the input reads as it did. -/
def cacheRefusesSpec : ChangeSpec := { name := "cacheRefuses", fn := fun _ => fun
  | [d1, d2, d3, d4] => { results := [.lit (.bool true)], args := [d1, d2, d3, d4] }
  | _ => none }
def cacheRefusesRow : OpenClaim := { program := "ytaejojbdkgccpaa", sum := "c2a8edece4e07216149d83eb82ddb819a3f24aadd6b1e9186cc8a88262cfdf19", func := "freehold/freeholdlaw09.CacheRefuses", spec := "cacheRefuses", unfollowed := true, recurses := true, apart := false }
def CacheRefusesSaid : Prop := cacheRefusesRow.holds Try.pinned (OpenSpec.ofChange cacheRefusesSpec)

/-- ITS FALSE NEIGHBOUR: 'it returns false'. Refute it at one input. -/
def cacheRefusesWrong : ChangeSpec := { name := "cacheRefuses", fn := fun _ => fun
  | [d1, d2, d3, d4] => { results := [.lit (.bool false)], args := [d1, d2, d3, d4] }
  | _ => none }
def CacheRefusesWrongFalsely : Prop := cacheRefusesRow.holds Try.pinned (OpenSpec.ofChange cacheRefusesWrong)

/-- 'freeholdlaw09.CacheLow': WHATEVER THE INPUT: true; the input reads as it did. -/
def cacheLowSpec : ChangeSpec := { name := "cacheLow", fn := fun _ => fun
  | [d1, d2, d3, d4] => { results := [.lit (.bool true)], args := [d1, d2, d3, d4] }
  | _ => none }
def cacheLowRow : OpenClaim := { program := "ytaejojbdkgccpaa", sum := "c2a8edece4e07216149d83eb82ddb819a3f24aadd6b1e9186cc8a88262cfdf19", func := "freehold/freeholdlaw09.CacheLow", spec := "cacheLow", unfollowed := true, recurses := true, apart := false }
def CacheLowSaid : Prop := cacheLowRow.holds Try.pinned (OpenSpec.ofChange cacheLowSpec)

/-- ITS FALSE NEIGHBOUR: 'it returns false'. Refute it at one input. -/
def cacheLowWrong : ChangeSpec := { name := "cacheLow", fn := fun _ => fun
  | [d1, d2, d3, d4] => { results := [.lit (.bool false)], args := [d1, d2, d3, d4] }
  | _ => none }
def CacheLowWrongFalsely : Prop := cacheLowRow.holds Try.pinned (OpenSpec.ofChange cacheLowWrong)

/-- 'freeholdlaw09.CacheIdle': WHATEVER THE INPUT: true; the input reads as it did. -/
def cacheIdleSpec : ChangeSpec := { name := "cacheIdle", fn := fun _ => fun
  | [d1, d2, d3] => { results := [.lit (.bool true)], args := [d1, d2, d3] }
  | _ => none }
def cacheIdleRow : OpenClaim := { program := "ytaejojbdkgccpaa", sum := "c2a8edece4e07216149d83eb82ddb819a3f24aadd6b1e9186cc8a88262cfdf19", func := "freehold/freeholdlaw09.CacheIdle", spec := "cacheIdle", unfollowed := true, recurses := true, apart := false }
def CacheIdleSaid : Prop := cacheIdleRow.holds Try.pinned (OpenSpec.ofChange cacheIdleSpec)

/-- ITS FALSE NEIGHBOUR: 'it returns false'. Refute it at one input. -/
def cacheIdleWrong : ChangeSpec := { name := "cacheIdle", fn := fun _ => fun
  | [d1, d2, d3] => { results := [.lit (.bool false)], args := [d1, d2, d3] }
  | _ => none }
def CacheIdleWrongFalsely : Prop := cacheIdleRow.holds Try.pinned (OpenSpec.ofChange cacheIdleWrong)

/-- 'freeholdlaw09.CacheBytes': WHATEVER THE INPUT: true; the input reads as it did. -/
def cacheBytesSpec : ChangeSpec := { name := "cacheBytes", fn := fun _ => fun
  | [d1, d2, d3] => { results := [.lit (.bool true)], args := [d1, d2, d3] }
  | _ => none }
def cacheBytesRow : OpenClaim := { program := "ytaejojbdkgccpaa", sum := "c2a8edece4e07216149d83eb82ddb819a3f24aadd6b1e9186cc8a88262cfdf19", func := "freehold/freeholdlaw09.CacheBytes", spec := "cacheBytes", unfollowed := true, recurses := true, apart := false }
def CacheBytesSaid : Prop := cacheBytesRow.holds Try.pinned (OpenSpec.ofChange cacheBytesSpec)

/-- ITS FALSE NEIGHBOUR: 'it returns false'. Refute it at one input. -/
def cacheBytesWrong : ChangeSpec := { name := "cacheBytes", fn := fun _ => fun
  | [d1, d2, d3] => { results := [.lit (.bool false)], args := [d1, d2, d3] }
  | _ => none }
def CacheBytesWrongFalsely : Prop := cacheBytesRow.holds Try.pinned (OpenSpec.ofChange cacheBytesWrong)

/-- 'freeholdlaw09.CacheDrains': WHATEVER THE INPUT: true; the input reads as it did. -/
def cacheDrainsSpec : ChangeSpec := { name := "cacheDrains", fn := fun _ => fun
  | [d1, d2, d3] => { results := [.lit (.bool true)], args := [d1, d2, d3] }
  | _ => none }
def cacheDrainsRow : OpenClaim := { program := "ytaejojbdkgccpaa", sum := "c2a8edece4e07216149d83eb82ddb819a3f24aadd6b1e9186cc8a88262cfdf19", func := "freehold/freeholdlaw09.CacheDrains", spec := "cacheDrains", unfollowed := true, recurses := true, apart := false }
def CacheDrainsSaid : Prop := cacheDrainsRow.holds Try.pinned (OpenSpec.ofChange cacheDrainsSpec)

/-- ITS FALSE NEIGHBOUR: 'it returns false'. Refute it at one input. -/
def cacheDrainsWrong : ChangeSpec := { name := "cacheDrains", fn := fun _ => fun
  | [d1, d2, d3] => { results := [.lit (.bool false)], args := [d1, d2, d3] }
  | _ => none }
def CacheDrainsWrongFalsely : Prop := cacheDrainsRow.holds Try.pinned (OpenSpec.ofChange cacheDrainsWrong)

/-- 'freeholdlaw09.CacheClones': WHATEVER THE INPUT: true; the input reads as it did. -/
def cacheClonesSpec : ChangeSpec := { name := "cacheClones", fn := fun _ => fun
  | [d1, d2, d3, d4, d5] => { results := [.lit (.bool true)], args := [d1, d2, d3, d4, d5] }
  | _ => none }
def cacheClonesRow : OpenClaim := { program := "ytaejojbdkgccpaa", sum := "c2a8edece4e07216149d83eb82ddb819a3f24aadd6b1e9186cc8a88262cfdf19", func := "freehold/freeholdlaw09.CacheClones", spec := "cacheClones", unfollowed := true, recurses := true, apart := false }
def CacheClonesSaid : Prop := cacheClonesRow.holds Try.pinned (OpenSpec.ofChange cacheClonesSpec)

/-- ITS FALSE NEIGHBOUR: 'it returns false'. Refute it at one input. -/
def cacheClonesWrong : ChangeSpec := { name := "cacheClones", fn := fun _ => fun
  | [d1, d2, d3, d4, d5] => { results := [.lit (.bool false)], args := [d1, d2, d3, d4, d5] }
  | _ => none }
def CacheClonesWrongFalsely : Prop := cacheClonesRow.holds Try.pinned (OpenSpec.ofChange cacheClonesWrong)

/-- 'freeholdlaw09.CachePlays': WHATEVER THE INPUT: true; the input reads as it did. -/
def cachePlaysSpec : ChangeSpec := { name := "cachePlays", fn := fun _ => fun
  | [d1, d2, d3] => { results := [.lit (.bool true)], args := [d1, d2, d3] }
  | _ => none }
def cachePlaysRow : OpenClaim := { program := "ytaejojbdkgccpaa", sum := "c2a8edece4e07216149d83eb82ddb819a3f24aadd6b1e9186cc8a88262cfdf19", func := "freehold/freeholdlaw09.CachePlays", spec := "cachePlays", unfollowed := true, recurses := true, apart := false }
def CachePlaysSaid : Prop := cachePlaysRow.holds Try.pinned (OpenSpec.ofChange cachePlaysSpec)

/-- ITS FALSE NEIGHBOUR: 'it returns false'. Refute it at one input. -/
def cachePlaysWrong : ChangeSpec := { name := "cachePlays", fn := fun _ => fun
  | [d1, d2, d3] => { results := [.lit (.bool false)], args := [d1, d2, d3] }
  | _ => none }
def CachePlaysWrongFalsely : Prop := cachePlaysRow.holds Try.pinned (OpenSpec.ofChange cachePlaysWrong)

/-- 'freeholdlaw09.CacheNone': WHATEVER THE INPUT: true; the input reads as it did. -/
def cacheNoneSpec : ChangeSpec := { name := "cacheNone", fn := fun _ => fun
  | [d] => { results := [.lit (.bool true)], args := [d] }
  | _ => none }
def cacheNoneRow : OpenClaim := { program := "ytaejojbdkgccpaa", sum := "c2a8edece4e07216149d83eb82ddb819a3f24aadd6b1e9186cc8a88262cfdf19", func := "freehold/freeholdlaw09.CacheNone", spec := "cacheNone", unfollowed := true, recurses := true, apart := false }
def CacheNoneSaid : Prop := cacheNoneRow.holds Try.pinned (OpenSpec.ofChange cacheNoneSpec)

/-- ITS FALSE NEIGHBOUR: 'it returns false'. Refute it at one input. -/
def cacheNoneWrong : ChangeSpec := { name := "cacheNone", fn := fun _ => fun
  | [d] => { results := [.lit (.bool false)], args := [d] }
  | _ => none }
def CacheNoneWrongFalsely : Prop := cacheNoneRow.holds Try.pinned (OpenSpec.ofChange cacheNoneWrong)

/- THE SECOND FORM. 'bulk': how many values and letters a reading holds, each counted each time it is reached (what is shared counts as often as it is met; a slice's spare places count too). A statement '..UptoSaid' is the law's where the arguments, and the package variables that the reading takes, are together of bulk at most 1048576: NARROWER than '..Said'. Prove '..Said' where nothing that the law and all that it calls make is longer than what came in: it says more and counts as full. Else prove '..UptoSaid'. A law counts once. -/
mutual
def uptoBulk {H : Type} : DataW H → Nat
  | .lit (.string bytes) => bytes.length + 1
  | .lit _ => 1
  | .nil => 1
  | .ptr d => uptoBulk d + 1
  | .slice elems spare => uptoBulkAll elems + uptoBulkAll spare + 1
  | .agg parts => uptoBulkAll parts + 1
  | .iface _ d => uptoBulk d + 1
  | .map entries => uptoBulkEntries entries + 1
  | .held _ => 1
def uptoBulkAll {H : Type} : List (DataW H) → Nat
  | [] => 0
  | d :: r => uptoBulk d + uptoBulkAll r
def uptoBulkEntries {H : Type} : List (Lit × DataW H) → Nat
  | [] => 0
  | x :: r => uptoBulkEntry x + uptoBulkEntries r
def uptoBulkEntry {H : Type} : Lit × DataW H → Nat
  | (.string bytes, d) => bytes.length + uptoBulk d + 1
  | (_, d) => uptoBulk d + 1
 end
def uptoSmall : (H : Type) → List (DataW H) → Bool := fun _ ds => decide (uptoBulkAll ds ≤ 1048576)
def OpenSpec.upto (s : _root_.Go.ChangeSpec) : _root_.Go.OpenSpec := { _root_.Go.OpenSpec.ofChange s with cond := some uptoSmall }

/-- 'freeholdlaw09.CacheStack', WHERE WHAT IT READS IS OF BULK AT MOST 1048576: true; the input reads as it did. -/
def cacheStackUptoRow : OpenClaim := { program := "ytaejojbdkgccpaa", sum := "c2a8edece4e07216149d83eb82ddb819a3f24aadd6b1e9186cc8a88262cfdf19", func := "freehold/freeholdlaw09.CacheStack", spec := "cacheStack", unfollowed := true, recurses := true, apart := false, narrowed := true }
def CacheStackUptoSaid : Prop := cacheStackUptoRow.holds Try.pinned (OpenSpec.upto cacheStackSpec)

/-- 'freeholdlaw09.CacheOnce', WHERE WHAT IT READS IS OF BULK AT MOST 1048576: true; the input reads as it did. -/
def cacheOnceUptoRow : OpenClaim := { program := "ytaejojbdkgccpaa", sum := "c2a8edece4e07216149d83eb82ddb819a3f24aadd6b1e9186cc8a88262cfdf19", func := "freehold/freeholdlaw09.CacheOnce", spec := "cacheOnce", unfollowed := true, recurses := true, apart := false, narrowed := true }
def CacheOnceUptoSaid : Prop := cacheOnceUptoRow.holds Try.pinned (OpenSpec.upto cacheOnceSpec)

/-- 'freeholdlaw09.CacheLimits', WHERE WHAT IT READS IS OF BULK AT MOST 1048576: true; the input reads as it did. -/
def cacheLimitsUptoRow : OpenClaim := { program := "ytaejojbdkgccpaa", sum := "c2a8edece4e07216149d83eb82ddb819a3f24aadd6b1e9186cc8a88262cfdf19", func := "freehold/freeholdlaw09.CacheLimits", spec := "cacheLimits", unfollowed := true, recurses := true, apart := false, narrowed := true }
def CacheLimitsUptoSaid : Prop := cacheLimitsUptoRow.holds Try.pinned (OpenSpec.upto cacheLimitsSpec)

/-- 'freeholdlaw09.CacheRefuses', WHERE WHAT IT READS IS OF BULK AT MOST 1048576: true; the input reads as it did. -/
def cacheRefusesUptoRow : OpenClaim := { program := "ytaejojbdkgccpaa", sum := "c2a8edece4e07216149d83eb82ddb819a3f24aadd6b1e9186cc8a88262cfdf19", func := "freehold/freeholdlaw09.CacheRefuses", spec := "cacheRefuses", unfollowed := true, recurses := true, apart := false, narrowed := true }
def CacheRefusesUptoSaid : Prop := cacheRefusesUptoRow.holds Try.pinned (OpenSpec.upto cacheRefusesSpec)

/-- 'freeholdlaw09.CacheLow', WHERE WHAT IT READS IS OF BULK AT MOST 1048576: true; the input reads as it did. -/
def cacheLowUptoRow : OpenClaim := { program := "ytaejojbdkgccpaa", sum := "c2a8edece4e07216149d83eb82ddb819a3f24aadd6b1e9186cc8a88262cfdf19", func := "freehold/freeholdlaw09.CacheLow", spec := "cacheLow", unfollowed := true, recurses := true, apart := false, narrowed := true }
def CacheLowUptoSaid : Prop := cacheLowUptoRow.holds Try.pinned (OpenSpec.upto cacheLowSpec)

/-- 'freeholdlaw09.CacheIdle', WHERE WHAT IT READS IS OF BULK AT MOST 1048576: true; the input reads as it did. -/
def cacheIdleUptoRow : OpenClaim := { program := "ytaejojbdkgccpaa", sum := "c2a8edece4e07216149d83eb82ddb819a3f24aadd6b1e9186cc8a88262cfdf19", func := "freehold/freeholdlaw09.CacheIdle", spec := "cacheIdle", unfollowed := true, recurses := true, apart := false, narrowed := true }
def CacheIdleUptoSaid : Prop := cacheIdleUptoRow.holds Try.pinned (OpenSpec.upto cacheIdleSpec)

/-- 'freeholdlaw09.CacheBytes', WHERE WHAT IT READS IS OF BULK AT MOST 1048576: true; the input reads as it did. -/
def cacheBytesUptoRow : OpenClaim := { program := "ytaejojbdkgccpaa", sum := "c2a8edece4e07216149d83eb82ddb819a3f24aadd6b1e9186cc8a88262cfdf19", func := "freehold/freeholdlaw09.CacheBytes", spec := "cacheBytes", unfollowed := true, recurses := true, apart := false, narrowed := true }
def CacheBytesUptoSaid : Prop := cacheBytesUptoRow.holds Try.pinned (OpenSpec.upto cacheBytesSpec)

/-- 'freeholdlaw09.CacheDrains', WHERE WHAT IT READS IS OF BULK AT MOST 1048576: true; the input reads as it did. -/
def cacheDrainsUptoRow : OpenClaim := { program := "ytaejojbdkgccpaa", sum := "c2a8edece4e07216149d83eb82ddb819a3f24aadd6b1e9186cc8a88262cfdf19", func := "freehold/freeholdlaw09.CacheDrains", spec := "cacheDrains", unfollowed := true, recurses := true, apart := false, narrowed := true }
def CacheDrainsUptoSaid : Prop := cacheDrainsUptoRow.holds Try.pinned (OpenSpec.upto cacheDrainsSpec)

/-- 'freeholdlaw09.CacheClones', WHERE WHAT IT READS IS OF BULK AT MOST 1048576: true; the input reads as it did. -/
def cacheClonesUptoRow : OpenClaim := { program := "ytaejojbdkgccpaa", sum := "c2a8edece4e07216149d83eb82ddb819a3f24aadd6b1e9186cc8a88262cfdf19", func := "freehold/freeholdlaw09.CacheClones", spec := "cacheClones", unfollowed := true, recurses := true, apart := false, narrowed := true }
def CacheClonesUptoSaid : Prop := cacheClonesUptoRow.holds Try.pinned (OpenSpec.upto cacheClonesSpec)

/-- 'freeholdlaw09.CachePlays', WHERE WHAT IT READS IS OF BULK AT MOST 1048576: true; the input reads as it did. -/
def cachePlaysUptoRow : OpenClaim := { program := "ytaejojbdkgccpaa", sum := "c2a8edece4e07216149d83eb82ddb819a3f24aadd6b1e9186cc8a88262cfdf19", func := "freehold/freeholdlaw09.CachePlays", spec := "cachePlays", unfollowed := true, recurses := true, apart := false, narrowed := true }
def CachePlaysUptoSaid : Prop := cachePlaysUptoRow.holds Try.pinned (OpenSpec.upto cachePlaysSpec)

/-- 'freeholdlaw09.CacheNone', WHERE WHAT IT READS IS OF BULK AT MOST 1048576: true; the input reads as it did. -/
def cacheNoneUptoRow : OpenClaim := { program := "ytaejojbdkgccpaa", sum := "c2a8edece4e07216149d83eb82ddb819a3f24aadd6b1e9186cc8a88262cfdf19", func := "freehold/freeholdlaw09.CacheNone", spec := "cacheNone", unfollowed := true, recurses := true, apart := false, narrowed := true }
def CacheNoneUptoSaid : Prop := cacheNoneUptoRow.holds Try.pinned (OpenSpec.upto cacheNoneSpec)

end Rows
end Go.Proofs.Ytaejojbdkgccpaa

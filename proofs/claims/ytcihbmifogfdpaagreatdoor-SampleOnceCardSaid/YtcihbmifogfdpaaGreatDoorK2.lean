/-
  The machine for closed code: what each operation does.
-/
import Derived.Test.YtcihbmifogfdpaaGreatDoorK1
namespace Go.Proofs.YtcihbmifogfdpaaGreatDoor
open Go.RowKit
namespace Cl

/-- what a program of the model gives that asks nothing of the world -/
noncomputable def sRun {α : Type} (P : Program) : Sem α → Option α
  | .pure a => some a
  | .program k => sRun P (k P)
  | .mark _ k => sRun P k
  | _ => none

/-- a value without a part that names a block -/
noncomputable def flat : Value → Bool
  | .bool _ | .int _ _ | .string _ | .pointer none | .slice none _ _ | .map none | .chan none | .nilFunc | .nilIface => true
  | _ => false
noncomputable def closedB : Nat → Value → Bool
  | n + 1, .iface _ v => closedB n v
  | n + 1, .agg cs => cs.toList.all (closedB n)
  | n + 1, .tuple cs => cs.toList.all (closedB n)
  | n + 1, .func f a b => (match f with | .func _ => true | _ => false) && a.toList.all (closedB n) && b.toList.all (closedB n)
  | _, v => flat v
abbrev CD : Nat := 6
noncomputable def oneB : Value → Bool
  | .agg _ | .tuple _ => false
  | _ => true

noncomputable def tk (P : Program) (t : TypeId) : Option (Bool × Nat) := match P.underlying t, P.info? t with
  | some (.struct _), some i => some (true, i.size)
  | some (.array _ _), some i => some (true, i.size)
  | some _, some i => some (false, i.size)
  | _, _ => none

/-- a value, reckoned out as far as it is cheap -/
noncomputable def fV {α : Type} (v : Value) (k : Value → α) : α := match v with
  | .int t (.ofNat m) => fN m fun m => k (.int t (.ofNat m))
  | .int t (.negSucc m) => fN m fun m => k (.int t (.negSucc m))
  | .bool true => k (.bool true)
  | .bool false => k (.bool false)
  | .pointer (some ⟨b, o, s⟩) => fN b fun b => fN o fun o => k (.pointer (some ⟨b, o, s⟩))
  | .slice (some ⟨b, o, s⟩) n c => fN b fun b => fN o fun o => fN n fun n => fN c fun c => k (.slice (some ⟨b, o, s⟩) n c)
  | v => k v
theorem fV_eq {α : Type} (v : Value) (k : Value → α) : fV v k = k v := by
  unfold fV
  split <;> simp only [fN_eq]

/-- the variables of a frame, the newest first -/
abbrev Regs : Type := List (Nat × Value)
noncomputable def rget (g : Regs) (t : Nat) : Option Value := look g t
noncomputable def rput (nt : Nat) (g : Regs) (d : Option Tmp) (v : Value) : Option Regs := match d with
  | none => some g
  | some t => match Nat.ble (Nat.succ t) nt with
    | true => fV v fun v => some ((t, v) :: g)
    | false => none

noncomputable def evA (g : Regs) : Operand → Option Value
  | .tmp t => rget g t
  | .const v => match closedB CD v with
    | true => some v
    | false => none
  | .global _ => none
  | .func f => some (.func (.func f) #[] #[])

noncomputable def ptr (b off : Nat) : Value := .pointer (some ⟨b, off, none⟩)
noncomputable def adr : Option Value → Option (Nat × Nat)
  | some (.pointer (some ⟨b, off, none⟩)) => some (b, off)
  | _ => none
noncomputable def natV : Option Value → Option Nat
  | some (.int _ (.ofNat n)) => some n
  | _ => none
/-- an optional bound -/
noncomputable def natO (d : Nat) : Option (Option Value) → Option Nat
  | none => some d
  | some x => natV x

noncomputable def readA (P : Program) (t : TypeId) (c : List Value) (off : Nat) : Option Value := match tk P t with
  | some (true, n) => match Nat.beq ((c.drop off).take n).length n with
    | true => some (.agg ((c.drop off).take n).toArray)
    | false => none
  | some (false, _) => c[off]?
  | none => none
noncomputable def takeA (c : List Value) (off n : Nat) : Option (List Value) := match Nat.beq ((c.drop off).take n).length n with
  | true => some ((c.drop off).take n)
  | false => none
noncomputable def writeA : Nat → List Value → List Value → Option (List Value)
  | 0, [], c => some c
  | 0, v :: vs, _ :: c => match writeA 0 vs c with
    | some l => some (v :: l)
    | none => none
  | n + 1, vs, x :: c => match writeA n vs c with
    | some l => some (x :: l)
    | none => none
  | _, _, _ => none
noncomputable def zeroL (P : Program) (t : TypeId) : Option (List Value) := match P.info? t with
  | some i => match i.zero with
    | some z => match z.cells.toList.all (closedB CD) with
      | true => some z.cells.toList
      | false => none
    | none => none
  | none => none

noncomputable def getC (b : Nat) : HM (List Value × TypeId × Bool) := do
  match ← getO b with
  | .cells c e v => pure (c, e, v)
  | _ => HM.fail
/-- cells that are read -/
noncomputable def getR (b : Nat) : HM (List Value) := do
  match ← getO b with
  | .cells c _ _ => pure c
  | .glob _ c => pure c
  | .ro c => pure c
  | _ => HM.fail
/-- the number of a package's variable -/
noncomputable def gid (k : Nat) : Nat := k
noncomputable def getG (k : Nat) : HM (List Value) := do
  match ← getO (gid k) with
  | .glob j c => match Nat.beq j k with
    | true => pure c
    | false => HM.fail
  | _ => HM.fail
noncomputable def getM (b : Nat) : HM (List MapEntry × Nat) := do
  match ← getO b with
  | .map es k => pure (es, k)
  | _ => HM.fail

noncomputable def allSome {α : Type} : List (Option α) → Option (List α)
  | [] => some []
  | none :: _ => none
  | some a :: l => match allSome l with
    | some l => some (a :: l)
    | none => none

noncomputable def cloB : Option Value → Bool
  | some v => closedB CD v
  | none => false
/-- the operation on these values, if they are closed -/
noncomputable def cloV (P : Program) (ev : Operand → Option Value) (o : Oper) : HM Value :=
  match o.op.operands.toList.all fun x => cloB (ev x) with
  | true => match sRun P (execOp (fun x => (ev x).getD undef) o) with
    | some (.value v) => match closedB CD v with
      | true => pure v
      | false => HM.fail
    | _ => HM.fail
  | false => HM.fail
/-- == of two values of which one at least names a block -/
noncomputable def eqV (P : Program) (t : TypeId) (x y : Value) : HM Bool :=
  match P.underlying t, x, y with
  | some (.pointer e), .pointer (some ⟨a, i, none⟩), .pointer (some ⟨b, j, none⟩) => match tk P e with
    | some (_, _ + 1) => do
      let _ ← getC a
      let _ ← getC b
      pure (Nat.beq a b && Nat.beq i j)
    | _ => HM.fail
  | some (.pointer _), .pointer (some _), .pointer none | some (.pointer _), .pointer none, .pointer (some _) => pure false
  | some (.slice _), .slice (some _) _ _, .slice none _ _ | some (.slice _), .slice none _ _, .slice (some _) _ _ => pure false
  | some (.map _ _), .map (some _), .map none | some (.map _ _), .map none, .map (some _) => pure false
  | some (.func _ _ _), .func _ _ _, .nilFunc | some (.func _ _ _), .nilFunc, .func _ _ _ => pure false
  | some (.interface _), .iface _ _, .nilIface | some (.interface _), .nilIface, .iface _ _ => pure false
  | _, _, _ => HM.fail

/-- == of two arrays of addresses -/
noncomputable def eqElem (P : Program) (e : TypeId) (x y : Value) : HM Bool :=
  match P.underlying e, x, y with
  | some (.pointer _), .pointer none, .pointer none => pure true
  | _, _, _ => eqV P e x y
noncomputable def eqArr (P : Program) (e : TypeId) : List Value → List Value → HM Bool
  | [], [] => pure true
  | x :: xs, y :: ys => do
    let r ← eqElem P e x y
    match r with
    | true => eqArr P e xs ys
    | false => pure false
  | _, _ => HM.fail
noncomputable def eqAgg (P : Program) (t : TypeId) (x y : Value) : HM Bool :=
  match P.underlying t, x, y with
  | some (.array n e), .agg xs, .agg ys => match tk P e, P.eqGuardType P.depth t with
    | some (false, 1), false => match Nat.beq xs.toList.length n, Nat.beq ys.toList.length n with
      | true, true => eqArr P e xs.toList ys.toList
      | _, _ => HM.fail
    | _, _ => HM.fail
  | _, _, _ => eqV P t x y
noncomputable def eqOp (P : Program) (ev : Operand → Option Value) (o : Oper) (neg : Bool) (t : TypeId) (x y : Operand) : HM Value :=
  match ev x, ev y with
  | some u, some v => match closedB CD u && closedB CD v with
    | true => cloV P ev o
    | false => do
      let r ← eqAgg P t u v
      pure (.bool (r ^^ neg))
  | _, _ => HM.fail

/-- slicing -/
noncomputable def sliceA (size b off : Nat) (sp : Option Nat) (len cap : Nat) (lo hi mx : Option Nat) : HM Value :=
  let l := lo.getD 0
  let m := mx.getD cap
  let h := hi.getD len
  match Nat.ble l h && Nat.ble h m && Nat.ble m cap with
  | false => HM.fail
  | true =>
    match sp, mx with
    | none, none => match Nat.beq cap l && Nat.blt 0 (l * size) with
      | false => pure (.slice (some ⟨b, off + l * size, none⟩) (h - l) (m - l))
      | true => do
        let (_, _, v) ← getC b
        match v with
        | false => pure (.slice (some ⟨b, off, none⟩) (h - l) (m - l))
        | true => do
          let e ← fresh .emp
          pure (.slice (some ⟨e, 0, none⟩) 0 0)
    | _, _ => match Nat.beq m l with
      | true => pure (.slice (some ⟨b, off, some 0⟩) (h - l) (m - l))
      | false => pure (.slice (some ⟨b, off + l * size, some 0⟩) (h - l) (m - l))
/-- a bound that is not given, or given as a number -/
noncomputable def boundA (ev : Operand → Option Value) : Option Operand → Option (Option Nat)
  | none => some none
  | some x => match natV (ev x) with
    | some n => some (some n)
    | none => none
noncomputable def sliceOp (P : Program) (ev : Operand → Option Value) (o : Oper) (t : TypeId) (x : Operand) (lo hi mx : Option Operand) : HM Value :=
  match P.underlying t, ev x, boundA ev lo, boundA ev hi, boundA ev mx with
  | some (.slice e), some (.slice (some ⟨b, off, sp⟩) len cap), some l, some h, some m => match tk P e with
    | some (_, size) => match h.isSome || m.isNone with
      | true => sliceA size b off sp len cap l h m
      | false => HM.fail
    | none => HM.fail
  | some (.array n e), some (.pointer (some ⟨b, off, none⟩)), some l, some h, some m => match tk P e with
    | some (_, size) => match h.isSome || m.isNone with
      | true => sliceA size b off (some 0) n n l h m
      | false => HM.fail
    | none => HM.fail
  | _, _, _, _, _ => cloV P ev o

/-- the cells of what is appended or copied -/
noncomputable def srcA (size : Nat) : Value → HM (List Value × Nat)
  | .slice none 0 _ => pure ([], 0)
  | .slice (some ⟨b, off, _⟩) n _ => match n with
    | 0 => pure ([], 0)
    | _ + 1 => do
      let (c, _, _) ← getC b
      let l ← HM.opt (takeA c off (n * size))
      match l.all oneB with
      | true => pure (l, n)
      | false => HM.fail
  | _ => HM.fail
/-- the cells of what is appended: a string's bytes too -/
noncomputable def srcS (size : Nat) : Value → HM (List Value × Nat)
  | .string s => match Nat.beq size 1 with
    | true => pure (s.data.toList.map fun (b : UInt8) => Value.int .u8 b.toNat, s.size)
    | false => HM.fail
  | v => srcA size v
noncomputable def putA (b off : Nat) (vs : List Value) : HM Unit := do
  let (c, e, v) ← getC b
  match vs.all oneB with
  | true => do
    let c' ← HM.opt (writeA off vs c)
    setO b (.cells c' e v)
  | false => HM.fail
/-- is there a row's elements' zero of this size -/
noncomputable def zeroOk (P : Program) (e : TypeId) (size : Nat) : Bool := match zeroL P e with
  | some z => Nat.beq z.length size
  | none => false
/-- a new row, which may have more room -/
noncomputable def growA (e : TypeId) (l : List Value) (n : Nat) : HM Value := do
  let b ← fresh (.cells l e true)
  pure (.slice (some ⟨b, 0, none⟩) n n)
noncomputable def appendA (P : Program) (t : TypeId) (s x : Value) : HM Value :=
  match P.underlying t with
  | some (.slice e) => match tk P e, P.info? e with
    | some (_, size), some i => do
      let (new, n) ← srcS size x
      match s with
      | .slice none 0 0 => match n with
        | 0 => pure s
        | _ + 1 => match Nat.ble (n * i.bytes) (2 ^ 40) && Nat.ble n (2 ^ 40) && zeroOk P e size with
          | true => growA e new n
          | false => HM.fail
      | .slice (some ⟨b, off, sp⟩) len cap => match Nat.ble (len + n) cap with
        | true => match n with
          | 0 => pure s
          | _ + 1 => do
            putA b (off + len * size) new
            pure (.slice (some ⟨b, off, sp⟩) (len + n) cap)
        | false => do
          let (c, e', v) ← getC b
          let old ← HM.opt (takeA c off (len * size))
          match Nat.ble ((len + n) * i.bytes) (2 ^ 40) && Nat.ble (len + n) (2 ^ 40) && zeroOk P e size with
          | true => match v, sp with
            | true, none => match Nat.beq c.length (off + cap * size) && Nat.beq e e' with
              | true => do
                setO b .gone
                growA e (old ++ new) (len + n)
              | false => HM.fail
            | _, _ => growA e (old ++ new) (len + n)
          | false => HM.fail
      | _ => HM.fail
    | _, _ => HM.fail
  | _ => HM.fail

/-- is the key of a kind whose equality is plain -/
noncomputable def keyB (P : Program) (k : TypeId) : Option TypeDesc := match P.underlying k with
  | some (.int i) => some (.int i)
  | some .string => some .string
  | some .bool => some .bool
  | _ => none
noncomputable def lookupA (P : Program) (t : TypeId) (m k : Value) (ok : Bool) : HM Value :=
  match P.underlying t, closedB CD k with
  | some (.map kt et), true => match keyB P kt, zeroL P et, P.info? et with
    | some kd, some _, some i => match i.zero with
      | some z => do
        let es ← (match m with
          | .map none => pure []
          | .map (some b) => do
            let (es, _) ← getM b
            pure es
          | _ => HM.fail)
        match Instr.findNow kd k es 0, closedB CD z with
        | some (some (_, v)), _ => pure (if ok then .tuple #[v, .bool true] else v)
        | some none, true => pure (if ok then .tuple #[z, .bool false] else z)
        | _, _ => HM.fail
      | none => HM.fail
    | _, _, _ => HM.fail
  | _, _ => HM.fail
noncomputable def updateA (P : Program) (t : TypeId) (m k x : Value) : HM Value :=
  match P.underlying t, closedB CD k, m with
  | some (.map kt _), true, .map (some b) => match keyB P kt with
    | some kd => do
      let (es, clock) ← getM b
      match Instr.findNow kd k es 0 with
      | some (some (i, _)) => match es[i]? with
        | some e => do
          setO b (.map (es.set i { key := k, val := x, born := e.born }) clock)
          pure undef
        | none => HM.fail
      | some none => do
        setO b (.map (es ++ [{ key := k, val := x, born := clock }]) (clock + 1))
        pure undef
      | none => HM.fail
    | none => HM.fail
  | _, _, _ => HM.fail
noncomputable def deleteA (P : Program) (t : TypeId) (m k : Value) : HM Value :=
  match P.underlying t, closedB CD k, m with
  | some (.map kt _), true, .map (some b) => match keyB P kt with
    | some kd => do
      let (es, clock) ← getM b
      match Instr.findNow kd k es 0 with
      | some (some (i, _)) => do
        setO b (.map (es.eraseIdx i) clock)
        pure (.tuple #[])
      | some none => pure (.tuple #[])
      | none => HM.fail
    | none => HM.fail
  | _, _, _ => HM.fail

/-- bytes out of cells -/
noncomputable def bytesA : List Value → Option (List UInt8)
  | [] => some []
  | .int .u8 b :: l => match bytesA l with
    | some r => some (b.toNat.toUInt8 :: r)
    | none => none
  | _ => none
/-- a conversion -/
noncomputable def convA (P : Program) (ev : Operand → Option Value) (o : Oper) (src dst : TypeId) (x : Operand) : HM Value :=
  match ev x with
  | some (.pointer (some ⟨b, off, none⟩)) => match P.underlying src, P.underlying dst with
    | some (.pointer t), some .unsafePointer => do
      let (c, _, _) ← getC b
      match tk P t, Nat.blt off c.length with
      | some (_, _ + 1), true => pure (.pointer (some ⟨b, off, none⟩))
      | _, _ => HM.fail
    | some .unsafePointer, some (.pointer u) => do
      let (c, e, v) ← getC b
      match v, tk P u, liesAt P P.depth e (c.length / P.cellsOf e) off u 1 with
      | false, some _, true => pure (.pointer (some ⟨b, off, none⟩))
      | _, _, _ => HM.fail
    | _, _ => HM.fail
  | some (.slice (some ⟨b, off, _⟩) n _) => match P.underlying src, P.underlying dst with
    | some (.slice e), some .string => match P.underlying e with
      | some (.int .u8) => do
        let (c, _, _) ← getC b
        let l ← HM.opt (takeA c off n)
        let r ← HM.opt (bytesA l)
        pure (.string ⟨⟨r⟩⟩)
      | _ => HM.fail
    | _, _ => HM.fail
  | _ => cloV P ev o
noncomputable def unsafeStringA (P : Program) (pt : TypeId) (x n : Option Value) : HM Value :=
  match x, n, P.underlying pt with
  | some (.pointer (some ⟨b, off, none⟩)), some (.int _ (.ofNat n)), some (.pointer e) => match n, Nat.beq (P.cellsOf e) 1, Nat.ble n (2 ^ 40) with
    | _ + 1, true, true => do
      let (c, e', _) ← getC b
      match Nat.beq e e' with
      | true => do
        let l ← HM.opt (takeA c off n)
        let r ← HM.opt (bytesA l)
        setO b .gone
        pure (.string ⟨⟨r⟩⟩)
      | false => HM.fail
    | _, _, _ => HM.fail
  | _, _, _ => HM.fail
noncomputable def builtinA (P : Program) (ev : Operand → Option Value) (o : Oper) (b : Builtin) (argTypes : List TypeId) (args : List Operand) : HM Value :=
  match b, args, argTypes with
  | .len, [x], [t] => match P.underlying t, ev x with
    | some (.slice _), some (.slice (some _) n _) => pure (.int .i64 n)
    | some (.map _ _), some (.map (some b)) => do
      let (es, _) ← getM b
      pure (.int .i64 es.length)
    | _, _ => cloV P ev o
  | .cap, [x], [t] => match P.underlying t, ev x with
    | some (.slice _), some (.slice (some ⟨b, _, sp⟩) _ n) => match sp with
      | some _ => pure (.int .i64 n)
      | none => do
        let (_, _, v) ← getC b
        match v with
        | false => pure (.int .i64 n)
        | true => HM.fail
    | _, _ => cloV P ev o
  | .append, [s, x], [t, t'] => match ev s, ev x with
    | some s, some x => match P.underlying t', x with
      | some (.slice _), .slice _ _ _ => appendA P t s x
      | some .string, .string _ => appendA P t s x
      | _, _ => HM.fail
    | _, _ => HM.fail
  | .copy, [d, x], [t, _] => match P.underlying t, ev d, ev x with
    | some (.slice e), some (.slice (some ⟨b, off, _⟩) n _), some x => match tk P e with
      | some (_, size) => do
        let (l, k) ← srcA size x
        match Nat.ble k n with
        | true => do
          putA b off l
          pure (.int .i64 k)
        | false => do
          putA b off (l.take (n * size))
          pure (.int .i64 n)
      | none => HM.fail
    | _, _, _ => HM.fail
  | .delete, [m, k], [t, _] => match ev m, ev k with
    | some m, some k => deleteA P t m k
    | _, _ => HM.fail
  | .clear, [m], [t] => match P.underlying t, ev m with
    | some (.map _ _), some (.map (some b)) => do
      let (_, clock) ← getM b
      setO b (.map [] clock)
      pure (.tuple #[])
    | _, _ => HM.fail
  | .min, _, _ | .max, _, _ => cloV P ev o
  | .unsafeSliceData, [x], [_] => match ev x with
    | some (.slice (some ⟨b, off, _⟩) _ (_ + 1)) => pure (ptr b off)
    | _ => HM.fail
  | .unsafeString, [x, n], [pt, _] => unsafeStringA P pt (ev x) (ev n)
  | _, _, _ => HM.fail

/-- rows for 'make' and for a slice's literal -/
noncomputable def rowA (z : List Value) : Nat → List Value
  | 0 => []
  | n + 1 => z ++ rowA z n
noncomputable def fillA (place : Nat → Option (Nat × Nat)) : List (Nat × Option Value) → List Value → Option (List Value)
  | [], c => some c
  | (i, some v) :: ps, c => match place i with
    | some (off, size) => match Nat.beq v.cells.toList.length size, writeA off v.cells.toList c with
      | true, some c => fillA place ps c
      | _, _ => none
    | none => none
  | _, _ => none
noncomputable def rowPlace (size : Nat) (i : Nat) : Option (Nat × Nat) := some (i * size, size)
noncomputable def fieldPlaces (P : Program) : List Field → Option (List (Nat × Nat))
  | [] => some []
  | f :: fs => match P.info? f.type, fieldPlaces P fs with
    | some i, some l => some ((f.offset, i.size) :: l)
    | _, _ => none
/-- a struct or an array of these parts -/
noncomputable def buildA (P : Program) (ev : Operand → Option Value) (t : TypeId) (parts : List (Nat × Operand)) : Option Value :=
  match P.underlying t, zeroL P t with
  | some (.struct fs), some z => match fieldPlaces P fs.toList with
    | some l => match fillA (fun i => l[i]?) (parts.map fun p => (p.1, ev p.2)) z with
      | some c => some (.agg c.toArray)
      | none => none
    | none => none
  | some (.array _ e), some z => match P.info? e with
    | some i => match fillA (rowPlace i.size) (parts.map fun p => (p.1, ev p.2)) z with
      | some c => some (.agg c.toArray)
      | none => none
    | none => none
  | _, _ => none
/-- a part of an aggregate -/
noncomputable def partA (P : Program) (t : TypeId) (cs : List Value) (off : Nat) : Option Value := match tk P t with
  | some (true, n) => some (.agg ((cs.drop off).take n).toArray)
  | some (false, _) => cs[off]?
  | none => none

/-- ranging over a string -/
noncomputable def rangeA (P : Program) (t : TypeId) (x : Option Value) : HM Value :=
  match P.underlying t, x with
  | some .string, some (.string s) => do
    let b ← fresh (.siter s 0)
    pure (ptr b 0)
  | _, _ => HM.fail
noncomputable def nextA (x : Option Value) (str : Bool) : HM Value :=
  match x, str with
  | some (.pointer (some ⟨b, 0, none⟩)), true => do
    match ← getO b with
    | .siter s pos => match Nat.blt pos s.size with
      | true => do
        setO b (.siter s (pos + (Utf8.decode s pos).2))
        pure (.tuple #[.bool true, .int .i64 pos, .int .i32 (Utf8.decode s pos).1])
      | false => pure (.tuple #[.bool false])
    | _ => HM.fail
  | _, _ => HM.fail
/-! operations on values alone -/
noncomputable def addF (a b : Int) : Int := match a, b with
  | .ofNat x, .ofNat y => .ofNat (x + y)
  | a, b => a + b
noncomputable def subF (a b : Int) : Int := match a, b with
  | .ofNat x, .ofNat y => match Nat.ble y x with
    | true => .ofNat (x - y)
    | false => .negSucc (y - x - 1)
  | a, b => a - b
noncomputable def mulF (a b : Int) : Int := match a, b with
  | .ofNat x, .ofNat y => .ofNat (x * y)
  | a, b => a * b
noncomputable def ltF (a b : Int) : Bool := match a, b with
  | .ofNat x, .ofNat y => Nat.blt x y
  | .negSucc _, .ofNat _ => true
  | .ofNat _, .negSucc _ => false
  | .negSucc x, .negSucc y => Nat.blt y x
noncomputable def eqF (a b : Int) : Bool := match a, b with
  | .ofNat x, .ofNat y => Nat.beq x y
  | .negSucc x, .negSucc y => Nat.beq x y
  | _, _ => false
noncomputable def wrapF (k : IntKind) (n : Int) : Int := match k, n with
  | .i64, .ofNat m => match Nat.blt m 9223372036854775808 with
    | true => .ofNat m
    | false => IntKind.wrap .i64 (.ofNat m)
  | .i64, .negSucc m => match Nat.blt m 9223372036854775808 with
    | true => .negSucc m
    | false => IntKind.wrap .i64 (.negSucc m)
  | k, n => k.wrap n
noncomputable def ikN : IntKind → Nat
  | .i8 => 0 | .i16 => 1 | .i32 => 2 | .i64 => 3 | .u8 => 4 | .u16 => 5 | .u32 => 6 | .u64 => 7
noncomputable def binI (op : BinOp) (k : IntKind) (a b : Int) : Option Value := match op with
  | .add => some (.int k (wrapF k (addF a b)))
  | .sub => some (.int k (wrapF k (subF a b)))
  | .mul => some (.int k (wrapF k (mulF a b)))
  | .quo => match a, b with
    | .ofNat x, .ofNat (y + 1) => some (.int k (wrapF k (.ofNat (x / (y + 1)))))
    | _, _ => none
  | .rem => match a, b with
    | .ofNat x, .ofNat (y + 1) => some (.int k (.ofNat (x % (y + 1))))
    | _, _ => none
  | .eql => some (.bool (eqF a b))
  | .neq => some (.bool (!eqF a b))
  | .lss => some (.bool (ltF a b))
  | .leq => some (.bool (!ltF b a))
  | .gtr => some (.bool (ltF b a))
  | .geq => some (.bool (!ltF a b))
  | _ => none
noncomputable def binP (op : BinOp) (u v : Option Value) : Option Value := match u, v with
  | some (.int k a), some (.int k' b) => match Nat.beq (ikN k) (ikN k') with
    | true => binI op k a b
    | false => none
  | _, _ => none
noncomputable def unP (op : UnOp) (u : Option Value) : Option Value := match op, u with
  | .not, some (.bool b) => some (.bool !b)
  | _, _ => none
noncomputable def convP (P : Program) (src dst : TypeId) (u : Option Value) : Option Value := match u with
  | some (.int _ n) => match P.underlying src, P.underlying dst with
    | some _, some (.int k) => some (.int k (wrapF k n))
    | _, _ => none
  | _ => none
noncomputable def faP (P : Program) (t : TypeId) (u : Option Value) (f : Nat) : Option Value := match P.underlying t, adr u with
  | some (.struct fs), some (b, off) => match fs[f]? with
    | some fd => match tk P fd.type with
      | some (_, _ + 1) => some (ptr b (off + fd.offset))
      | _ => none
    | none => none
  | _, _ => none
noncomputable def iaP (P : Program) (t : TypeId) (u : Option Value) (i : Option Nat) : Option Value := match P.underlying t, u, i with
  | some (.array n e), some (.pointer (some ⟨b, off, none⟩)), some i => match tk P e, Nat.blt i n with
    | some (_, size), true => some (ptr b (off + i * size))
    | _, _ => none
  | some (.slice e), some (.slice (some ⟨b, off, _⟩) n _), some i => match tk P e, Nat.blt i n with
    | some (_, size), true => some (ptr b (off + i * size))
    | _, _ => none
  | _, _, _ => none
noncomputable def fieldP (P : Program) (t : TypeId) (u : Option Value) (f : Nat) : Option Value := match P.underlying t, u with
  | some (.struct fs), some (.agg cs) => match fs[f]? with
    | some fd => partA P fd.type cs.toList fd.offset
    | none => none
  | _, _ => none
noncomputable def indexP (P : Program) (t : TypeId) (u : Option Value) (i : Option Nat) : Option Value := match P.underlying t, u, i with
  | some (.array n e), some (.agg cs), some i => match tk P e, Nat.blt i n with
    | some (_, size), true => partA P e cs.toList (i * size)
    | _, _ => none
  | _, _, _ => none
noncomputable def extractP (u : Option Value) (i : Nat) : Option Value := match u with
  | some (.tuple vs) => vs.toList[i]?
  | _ => none
noncomputable def ifaceP (P : Program) (t : TypeId) (u : Option Value) : Option Value := match P.underlying t, u with
  | some (.interface _), _ => none
  | some _, some v => some (.iface t v)
  | _, _ => none
noncomputable def assertP (P : Program) (u : Option Value) (t : TypeId) (ok : Bool) : Option Value := match P.underlying t, u with
  | some (.interface _), _ => none
  | some _, some (.iface u v) => match Nat.beq u t with
    | true => some (if ok then .tuple #[v, .bool true] else v)
    | false => match ok, P.info? t with
      | true, some i => match i.zero with
        | some z => match closedB CD z with
          | true => some (.tuple #[z, .bool false])
          | false => none
        | none => none
      | _, _ => none
  | _, _ => none
noncomputable def funcP (f : Fn) (a b : Option (List Value)) : Option Value := match f, a, b with
  | .func f, some a, some b => some (.func (.func f) a.toArray b.toArray)
  | _, _, _ => none
noncomputable def nilP (u : Option Value) : Option Value := match u with
  | some (.pointer none) | some .nilIface | some .nilFunc => none
  | some (.func (.func f) a b) => some (.func (.func f) a b)
  | some (.func _ _ _) => none
  | some v => some v
  | none => none
noncomputable def lenP (P : Program) (ev : Operand → Option Value) (b : Builtin) (ts : List TypeId) (args : List Operand) : Option Value := match b, args, ts with
  | .len, [x], [t] => match P.underlying t, ev x with
    | some (.slice _), some (.slice (some _) n _) => some (.int .i64 n)
    | _, _ => none
  | _, _, _ => none
noncomputable def pickP (c : Option Value) (a b : Option Value) : Option Value := match c with
  | some (.bool true) => a
  | some (.bool false) => b
  | _ => none
noncomputable def pureC (P : Program) (ev : Operand → Option Value) (c : Call) : Option Value := match c.callee with
  | .builtin b => lenP P ev b c.argTypes.toList c.args.toList
  | _ => none
/-- the commonest operations -/
inductive OK where
  | mv (x : Operand)
  | pk (c a b : Operand)
  | bin (op : BinOp) (x y : Operand)
  | fa (t : TypeId) (x : Operand) (f : Nat)
  | ia (t : TypeId) (x i : Operand)
  | no
  | rest
noncomputable def okOf : Op → OK
  | .move x => .mv x
  | .assign x => .mv x
  | .pick c a b => .pk c a b
  | .binOp op _ x y _ => .bin op x y
  | .fieldAddr t x f => .fa t x f
  | .indexAddr t x i => .ia t x i
  | .load _ _ => .no
  | .store _ _ _ => .no
  | .box _ _ => .no
  | .alloc _ => .no
  | _ => .rest
noncomputable def pureR (P : Program) (ev : Operand → Option Value) (o : Op) : Option Value := match o with
  | .move x => ev x
  | .assign x => ev x
  | .pick c a b => pickP (ev c) (ev a) (ev b)
  | .binOp op _ x y _ => binP op (ev x) (ev y)
  | .unOp op _ x => unP op (ev x)
  | .convert a b x => convP P a b (ev x)
  | .fieldAddr t x f => faP P t (ev x) f
  | .indexAddr t x i => iaP P t (ev x) (natV (ev i))
  | .field t x f => fieldP P t (ev x) f
  | .index t x i => indexP P t (ev x) (natV (ev i))
  | .extract x i => extractP (ev x) i
  | .makeInterface t x => ifaceP P t (ev x)
  | .typeAssert x _ t ok => assertP P (ev x) t ok
  | .makeFunc f fi cp => funcP f (allSome (fi.toList.map ev)) (allSome (cp.toList.map ev))
  | .nilCheck x => nilP (ev x)
  | .build t parts => buildA P ev t parts.toList
  | .call c => pureC P ev c
  | _ => none

noncomputable def pureO (P : Program) (ev : Operand → Option Value) (o : Op) : Option Value := match okOf o with
  | .mv x => ev x
  | .pk c a b => pickP (ev c) (ev a) (ev b)
  | .bin op x y => binP op (ev x) (ev y)
  | .fa t x f => faP P t (ev x) f
  | .ia t x i => iaP P t (ev x) (natV (ev i))
  | .no => none
  | .rest => pureR P ev o

/-! the others -/
noncomputable def allocA (P : Program) (t : TypeId) : HM Value := match zeroL P t with
  | some z => do
    let b ← fresh (.cells z t false)
    pure (ptr b 0)
  | none => HM.fail
noncomputable def boxA (t : TypeId) (u : Option Value) : HM Value := match u with
  | some v => do
    let b ← fresh (.cells v.cells.toList t false)
    pure (ptr b 0)
  | none => HM.fail
noncomputable def loadA (P : Program) (t : TypeId) (u : Option (Nat × Nat)) : HM Value := match u with
  | some (b, off) => do
    let c ← getR b
    HM.opt (readA P t c off)
  | none => HM.fail
noncomputable def loadO (P : Program) (ev : Operand → Option Value) (t : TypeId) (x : Operand) : HM Value := match x with
  | .global k => do
    let c ← getG k
    HM.opt (readA P t c 0)
  | x => loadA P t (adr (ev x))
noncomputable def storeA (P : Program) (t : TypeId) (u : Option (Nat × Nat)) (v : Option Value) : HM Value := match u, v, tk P t with
  | some (b, off), some v, some (_, n) => match Nat.beq v.cells.toList.length n with
    | true => do
      putA b off v.cells.toList
      pure undef
    | false => HM.fail
  | _, _, _ => HM.fail
noncomputable def globA (P : Program) (t : TypeId) (x : Operand) (i : Option Nat) : HM Value := match x with
  | .global k => match P.underlying t, i with
    | some (.array n e), some i => match tk P e, Nat.blt i n with
      | some (_, size), true => do
        let _ ← getG k
        pure (ptr (gid k) (i * size))
      | _, _ => HM.fail
    | _, _ => HM.fail
  | _ => HM.fail
noncomputable def binA (P : Program) (ev : Operand → Option Value) (o : Oper) (op : BinOp) (t : TypeId) (x y : Operand) : HM Value := match op with
  | .eql => eqOp P ev o false t x y
  | .neq => eqOp P ev o true t x y
  | _ => cloV P ev o
noncomputable def intO (ev : Operand → Option Value) : Option Operand → Bool
  | none => true
  | some x => match ev x with
    | some (.int _ _) => true
    | _ => false
noncomputable def makeMapA (P : Program) (t : TypeId) (ok : Bool) : HM Value := match P.underlying t, ok with
  | some (.map _ _), true => do
    let b ← fresh (.map [] 0)
    pure (.map (some b))
  | _, _ => HM.fail
noncomputable def makeSliceA (P : Program) (t : TypeId) (l c : Option Nat) : HM Value := match P.underlying t, l, c with
  | some (.slice e), some n, some m => match zeroL P e, P.info? e with
    | some z, some i => match Nat.ble n m && Nat.ble (m * i.bytes) (2 ^ 40) && Nat.ble m (2 ^ 24) && Nat.beq z.length i.size with
      | true => do
        let b ← fresh (.cells (rowA z m) e false)
        pure (.slice (some ⟨b, 0, none⟩) n m)
      | false => HM.fail
    | _, _ => HM.fail
  | _, _, _ => HM.fail
noncomputable def buildSliceA (P : Program) (ev : Operand → Option Value) (t : TypeId) (len : Nat) (parts : List (Nat × Operand)) : HM Value := match P.underlying t with
  | some (.slice e) => match zeroL P e, P.info? e with
    | some z, some i => match Nat.ble (len * i.size) (2 ^ 24) && Nat.beq z.length i.size, fillA (rowPlace i.size) (parts.map fun p => (p.1, ev p.2)) (rowA z len) with
      | true, some c => do
        let b ← fresh (.cells c e false)
        pure (.slice (some ⟨b, 0, none⟩) len len)
      | _, _ => HM.fail
    | _, _ => HM.fail
  | _ => HM.fail
noncomputable def lookupO (P : Program) (t : TypeId) (m k : Option Value) (ok : Bool) : HM Value := match m, k with
  | some m, some k => lookupA P t m k ok
  | _, _ => HM.fail
noncomputable def updateO (P : Program) (t : TypeId) (m k x : Option Value) : HM Value := match m, k, x with
  | some m, some k, some x => updateA P t m k x
  | _, _, _ => HM.fail
noncomputable def callO (P : Program) (call : FuncId → List Value → HM Value) (ev : Operand → Option Value) (o : Oper) (c : Call) : HM Value := match c.callee with
  | .value f => match ev f, allSome (c.args.toList.map ev) with
    | some (.func (.func g) first cap), some args => call g (first.toList ++ args ++ cap.toList)
    | _, _ => HM.fail
  | .builtin b => builtinA P ev o b c.argTypes.toList c.args.toList
  | .invoke _ _ => HM.fail
noncomputable def opM (P : Program) (call : FuncId → List Value → HM Value) (ev : Operand → Option Value) (o : Oper) : HM Value := match o.op with
  | .alloc t => allocA P t
  | .box t x => boxA t (ev x)
  | .load t x => loadO P ev t x
  | .store t a x => storeA P t (adr (ev a)) (ev x)
  | .binOp op t x y _ => binA P ev o op t x y
  | .unOp _ _ _ => cloV P ev o
  | .convert a b x => convA P ev o a b x
  | .index _ _ _ => cloV P ev o
  | .indexAddr t x i => globA P t x (natV (ev i))
  | .slice t x lo hi mx => sliceOp P ev o t x lo hi mx
  | .makeMap t r => makeMapA P t (intO ev r)
  | .makeSlice t l c => makeSliceA P t (natV (ev l)) (natV (ev c))
  | .buildSlice t len parts => buildSliceA P ev t len parts.toList
  | .lookup t m k ok => lookupO P t (ev m) (ev k) ok
  | .mapUpdate t m k x => updateO P t (ev m) (ev k) (ev x)
  | .range t x => rangeA P t (ev x)
  | .next x str => nextA (ev x) str
  | .call c => callO P call ev o c
  | _ => HM.fail
noncomputable def opV (P : Program) (call : FuncId → List Value → HM Value) (ev : Operand → Option Value) (o : Oper) : HM Value := match pureO P ev o.op with
  | some v => HM.pure v
  | none => opM P call ev o

/-- is the operation wanted -/
noncomputable def wantA (ops : List Oper) (g : Regs) (o : Oper) : Option Bool := match o.guard with
  | none => some true
  | some (j, want) => match ops[j]? with
    | none => some false
    | some oj => match oj.dst with
      | none => some false
      | some d => match rget g d with
        | some (.bool true) => some want
        | some (.bool false) => some (!want)
        | some (.tuple _) => some false
        | _ => none

noncomputable def stepV (P : Program) (call : FuncId → List Value → HM Value) (ops : List Oper) (g : Regs) (o : Oper) : HM Value := match wantA ops g o with
  | some true => opV P call (evA g) o
  | some false => pure undef
  | none => HM.fail
/-- one operation, and what comes behind it -/
noncomputable def goT1 (P : Program) (call : FuncId → List Value → HM Value) (nt : Nat) (ops : List Oper) (o : Oper) (ih : Regs → HM Regs) (g : Regs) : HM Regs := match wantA ops g o with
  | some true => match pureO P (evA g) o.op with
    | some v => match rput nt g o.dst v with
      | some g => ih g
      | none => HM.fail
    | none => do
      let v ← opM P call (evA g) o
      let g ← HM.opt (rput nt g o.dst v)
      ih g
  | some false => match rput nt g o.dst undef with
    | some g => ih g
    | none => HM.fail
  | none => HM.fail
/-- operations in the order of the text -/
noncomputable def goT (P : Program) (call : FuncId → List Value → HM Value) (nt : Nat) (ops : List Oper) (l : List Oper) : Regs → HM Regs := List.rec (motive := fun _ => Regs → HM Regs) (fun g => HM.pure g) (fun o _ ih => goT1 P call nt ops o ih) l

/-- does operation j wait for operation i -/
noncomputable def waitsA (ops : List Oper) : Nat → Nat → Nat → Bool
  | 0, _, _ => false
  | f + 1, j, i => match ops[j]? with
    | some o => o.after.toList.any fun e => Region.binds .any e && (Nat.beq e.on i || waitsA ops f e.on i)
    | none => false
noncomputable def apartM (a b : Foot) : Bool := match Nat.beq (Nat.land a.w (Nat.lor b.r b.w)) 0 with
  | true => Nat.beq (Nat.land a.r b.w) 0
  | false => false
/-- of the operations ahead of operation k (the last one first): which of them must be apart from it in what they do, as it does not wait for them -/
noncomputable def rowB (ops : Array Oper) (k : Nat) (o : Oper) : List (Nat × Oper) → Option (List Bool)
  | [] => some []
  | (i, oi) :: l => match rowB ops k o l with
    | none => none
    | some r => match waitsA ops.toList 4 k i with
      | true => some (false :: r)
      | false => match oi.apart ops o with
        | true => some (true :: r)
        | false => none
noncomputable def backE (k : Nat) (o : Oper) : Bool := o.after.toList.all fun e => !Region.binds .any e || Nat.ble (Nat.succ e.on) k
noncomputable def tableB (ops : Array Oper) : Nat → List Oper → List (Nat × Oper) → Option (List (List Bool))
  | _, [], _ => some []
  | k, o :: rest, acc => match backE k o, rowB ops k o acc, tableB ops (Nat.succ k) rest ((k, o) :: acc) with
    | true, some l, some t => some (l :: t)
    | _, _, _ => none
noncomputable def tableOf (ops : Array Oper) : Option (List (List Bool)) := tableB ops 0 ops.toList []
noncomputable def chkA (x : Foot) : List Bool → List (Nat × Oper × Foot) → Bool
  | [], [] => true
  | false :: bs, _ :: acc => chkA x bs acc
  | true :: bs, (_, _, y) :: acc => match apartM y x with
    | true => chkA x bs acc
    | false => false
  | _, _ => false
/-- what did nothing is apart from all -/
noncomputable def chkF (x : Foot) (bs : List Bool) (acc : List (Nat × Oper × Foot)) : Bool := match Nat.beq (Nat.lor x.r x.w) 0 with
  | true => true
  | false => chkA x bs acc
/-- operations in the order of the text, where any order may be taken -/
noncomputable def goD (P : Program) (call : FuncId → List Value → HM Value) (nt : Nat) (ops : Array Oper) : Nat → List Oper → List (List Bool) → Regs → List (Nat × Oper × Foot) → HM (Regs)
  | _, [], _, g, _ => pure g
  | k, o :: rest, bs :: tab, g, acc => do
    let x ← foot (stepV P call ops.toList g o)
    match chkF x bs acc with
    | true => do
      let g ← HM.opt (rput nt g o.dst x.v)
      goD P call nt ops (Nat.succ k) rest tab g ((k, o, x) :: acc)
    | false => HM.fail
  | _, _ :: _, [], _, _ => HM.fail
noncomputable def goDs (P : Program) (call : FuncId → List Value → HM Value) (nt : Nat) (ops : Array Oper) (g : Regs) : HM (Regs) := match tableOf ops with
  | some tab => goD P call nt ops 0 ops.toList tab g []
  | none => HM.fail

inductive Ex where
  | normal
  | exit (id : Nat)
  | ret
noncomputable def iterA (body : Regs → HM (Ex × Regs)) : Nat → Regs → HM (Ex × Regs)
  | 0, _ => HM.fail
  | n + 1, g => do
    let (e, g1) ← body g
    match e with
    | .normal => compK g1 0 fun g1 => iterA body n g1
    | e => pure (e, g1)
noncomputable def exec (P : Program) (call : FuncId → List Value → HM Value) (nt L : Nat) : Code → Regs → HM (Ex × Regs)
  | .skip, g => pure (.normal, g)
  | .region _ ops draw, g => match draw with
    | true => do
      let g ← goDs P call nt ops g
      pure (.normal, g)
    | false => do
      let g ← goT P call nt ops.toList ops.toList g
      pure (.normal, g)
  | .seq a b, g => do
    let (e, g1) ← exec P call nt L a g
    match e with
    | .normal => exec P call nt L b g1
    | e => pure (e, g1)
  | .cond c t f, g => match evA g c with
    | some (.bool true) => exec P call nt L t g
    | some (.bool false) => exec P call nt L f g
    | _ => HM.fail
  | .block id b, g => do
    let (e, g1) ← exec P call nt L b g
    match e with
    | .exit i => match Nat.beq i id with
      | true => pure (.normal, g1)
      | false => pure (.exit i, g1)
    | e => pure (e, g1)
  | .loop b, g => iterA (exec P call nt L b) L g
  | .exit id, g => pure (.exit id, g)
  | .ret, g => pure (.ret, g)
  | _, _ => HM.fail

noncomputable def initA (nt : Nat) : Nat → List Value → Regs → Option (Regs)
  | _, [], g => some g
  | t, v :: vs, g => match rput nt g (some t) v with
    | some g => initA nt (t + 1) vs g
    | none => none
noncomputable def resA (P : Program) (g : Regs) : List ResultVar → HM (List Value)
  | [] => pure []
  | .tmp t :: rs => do
    let v ← HM.opt (rget g t)
    let vs ← resA P g rs
    pure (v :: vs)
  | .cell a t :: rs => match adr (rget g a) with
    | some (b, off) => do
      let (c, _, _) ← getC b
      let v ← HM.opt (readA P t c off)
      let vs ← resA P g rs
      pure (v :: vs)
    | none => HM.fail
noncomputable def oneRes : List Value → Value
  | [v] => v
  | vs => .tuple vs.toArray
/-- a call, the depth of calls and the rounds of a loop bounded -/
noncomputable def callA (P : Program) (ov : FuncId → Option (List Value → HM Value)) (L : Nat) : Nat → FuncId → List Value → HM Value
  | 0, _, _ => HM.fail
  | d + 1, f, args => match ov f with
    | some m => m args
    | none => match P.funcs[f]? with
      | some fn => match fn.body with
        | some c => match Nat.ble args.length fn.ntmps with
          | true => do
            let g ← HM.opt (initA fn.ntmps 0 args [])
            let (e, g1) ← exec P (callA P ov L d) fn.ntmps L c g
            match e with
            | .exit _ => HM.fail
            | _ => do
              let vs ← resA P g1 fn.results.toList
              pure (oneRes vs)
          | false => HM.fail
        | none => HM.fail
      | none => HM.fail

end Cl
end Go.Proofs.YtcihbmifogfdpaaGreatDoor

/-
  The examples of the chapter hold: awake, by the machine.
-/
import Derived.Test.YtcihbmifogfdpaaGreatDoorO8
namespace Go.Proofs.YtcihbmifogfdpaaGreatDoor
open Go.RowKit

/-- a package's variable holds these cells -/
def GlobIs (w : World) (g : Nat) (c : List Value) : Prop := g < w.heap.size ∧ ∀ (j : Nat) (u : Value), c[j]? = some u → Cl.closedB Cl.CD u = true ∧ w.cell? ⟨g, j, none⟩ = some u
theorem GlobIs.grow {w w' : World} {g : Nat} {c : List Value} (h : GlobIs w g c) (hb : Below w.heap.size w w') : GlobIs w' g c :=
  ⟨Nat.lt_of_lt_of_le h.1 hb.size, fun j u hu => ⟨(h.2 j u hu).1, (hb.cell (p := ⟨g, j, none⟩) h.1).trans (h.2 j u hu).2⟩⟩
def tab32 : List Value := [0, 1, 28, 2, 29, 14, 24, 3, 30, 22, 20, 15, 25, 17, 4, 8, 31, 27, 13, 23, 21, 19, 16, 7, 26, 12, 18, 6, 11, 5, 10, 9].map fun n : Int => Value.int .u8 n
def tabP10 : List Value := [1, 10, 100, 1000, 10000, 100000, 1000000, 10000000, 100000000, 1000000000, 10000000000, 100000000000, 1000000000000, 10000000000000, 100000000000000, 1000000000000000, 10000000000000000, 100000000000000000, 1000000000000000000, 10000000000000000000].map fun n : Int => Value.int .u64 n
/-- the variables that the examples read -/
structure Globs (w : World) : Prop where
  um : GlobIs w 2 [.bool false, .bool false]
  cl : GlobIs w 4 [.bool true, .bool false]
  db : GlobIs w 9 tab32
  pt : GlobIs w 6 tabP10
  er : Errs w
  pw : Pow10 w
theorem Globs.grow {w w' : World} (h : Globs w) (hb : Below w.heap.size w w') : Globs w' := ⟨h.um.grow hb, h.cl.grow hb, h.db.grow hb, h.pt.grow hb, h.er.grow hb, h.pw.grow hb⟩

namespace Cl
noncomputable def hGlobs : H := hset (hset (hset (hset h00 2 (.glob 2 [.bool false, .bool false])) 4 (.glob 4 [.bool true, .bool false])) 9 (.glob 9 tab32)) 6 (.glob 6 tabP10)
theorem hGlobs_ok {w : World} (hg : Globs w) : ∀ i o, hget hGlobs i = some o → ∃ k c, o = .glob k c ∧ k < w.heap.size ∧ ∀ (j : Nat) (u : Value), c[j]? = some u → closedB CD u = true ∧ w.cell? ⟨k, j, none⟩ = some u := by
  intro i o h
  unfold hGlobs at h
  simp only [hget_set, hget_h00] at h
  split at h
  · cases h; exact ⟨_, _, rfl, hg.pt.1, hg.pt.2⟩
  split at h
  · cases h; exact ⟨_, _, rfl, hg.db.1, hg.db.2⟩
  split at h
  · cases h; exact ⟨_, _, rfl, hg.cl.1, hg.cl.2⟩
  split at h
  · cases h; exact ⟨_, _, rfl, hg.um.1, hg.um.2⟩
  · cases h

def rows1 : List Rw := [⟨⟨#[97]⟩, 0, 0, 1, 300⟩, ⟨⟨#[98]⟩, 1, 100, 1, 100⟩]
def text1 : List UInt8 := [97, 32, 48, 32, 48, 32, 49, 32, 51, 48, 48, 10, 98, 32, 49, 32, 49, 48, 48, 32, 49, 32, 49, 48, 48, 10]
theorem text1_rows : parseP ⟨text1.toArray⟩ = some rows1 := by
  have h1 : textL rows1 = text1 := by decide +kernel
  have h2 : isProfB rows1 = true := by decide +kernel
  have := parse_text h2
  rw [h1] at this
  exact this
/-- the functions that are given -/
noncomputable def ovA (f : FuncId) : Option (List Value → HM Value) := match Nat.beq f 212 with
  | true => some noEsc
  | false => match Nat.beq f 79 with
    | true => some bytesOv
    | false => match Nat.beq f 108 with
      | true => some (collect1 392 3)
      | false => match Nat.beq f 102 with
        | true => some (sortedK 159 9)
        | false => match Nat.beq f 19 with
          | true => some (parseOv text1 (rowsC rows1) 2)
          | false => none
set_option maxRecDepth 100000 in
theorem ovA_ok {w : World} (hg : Globs w) : OvOk Tryz.prog w ovA := ovOk_of fun f m hf => by
  unfold ovA at hf
  split at hf
  · rename_i h; obtain rfl := Nat.eq_of_beq_eq_true h; cases hf; exact noEsc_ok w
  split at hf
  · rename_i h; obtain rfl := Nat.eq_of_beq_eq_true h; cases hf; exact bytes_ok w
  split at hf
  · rename_i h; obtain rfl := Nat.eq_of_beq_eq_true h; cases hf; exact collect1_ok w
  split at hf
  · rename_i h; obtain rfl := Nat.eq_of_beq_eq_true h; cases hf; exact sortedK_ok w
  split at hf
  · rename_i h; obtain rfl := Nat.eq_of_beq_eq_true h; cases hf
    exact parse_ok w text1 rows1 text1_rows (by decide) (by decide) hg.er hg.pw
  · cases hf
theorem noGo : (Tryz.prog.funcs.toList.all fun fn => !(fn.body.isSome && fn.name == "runtime.NumGoroutine")) = true := by kernel_rfl
theorem noGo' : ∀ (f : FuncId) (fn : Func), Tryz.prog.funcs[f]? = some fn → fn.body.isSome = true → (fn.name == "runtime.NumGoroutine") = false := fun f fn hf hb => by
  have := List.all_eq_true.1 noGo fn (by simpa using Array.mem_of_getElem? hf)
  simpa [hb] using this
theorem follows : Tryz.prog.follows .mixedOrders = true := by kernel_rfl
noncomputable def isT (v : Value) : Bool := match v with
  | .bool true => true
  | _ => false
theorem isT_eq {v : Value} (h : isT v = true) : v = .bool true := by
  unfold isT at h
  split at h
  · rfl
  · cases h
end Cl
end Go.Proofs.YtcihbmifogfdpaaGreatDoor

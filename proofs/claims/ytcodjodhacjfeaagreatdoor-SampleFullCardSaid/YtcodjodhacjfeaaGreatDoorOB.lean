/-
  Several texts in one: O8, O9, O10, O11.
-/
import Derived.Test.YtcodjodhacjfeaaGreatDoorOA
import Derived.Test.YtcodjodhacjfeaaGreatDoorQ2
import Derived.Test.YtcodjodhacjfeaaGreatDoorTC
/-! Parse of one text given to the machine. -/
section
namespace Go.Proofs.YtcodjodhacjfeaaGreatDoor
open Go.RowKit
namespace Cl

theorem eqU_eq : ∀ {x y : List UInt8}, eqU x y = true → x = y
  | [], [], _ => rfl
  | [], _ :: _, h => by cases h
  | _ :: _, [], h => by cases h
  | a :: x, b :: y, h => by
    unfold eqU at h
    split at h
    · rename_i h1
      rw [eqU_eq h, UInt8.toNat_inj.1 (Nat.eq_of_beq_eq_true h1)]
    · cases h
section
variable {P : Program} {w0 : Bs} {w w' : World} {ρ : Pm} {h : H} {n : Nat}
/-- a slice of the call's own, of which nothing but its cells is known, gets a number -/
theorem post_ro (hw : W P w0 ρ h w) {t : TypeId} {sz m : Nat} {v : Value} {xs xs0 : List Value} (hn : hget h n = none) (hs : St w [HP.arr t sz v m xs] w') (hm : m ≠ 0) (hg : GL ρ xs0 xs) :
    ∃ ρ' : Pm, ρ.le ρ' ∧ W P w0 ρ' (hset h n (.ro xs0)) w' ∧ G ρ' (.slice (some ⟨n, 0, none⟩) m m) v := by
  obtain ⟨hb, mm, ⟨m1, m2, ha, em, hA, hF⟩, hc⟩ := hs
  rcases hA.2 with ⟨_, h0, _⟩ | ⟨b, off, cap, c, rfl, h1, h2, h3, h4, h5⟩
  · exact absurd h0 hm
  · have hw' := hw.later hb
    have hle := hw'.le_up hn ⟨b, off, cap - m⟩
    have hblk := hc b (.cells c t (0, 0)) (by rw [em]; unfold HL.join; rw [h5]; simp [HL.one])
    refine ⟨upP ρ n ⟨b, off, cap - m⟩, hle, hw'.name hn (fun _ i oi p hi hl hp => ?_) ⟨hw.newer hblk.1, c, t, hblk.2, fun k u hu => ?_⟩, ?_⟩
    · obtain ⟨p', e1, e2⟩ := hw.obj i oi hi
      rw [hp] at e1
      cases e1
      have := (e2.old hl).2
      simp only
      omega
    · obtain ⟨u', f1, f2⟩ := hg.get hu
      exact ⟨u', h4 k u' f1, f2.mono hle⟩
    · have := G.slc (ρ := upP ρ n ⟨b, off, cap - m⟩) (b := n) (off := 0) (n := m) (c := m) (upP_same _ _ _)
      simp only [Nat.add_zero, Nat.add_sub_cancel' h1] at this
      exact this
end
theorem rowsC_flat (l : List Rw) : ∀ u ∈ rowsC l, flat u = true := by
  intro u hu
  obtain ⟨r, _, hr⟩ := List.mem_flatMap.1 hu
  simp only [Rw.cells, List.mem_cons, List.not_mem_nil, or_false] at hr
  rcases hr with rfl | rfl | rfl | rfl | rfl <;> rfl

noncomputable def parseOv (T : List UInt8) (L : List Value) (n : Nat) (args : List Value) : HM Value := match args with
  | [.string s] => match eqU s.data.toList T with
    | true => do
      let b ← fresh (.ro L)
      pure (.tuple #[.slice (some ⟨b, 0, none⟩) n n, .int .i64 0])
    | false => HM.fail
  | _ => HM.fail
set_option maxRecDepth 100000 in
theorem parse_ok (w0 : Bs) (T : List UInt8) (L : List Rw) (hT : parseP ⟨T.toArray⟩ = some L) (hL : L.length ≠ 0) (hsz : T.length ≤ 4294967280) (hE : Errs w0.w) (hP : Pow10 w0.w) :
    OneOk Tryz.prog w0 31 (parseOv T (rowsC L) L.length) := by
  intro args n h x e ρ w args' hw hg
  unfold parseOv at e
  split at e
  · rename_i s
    obtain ⟨v', l', rfl, g1, g2⟩ := hg.uncons
    obtain rfl := g2.nil_eq
    cases g1
    split at e
    · rename_i hs
      have hs := eqU_eq hs
      have es : s = ⟨T.toArray⟩ := by rw [← hs]
      subst es
      obtain ⟨f1, f2, f3⟩ := fresh_then (f := fun b => .tuple #[.slice (some ⟨b, 0, none⟩) L.length L.length, .int .i64 0]) e
      have hc := parse_any w ⟨T.toArray⟩ (by simpa [ByteArray.size] using hsz) (hE.grow hw.below.1) (hP.grow hw.below.1)
      rw [Tryz.call31]
      refine hc.mono fun e w' h1 => ?_
      unfold parsePost at h1
      rw [hT] at h1
      obtain ⟨v, rfl, _, _, hs⟩ := h1
      obtain ⟨ρ', k1, k2, k3⟩ := post_ro hw f1 hs hL (GL.same fun u hu => .flat (rowsC_flat L u hu))
      refine ⟨_, rfl, ρ', k1, ?_, ?_⟩
      · rw [f3]; exact k2
      · rw [f2]
        exact GL.tuple (GL.cons k3 (GL.cons (.flat rfl) GL.nil))
    · rw [HM.fail_iff] at e; cases e
  · rw [HM.fail_iff] at e; cases e

noncomputable def noEsc (args : List Value) : HM Value := match args with
  | [v] => pure v
  | _ => HM.fail
set_option maxRecDepth 100000 in
theorem noEsc_ok (w0 : Bs) : OneOk Tryz.prog w0 178 noEsc := by
  intro args n h x e ρ w args' hw hg
  unfold noEsc at e
  split at e
  · obtain ⟨v', l', rfl, g1, g2⟩ := hg.uncons
    obtain rfl := g2.nil_eq
    have := HM.pure_iff.1 e
    subst this
    have hcall : (callFunc 178 [v'].toArray).run Tryz.prog w = .ok (.value v') w := noEscape_call v' w
    rw [hcall]
    exact ⟨ρ, Pm.le_refl _, hw, g1⟩
  · rw [HM.fail_iff] at e; cases e
/-- some functions are given -/
theorem ovOk_of {P : Program} {w0 : Bs} {ov : FuncId → Option (List Value → HM Value)} (h : ∀ f m, ov f = some m → OneOk P w0 f m) : OvOk P w0 ov := by
  intro f m hf f' args n hh x e ρ w args' hw hg
  dsimp only at e
  by_cases he : f' = f
  · rw [if_pos he] at e
    subst he
    exact h f' m hf args n hh x e ρ w args' hw hg
  · rw [if_neg he] at e
    rw [HM.fail_iff] at e; cases e
end Cl
end Go.Proofs.YtcodjodhacjfeaaGreatDoor
end

/-! The examples of the chapter hold: awake, by the machine. -/
section
namespace Go.Proofs.YtcodjodhacjfeaaGreatDoor
open Go.RowKit

/-- a package's variable holds these cells -/
def GlobIs (w : World) (g : Nat) (c : List Value) : Prop := g < w.heap.size ∧ ∀ (j : Nat) (u : Value), c[j]? = some u → Cl.closedB Cl.CD u = true ∧ w.cell? ⟨g, j, none⟩ = some u
theorem GlobIs.grow {w w' : World} {g : Nat} {c : List Value} (h : GlobIs w g c) (hb : Below w.heap.size w w') : GlobIs w' g c :=
  ⟨Nat.lt_of_lt_of_le h.1 hb.size, fun j u hu => ⟨(h.2 j u hu).1, (hb.cell (p := ⟨g, j, none⟩) h.1).trans (h.2 j u hu).2⟩⟩
def tab32 : List Value := [0, 1, 28, 2, 29, 14, 24, 3, 30, 22, 20, 15, 25, 17, 4, 8, 31, 27, 13, 23, 21, 19, 16, 7, 26, 12, 18, 6, 11, 5, 10, 9].map fun n : Int => Value.int .u8 n
def tabP10 : List Value := [1, 10, 100, 1000, 10000, 100000, 1000000, 10000000, 100000000, 1000000000, 10000000000, 100000000000, 1000000000000, 10000000000000, 100000000000000, 1000000000000000, 10000000000000000, 100000000000000000, 1000000000000000000, 10000000000000000000].map fun n : Int => Value.int .u64 n
/-- the variables that the examples read -/
structure Globs (w : World) : Prop where
  um : GlobIs w 6 [.bool false, .bool false]
  cl : GlobIs w 7 [.bool true, .bool false]
  db : GlobIs w 8 tab32
  pt : GlobIs w 3 tabP10
  er : Errs w
  pw : Pow10 w
theorem Globs.grow {w w' : World} (h : Globs w) (hb : Below w.heap.size w w') : Globs w' := ⟨h.um.grow hb, h.cl.grow hb, h.db.grow hb, h.pt.grow hb, h.er.grow hb, h.pw.grow hb⟩

namespace Cl
noncomputable def hGlobs : H := hset (hset (hset (hset h00 6 (.glob 6 [.bool false, .bool false])) 7 (.glob 7 [.bool true, .bool false])) 8 (.glob 8 tab32)) 3 (.glob 3 tabP10)
theorem hGlobs_ok {w : World} (hg : Globs w) : ∀ i o, hget hGlobs i = some o → ∃ k c, o = .glob k c ∧ k < w.heap.size ∧ ∀ (j : Nat) (u : Value), c[j]? = some u → closedB CD u = true ∧ w.cell? ⟨k, j, none⟩ = some u := by
  intro i o h
  unfold hGlobs at h
  simp only [hget_set, hget_h00] at h
  split at h
  · cases h; exact ⟨_, _, rfl, hg.pt.1, hg.pt.2⟩
  split at h
  · cases h; exact ⟨_, _, rfl, hg.db.1, hg.db.2⟩
  split at h
  · cases h; exact ⟨_, _, rfl, hg.cl.1, hg.cl.2⟩
  split at h
  · cases h; exact ⟨_, _, rfl, hg.um.1, hg.um.2⟩
  · cases h

def rows1 : List Rw := [⟨⟨#[97]⟩, 0, 0, 1, 300⟩, ⟨⟨#[98]⟩, 1, 100, 1, 100⟩]
def text1 : List UInt8 := [97, 32, 48, 32, 48, 32, 49, 32, 51, 48, 48, 10, 98, 32, 49, 32, 49, 48, 48, 32, 49, 32, 49, 48, 48, 10]
theorem text1_rows : parseP ⟨text1.toArray⟩ = some rows1 := by
  have h1 : textL rows1 = text1 := by decide +kernel
  have h2 : isProfB rows1 = true := by decide +kernel
  have := parse_text h2
  rw [h1] at this
  exact this
/-- the functions that are given -/
noncomputable def ovA (f : FuncId) : Option (List Value → HM Value) := match Nat.beq f 178 with
  | true => some noEsc
  | false => match Nat.beq f 206 with
    | true => some bytesOv
    | false => match Nat.beq f 44 with
      | true => some (collect1 286 3)
      | false => match Nat.beq f 42 with
        | true => some (sortedK 74 9)
        | false => match Nat.beq f 31 with
          | true => some (parseOv text1 (rowsC rows1) 2)
          | false => none
set_option maxRecDepth 100000 in
theorem ovA_ok {w : World} (hg : Globs w) : OvOk Tryz.prog ⟨w, HL.none⟩ ovA := ovOk_of fun f m hf => by
  unfold ovA at hf
  split at hf
  · rename_i h; obtain rfl := Nat.eq_of_beq_eq_true h; cases hf; exact noEsc_ok _
  split at hf
  · rename_i h; obtain rfl := Nat.eq_of_beq_eq_true h; cases hf; exact bytes_ok _
  split at hf
  · rename_i h; obtain rfl := Nat.eq_of_beq_eq_true h; cases hf; exact collect1_ok _
  split at hf
  · rename_i h; obtain rfl := Nat.eq_of_beq_eq_true h; cases hf; exact sortedK_ok _
  split at hf
  · rename_i h; obtain rfl := Nat.eq_of_beq_eq_true h; cases hf
    exact parse_ok _ text1 rows1 text1_rows (by decide) (by decide) hg.er hg.pw
  · cases hf
theorem noGo : (Tryz.prog.funcs.toList.all fun fn => !(fn.body.isSome && fn.name == "runtime.NumGoroutine")) = true := by kernel_rfl
theorem noGo' : ∀ (f : FuncId) (fn : Func), Tryz.prog.funcs[f]? = some fn → fn.body.isSome = true → (fn.name == "runtime.NumGoroutine") = false := fun f fn hf hb => by
  have := List.all_eq_true.1 noGo fn (by simpa using Array.mem_of_getElem? hf)
  simpa [hb] using this
theorem follows : Tryz.prog.follows .mixedOrders = true := by kernel_rfl
noncomputable def isT (v : Value) : Bool := match v with
  | .bool true => true
  | _ => false
theorem isT_eq {v : Value} (h : isT v = true) : v = .bool true := by
  unfold isT at h
  split at h
  · rfl
  · cases h
end Cl
end Go.Proofs.YtcodjodhacjfeaaGreatDoor
end

/-! The examples of the chapter hold: awake, by the machine (the kernel's run). -/
section
namespace Go.Proofs.YtcodjodhacjfeaaGreatDoor
open Go.RowKit
namespace Cl
theorem awake_run : (callA Tryz.prog ovA 2000 60 14 []).kont Bool 16 hGlobs 0 0 (fun a _ _ _ _ => some (isT a)) = some true := by decide +kernel
end Cl
end Go.Proofs.YtcodjodhacjfeaaGreatDoor
end

/-! The examples of the chapter hold: awake, in any world in which the packages' variables are as they are laid. -/
section
namespace Go.Proofs.YtcodjodhacjfeaaGreatDoor
open Go.RowKit
set_option maxRecDepth 100000 in
theorem awake_any {w : World} (hg : Globs w) : Calls Tryz.prog 14 #[] w fun e w' => e = .returned (.bool true) ∧ Below w.heap.size w w' := by
  refine (Cl.closed_call (p := Cl.isT) Cl.follows Cl.noGo' w (Cl.ovA_ok hg) (Cl.hGlobs_ok hg) (args := []) (by simp) (Tryz.call14 _ _) Cl.awake_run).mono ?_
  rintro e w' ⟨v, v', h1, rfl, h2, h3⟩
  have := Cl.isT_eq h1
  subst this
  rw [h3 rfl]
  exact ⟨rfl, h2⟩
end Go.Proofs.YtcodjodhacjfeaaGreatDoor
end

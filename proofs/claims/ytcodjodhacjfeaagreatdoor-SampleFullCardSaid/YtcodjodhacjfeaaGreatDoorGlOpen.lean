/-
  The packages' variables, as the row lists them, are what the walks ask.
-/
import Derived.Test.YtcodjodhacjfeaaGreatDoorOB
import Derived.Test.YtcodjodhacjfeaaGreatDoorRows
import Derived.Lib.LaidU8
import Derived.Lib.LaidTab
import Derived.ProofKit
namespace Go.Proofs.YtcodjodhacjfeaaGreatDoor
open Go.RowKit Go.Lib

theorem var_lt {P : Program} {w : World} {n : String} {g : Nat} {cs : Array Value} (hg : P.globalNamed n = some g) (h : w.var? P n = some cs) : g < w.heap.size := by
  simp only [World.var?, hg, Option.bind_some] at h
  split at h
  · rename_i e; exact (Array.getElem?_eq_some_iff.1 e).1
  · cases h
theorem globIs_of {P : Program} {w : World} {n : String} {g : Nat} {c : List Value} (hg : P.globalNamed n = some g) (h : w.var? P n = some c.toArray) (hc : ∀ u ∈ c, Cl.closedB Cl.CD u = true) : GlobIs w g c :=
  ⟨var_lt hg h, fun j u hu => ⟨hc u (List.mem_of_getElem? hu), by rw [World.var?_cell hg h j]; simpa using hu⟩⟩
section
variable {H : Type} {enc : TypeId × Value → H} {P : Program} {w : World} {base : Nat} {sp : Nat → Bool} {held : Bool}
theorem bools2_of_trod {fuel : Nat} {t : TypeId} {fs : Array Field} {cs : List Value} {b1 b2 : Bool} {p : List MemPlace} (ht : P.underlying t = some (.struct fs)) (hn : fs.size = 2)
    (hf : ∀ (i : Nat) (f : Field), fs[i]? = some f → P.underlying f.type = some .bool ∧ f.offset = i ∧ P.cellsOf f.type = 1) (hct : P.cellsOf t = 2)
    (h : DataW.trod enc P w base sp held fuel t cs = some (.agg [.lit (.bool b1), .lit (.bool b2)], p)) : cs = [.bool b1, .bool b2] := by
  obtain ⟨xs, n, rfl, hx, hl, hxl, hall⟩ := DataW.trod_struct ht h
  have hxs : xs.map (·.1) = [.lit (.bool b1), .lit (.bool b2)] := by
    have := congrArg Prod.fst hx
    simpa using this.symm
  rw [hct] at hl
  have at_ : ∀ i, i < 2 → ∃ b, cs[i]? = some (.bool b) ∧ (xs.map (·.1))[i]? = some (.lit (.bool b)) := fun i hi => by
    obtain ⟨hu, ho, hc⟩ := hf i fs[i] (by simp [hn, hi])
    have h1 := hall i fs[i] (by simp [hn, hi])
    obtain ⟨y, hy⟩ : ∃ y, xs[i]? = some y := ⟨xs[i]'(by omega), List.getElem?_eq_getElem (by omega)⟩
    rw [hy, ho, hc] at h1
    obtain ⟨b, hb, rfl⟩ := DataW.trod_bool hu h1
    refine ⟨b, ?_, by simp [hy]⟩
    have := congrArg (·[0]?) hb
    simpa [List.getElem?_take, List.getElem?_drop] using this
  obtain ⟨c1, e1, e2⟩ := at_ 0 (by omega)
  obtain ⟨c2, e3, e4⟩ := at_ 1 (by omega)
  rw [hxs] at e2 e4
  simp only [List.getElem?_cons_zero, List.getElem?_cons_succ, Option.some.injEq, DataW.lit.injEq, Lit.bool.injEq] at e2 e4
  subst e2 e4
  match cs, hl, e1, e3 with
  | [x, y], _, e1, e3 => simp at e1 e3; rw [e1, e3]
end
/-- what a listed variable's cells are -/
theorem gl_bools {W : World} {n : String} {g : Nat} {b1 b2 : Bool} (hg : Tryz.prog.globalNamed n = some g) (ht : (Tryz.prog.globals[g]?).map (·.type) = some 399) (h : VarReads Tryz.prog W n (.agg [.lit (.bool b1), .lit (.bool b2)])) : GlobIs W g [.bool b1, .bool b2] := by
  obtain ⟨g', t', cs, fuel, p, hg', ht', hv, hd⟩ := h
  obtain rfl := Option.some.inj (hg.symm.trans hg')
  obtain rfl := Option.some.inj (ht.symm.trans ht')
  have hu : Tryz.prog.underlying 399 = some (.struct (Tryz.prog.fieldsOf 399)) := by kernel_rfl
  have hfs : ((Tryz.prog.fieldsOf 399).toList.zipIdx.all fun x => x.1.type == 4 && x.1.offset == x.2) = true := by kernel_rfl
  have hbu : Tryz.prog.cellsOf 4 = 1 := by kernel_rfl
  have := bools2_of_trod hu (by kernel_rfl) (fun i f hf => by
    have h1 := List.all_eq_true.1 hfs (f, i) (by rw [List.mem_zipIdx_iff_getElem?]; simpa using hf)
    simp only [Bool.and_eq_true, beq_iff_eq] at h1
    rw [h1.1, h1.2]
    exact ⟨Tryz.underlying4, rfl, hbu⟩) (by kernel_rfl) hd
  refine globIs_of hg (by rw [hv, ← this]) (fun u hu => ?_)
  simp only [List.mem_cons, List.not_mem_nil, or_false] at hu
  rcases hu with rfl | rfl <;> rfl
theorem gl_tab {W : World} {n : String} {g : Nat} {t e : TypeId} {m : Nat} {k : IntKind} {zs : List Int} (hg : Tryz.prog.globalNamed n = some g) (ht : (Tryz.prog.globals[g]?).map (·.type) = some t) (hu : Tryz.prog.underlying t = some (.array m e)) (he : Tryz.prog.underlying e = some (.int k)) (hce : Tryz.prog.cellsOf e = 1) (hct : Tryz.prog.cellsOf t = m)
    (h : VarReads Tryz.prog W n (tabData k zs)) : TabIs Tryz.prog W n k zs ∧ GlobIs W g (zs.map fun z => Value.int k z) := by
  obtain ⟨g', t', cs, fuel, p, hg', ht', hv, hd⟩ := h
  obtain rfl := Option.some.inj (hg.symm.trans hg')
  obtain rfl := Option.some.inj (ht.symm.trans ht')
  have := cells_of_tab hu he hce hct hd
  have hv2 : W.var? Tryz.prog n = some (zs.map fun z => Value.int k z).toArray := by rw [hv, ← this]
  exact ⟨hv2, globIs_of hg hv2 (fun u hu => by
    obtain ⟨z, _, rfl⟩ := List.mem_map.1 hu
    rfl)⟩
theorem gl_err {W : World} {n nm : String} {g : Nat} {d : DataW Unit} (hg : Tryz.prog.globalNamed n = some g) (ht : (Tryz.prog.globals[g]?).map (·.type) = some 110) (h : VarReads Tryz.prog W n (.iface nm d)) : ∃ ev, W.cell? ⟨g, 0, none⟩ = some ev ∧ (ev = .nilIface ∨ ∃ te pe, ev = .iface te pe) := by
  obtain ⟨g', t', cs, fuel, p, hg', ht', hv, hd⟩ := h
  obtain rfl := Option.some.inj (hg.symm.trans hg')
  obtain rfl := Option.some.inj (ht.symm.trans ht')
  obtain ⟨_, u, v, hc, _⟩ := iface_of_trod Tryz.underlying110 hd
  exact ⟨.iface u v, by rw [World.var?_cell hg hv 0, ← Array.getElem?_toList, hc]; rfl, .inr ⟨_, _, rfl⟩⟩
theorem globs_of {W : World} (um : VarReads Tryz.prog W "freehold/space.unmapped" Rows.laid_freehold_space_unmapped) (cl : VarReads Tryz.prog W "freehold/space.clean" Rows.laid_freehold_space_clean) (db : VarReads Tryz.prog W "math/bits.deBruijn32tab" Rows.laid_math_bits_deBruijn32tab)
    (pt : VarReads Tryz.prog W "internal/strconv.uint64pow10" Rows.laid_internal_strconv_uint64pow10) (er : VarReads Tryz.prog W "strconv.ErrRange" Rows.laid_strconv_ErrRange) (es : VarReads Tryz.prog W "strconv.ErrSyntax" Rows.laid_strconv_ErrSyntax) : Globs W := by
  have h1 := gl_tab (g := 8) (zs := [0, 1, 28, 2, 29, 14, 24, 3, 30, 22, 20, 15, 25, 17, 4, 8, 31, 27, 13, 23, 21, 19, 16, 7, 26, 12, 18, 6, 11, 5, 10, 9]) (by kernel_rfl) (by kernel_rfl) Tryz.underlying412 Tryz.underlying5 (by kernel_rfl) (by kernel_rfl) db
  have h2 := gl_tab (g := 3) (zs := [1, 10, 100, 1000, 10000, 100000, 1000000, 10000000, 100000000, 1000000000, 10000000000, 100000000000, 1000000000000, 10000000000000, 100000000000000, 1000000000000000, 10000000000000000, 100000000000000000, 1000000000000000000, 10000000000000000000]) (by kernel_rfl) (by kernel_rfl) Tryz.underlying371 Tryz.underlying214 (by kernel_rfl) (by kernel_rfl) pt
  have hp : Pow10 W := by
    have e : Lib.pow10Tab = [1, 10, 100, 1000, 10000, 100000, 1000000, 10000000, 100000000, 1000000000, 10000000000, 100000000000, 1000000000000, 10000000000000, 100000000000000, 1000000000000000, 10000000000000000, 100000000000000000, 1000000000000000000, 10000000000000000000] := by decide
    unfold Pow10
    rw [e]
    exact h2.1
  exact ⟨gl_bools (by kernel_rfl) (by kernel_rfl) um, gl_bools (by kernel_rfl) (by kernel_rfl) cl, h1.2, h2.2, ⟨gl_err (by kernel_rfl) (by kernel_rfl) es, gl_err (by kernel_rfl) (by kernel_rfl) er⟩, hp⟩
end Go.Proofs.YtcodjodhacjfeaaGreatDoor

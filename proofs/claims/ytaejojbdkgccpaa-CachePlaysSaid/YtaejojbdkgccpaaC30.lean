/-
  The reference of a cache in memory; made, has, wrong, Len, Limit, Low.
-/
import Derived.Test.YtaejojbdkgccpaaC29
import Derived.Test.YtaejojbdkgccpaaCnt
namespace Go.Proofs.Ytaejojbdkgccpaa
open Go.RowKit Go.Maps Go.ChangeMaps

/-- a row of cells that a function gives -/
def slcL (n : Nat) (v : Nat → Value) : List Value := (List.range n).map v
theorem slcL_len (n : Nat) (v : Nat → Value) : (slcL n v).length = n := by simp [slcL]
theorem slcL_get {n k : Nat} {v : Nat → Value} (h : k < n) : (slcL n v)[k]? = some (v k) := by simp [slcL, h]
theorem slcL_set {n p : Nat} {v : Nat → Value} (u : Value) : (slcL n v).set p u = slcL n (upd v p u) := by
  apply List.ext_getElem?
  intro j
  by_cases hj : j < n
  · rw [slcL_get hj, List.getElem?_set]
    unfold upd
    by_cases e : p = j
    · subst e; simp [slcL_len, hj]
    · rw [if_neg e, slcL_get hj, if_neg (by omega)]
  · rw [List.getElem?_eq_none (by rw [List.length_set, slcL_len]; omega), List.getElem?_eq_none (by rw [slcL_len]; omega)]
theorem slcL_ext {n : Nat} {u v : Nat → Value} (h : ∀ k, k < n → u k = v k) : slcL n u = slcL n v := List.map_congr_left fun k hk => h k (List.mem_range.1 hk)

/-- where the parts of a reference lie -/
structure RD where
  ta : Option Addr
  tc : Nat
  lb : Nat
  lo : Nat
  lc : Nat
  mb : Nat
  mo : Nat
  mc : Nat
  wb : Nat
  wo : Nat
  wc : Nat
  va : Nat → Option Addr
  vc : Nat → Nat
def RD.L (D : RD) (N : Nat) : Value := .slice (some ⟨D.lb, D.lo, none⟩) N D.lc
def RD.M (D : RD) (N : Nat) : Value := .slice (some ⟨D.mb, D.mo, none⟩) N D.mc
def RD.W (D : RD) (N : Nat) : Value := .slice (some ⟨D.wb, D.wo, none⟩) N D.wc
def RD.v (D : RD) (s : Nat → CL) (k : Nat) : Value := .slice (D.va k) (s k).objs.length (D.vc k)
/-- the struct alone -/
def rheadP (c N : Nat) (bud : Int) (D : RD) : HP := HP.blk c #[.slice D.ta N D.tc, .int .i64 bud, D.L N, D.M N, D.W N] 83
def limF (s : Nat → CL) (k : Nat) : Int := (s k).lim
def lowF (s : Nat → CL) (k : Nat) : Int := (s k).low
/-- a reference in memory -/
def refP (c : Nat) (tb : List Cls) (bud : Int) (s : Nat → CL) : HP := HP.ex fun D : RD =>
  rheadP c tb.length bud D * (HP.arr 43 3 (.slice D.ta tb.length D.tc) tb.length (clsC tb) * (HP.arr 28 1 (D.L tb.length) tb.length (slcL tb.length (D.v s)) *
    (HP.arr 3 1 (D.M tb.length) tb.length (numsF tb.length (limF s)) * (HP.arr 3 1 (D.W tb.length) tb.length (numsF tb.length (lowF s)) * stars tb.length fun k => intsP (D.v s k) (s k).objs))))
/-- its parts side by side -/
def refL (c : Nat) (tb : List Cls) (bud : Int) (s : Nat → CL) (D : RD) : List HP :=
  [rheadP c tb.length bud D, HP.arr 43 3 (.slice D.ta tb.length D.tc) tb.length (clsC tb), HP.arr 28 1 (D.L tb.length) tb.length (slcL tb.length (D.v s)),
    HP.arr 3 1 (D.M tb.length) tb.length (numsF tb.length (limF s)), HP.arr 3 1 (D.W tb.length) tb.length (numsF tb.length (lowF s)), stars tb.length fun k => intsP (D.v s k) (s k).objs]
theorem ref_open {w0 w : World} {F : List HP} {c : Nat} {tb : List Cls} {bud : Int} {s : Nat → CL} (h : St w0 (refP c tb bud s :: F) w) : ∃ D, St w0 (refL c tb bud s D ++ F) w := by
  obtain ⟨D, h⟩ := St.ex.1 h
  exact ⟨D, h.perm (by simp only [refL, HP.big, List.cons_append, List.nil_append, HP.sep_assoc])⟩
theorem ref_shut {w0 w : World} {F : List HP} {c : Nat} {tb : List Cls} {bud : Int} {s : Nat → CL} {D : RD} (h : St w0 (refL c tb bud s D ++ F) w) : St w0 (refP c tb bud s :: F) w :=
  St.ex.2 ⟨D, h.perm (by simp only [refL, HP.big, List.cons_append, List.nil_append, HP.sep_assoc])⟩
/-- the struct's cells -/
theorem ref_head {w0 w : World} {F : List HP} {c : Nat} {tb : List Cls} {bud : Int} {s : Nat → CL} {D : RD} (h : St w0 (refL c tb bud s D ++ F) w) :
    w.cell? ⟨c, 0, none⟩ = some (.slice D.ta tb.length D.tc) ∧ w.cell? ⟨c, 1, none⟩ = some (.int .i64 bud) ∧ w.cell? ⟨c, 2, none⟩ = some (.slice (some ⟨D.lb, D.lo, none⟩) tb.length D.lc) ∧
      w.cell? ⟨c, 3, none⟩ = some (.slice (some ⟨D.mb, D.mo, none⟩) tb.length D.mc) ∧ w.cell? ⟨c, 4, none⟩ = some (.slice (some ⟨D.wb, D.wo, none⟩) tb.length D.wc) := by
  have g : St w0 (HP.blk c #[.slice D.ta tb.length D.tc, .int .i64 bud, D.L tb.length, D.M tb.length, D.W tb.length] 83 :: _) w := h
  exact ⟨g.cell rfl, g.cell rfl, g.cell rfl, g.cell rfl, g.cell rfl⟩
/-- a class's cells -/
theorem ref_at {w0 w : World} {F : List HP} {c : Nat} {tb : List Cls} {bud : Int} {s : Nat → CL} {D : RD} (h : St w0 (refL c tb bud s D ++ F) w) {k : Nat} (hk : k < tb.length) :
    w.cell? ⟨D.lb, D.lo + k, none⟩ = some (.slice (D.va k) (s k).objs.length (D.vc k)) ∧ w.cell? ⟨D.mb, D.mo + k, none⟩ = some (.int .i64 (s k).lim) ∧ w.cell? ⟨D.wb, D.wo + k, none⟩ = some (.int .i64 (s k).low) := by
  have g1 : St w0 (HP.arr 28 1 (.slice (some ⟨D.lb, D.lo, none⟩) tb.length D.lc) tb.length (slcL tb.length (D.v s)) :: _) w := h.front 2 (by simp [refL])
  have g2 : St w0 (HP.arr 3 1 (.slice (some ⟨D.mb, D.mo, none⟩) tb.length D.mc) tb.length (numsF tb.length (limF s)) :: _) w := h.front 3 (by simp [refL])
  have g3 : St w0 (HP.arr 3 1 (.slice (some ⟨D.wb, D.wo, none⟩) tb.length D.wc) tb.length (numsF tb.length (lowF s)) :: _) w := h.front 4 (by simp [refL])
  exact ⟨HP.arr_cell g1 (slcL_get hk), HP.arr_cell g2 (numsF_get hk), HP.arr_cell g3 (numsF_get hk)⟩
theorem rmade_in {w0 w : World} {F : List HP} {c : Nat} {tb : List Cls} {bud : Int} {s : Nat → CL} (h1 : 1 ≤ tb.length) (h : St w0 (refP c tb bud s :: F) w) :
    Calls Try.prog 52 #[.pointer (some ⟨c, 0, none⟩)] w fun e w' => e = .returned (.bool true) ∧ w = w' := by
  obtain ⟨D, h⟩ := ref_open h
  obtain ⟨c0, _⟩ := ref_head h
  have d0 : decide ((0 : Int) < (tb.length : Int)) = true := decide_eq_true (by omega)
  have d0' : decide (0 < tb.length) = true := decide_eq_true (by omega)
  have d1 : (0 : Int) < (tb.length : Int) := by omega
  clear h
  go_enter Try.func52, Try.ntmps52
  go_wp2_with fail
  go_ret
  exact ⟨rfl, rfl⟩
theorem rhas_in {w0 w : World} {F : List HP} {c : Nat} {tb : List Cls} {bud : Int} {s : Nat → CL} (h1 : 1 ≤ tb.length) (h : St w0 (refP c tb bud s :: F) w) (k : Int) :
    Calls Try.prog 72 #[.pointer (some ⟨c, 0, none⟩), .int .i64 k] w fun e w' => e = .returned (.bool (decide (inC tb.length k))) ∧ w = w' := by
  have M := Lib.hid (rmade_in h1 h)
  obtain ⟨D, h⟩ := ref_open h
  obtain ⟨c0, _⟩ := ref_head h
  by_cases k0 : 0 ≤ k
  · have d0 : decide ((0 : Int) ≤ k) = true := decide_eq_true k0
    have e : decide (inC tb.length k) = decide (k < (tb.length : Int)) := by unfold inC; simp [k0]
    rw [e]
    generalize hd : decide (k < (tb.length : Int)) = d at *
    clear h e
    go_enter Try.func72, Try.ntmps72
    go_wp2_with fail
    refine M.out.mono ?_
    rintro e w' ⟨rfl, rfl⟩
    go_wp2_with fail
    go_ret
    exact ⟨rfl, rfl⟩
  · have d0 : decide ((0 : Int) ≤ k) = false := decide_eq_false k0
    have e : decide (inC tb.length k) = false := decide_eq_false (by unfold inC; omega)
    rw [e]
    clear h e
    go_enter Try.func72, Try.ntmps72
    go_wp2_with fail
    refine M.out.mono ?_
    rintro e w' ⟨rfl, rfl⟩
    go_wp2_with fail
    go_ret
    exact ⟨rfl, rfl⟩
theorem rwrong_in {w0 w : World} {F : List HP} {c : Nat} {tb : List Cls} {bud : Int} {s : Nat → CL} (h1 : 1 ≤ tb.length) (h : St w0 (refP c tb bud s :: F) w) (k : Int) :
    Calls Try.prog 70 #[.pointer (some ⟨c, 0, none⟩), .int .i64 k] w fun e w' => e = .returned (.int .i64 (if inC tb.length k then 0 else 1)) ∧ w = w' := by
  have M := Lib.hid (rmade_in h1 h)
  have HA := Lib.hid (rhas_in h1 h k)
  clear h
  by_cases hk : inC tb.length k
  · rw [decide_eq_true hk] at HA
    rw [if_pos hk]
    clear hk
    go_enter Try.func70, Try.ntmps70
    go_wp2_with fail
    refine M.out.mono ?_
    rintro e w' ⟨rfl, rfl⟩
    go_wp2_with fail
    refine HA.out.mono ?_
    rintro e w' ⟨rfl, rfl⟩
    go_wp2_with fail
    go_ret
    exact ⟨rfl, rfl⟩
  · rw [decide_eq_false hk] at HA
    rw [if_neg hk]
    clear hk
    go_enter Try.func70, Try.ntmps70
    go_wp2_with fail
    refine M.out.mono ?_
    rintro e w' ⟨rfl, rfl⟩
    go_wp2_with fail
    refine HA.out.mono ?_
    rintro e w' ⟨rfl, rfl⟩
    go_wp2_with fail
    go_ret
    exact ⟨rfl, rfl⟩
end Go.Proofs.Ytaejojbdkgccpaa

/-
  Stores into a reference: the list, the limit, the low mark of a class.
-/
import Derived.Test.YtaejojbdkgccpaaC32
namespace Go.Proofs.Ytaejojbdkgccpaa
open Go.RowKit Go.Maps Go.ChangeMaps

/-- a reference without the list of a class -/
def refR (c : Nat) (tb : List Cls) (bud : Int) (s : Nat → CL) (D : RD) (k : Nat) : List HP :=
  [rheadP c tb.length bud D, HP.arr 43 3 (.slice D.ta tb.length D.tc) tb.length (clsC tb), HP.arr 28 1 (D.L tb.length) tb.length (slcL tb.length (D.v s)),
    HP.arr 3 1 (D.M tb.length) tb.length (numsF tb.length (limF s)), HP.arr 3 1 (D.W tb.length) tb.length (numsF tb.length (lowF s)), stars tb.length (but (fun k => intsP (D.v s k) (s k).objs) k)]
theorem ref_focus {w0 w : World} {F : List HP} {c : Nat} {tb : List Cls} {bud : Int} {s : Nat → CL} {D : RD} {k : Nat} (hk : k < tb.length) (h : St w0 (refL c tb bud s D ++ F) w) :
    St w0 (intsP (.slice (D.va k) (s k).objs.length (D.vc k)) (s k).objs :: (refR c tb bud s D k ++ F)) w := by
  refine h.perm ?_
  simp only [refL, refR, HP.big, List.cons_append, List.nil_append]
  rw [stars_focus k _ hk]
  simp only [RD.v]
  ac_rfl
def RD.put (D : RD) (k : Nat) (a : Option Addr) (cap : Nat) : RD := { D with va := upd D.va k a, vc := upd D.vc k cap }
theorem limF_upd {s : Nat → CL} {k : Nat} (y : CL) (n : Nat) : numsF n (limF (updC s k y)) = numsF n (upd (limF s) k (y.lim : Int)) := numsF_ext fun p _ => by
  unfold limF updC upd
  split <;> rfl
theorem lowF_upd {s : Nat → CL} {k : Nat} (y : CL) (n : Nat) : numsF n (lowF (updC s k y)) = numsF n (upd (lowF s) k (y.low : Int)) := numsF_ext fun p _ => by
  unfold lowF updC upd
  split <;> rfl
theorem limF_keep {s : Nat → CL} {k : Nat} {y : CL} (h : y.lim = (s k).lim) (n : Nat) : numsF n (limF (updC s k y)) = numsF n (limF s) := numsF_ext fun p _ => by
  unfold limF updC
  split
  · rename_i e; subst e; rw [h]
  · rfl
theorem lowF_keep {s : Nat → CL} {k : Nat} {y : CL} (h : y.low = (s k).low) (n : Nat) : numsF n (lowF (updC s k y)) = numsF n (lowF s) := numsF_ext fun p _ => by
  unfold lowF updC
  split
  · rename_i e; subst e; rw [h]
  · rfl
theorem ref_backL {w0 w : World} {F : List HP} {c : Nat} {tb : List Cls} {bud : Int} {s : Nat → CL} {D : RD} {k : Nat} (hk : k < tb.length) {a : Option Addr} {cap : Nat} {ys : List Int} (h : St w0 (intsP (.slice a ys.length cap) ys :: (refR c tb bud s D k ++ F)) w) :
    St w0 (refL c tb bud (updC s k ⟨ys, (s k).lim, (s k).low⟩) (D.put k a cap) ++ F) (w.setCell ⟨D.lb, D.lo + k, none⟩ (.slice a ys.length cap)) ∧ w.frozen? ⟨D.lb, D.lo + k, none⟩ = false := by
  have g : St w0 (HP.arr 28 1 (.slice (some ⟨D.lb, D.lo, none⟩) tb.length D.lc) tb.length (slcL tb.length (D.v s)) :: _) w := h.front 3 (by simp [refR])
  obtain ⟨g1, fz⟩ := HP.arr_set k (.slice a ys.length cap) (by omega) g
  refine ⟨?_, fz⟩
  rw [slcL_set] at g1
  refine g1.perm ?_
  have e1 : slcL tb.length (upd (D.v s) k (.slice a ys.length cap)) = slcL tb.length ((D.put k a cap).v (updC s k ⟨ys, (s k).lim, (s k).low⟩)) := slcL_ext fun j _ => by
    unfold upd RD.v RD.put updC upd
    by_cases hj : j = k
    · simp [hj]
    · simp [hj]
  have e2 : stars tb.length (fun j => intsP ((D.put k a cap).v (updC s k ⟨ys, (s k).lim, (s k).low⟩) j) (updC s k ⟨ys, (s k).lim, (s k).low⟩ j).objs) = intsP (.slice a ys.length cap) ys * stars tb.length (but (fun k => intsP (D.v s k) (s k).objs) k) := by
    rw [stars_back (A := fun k => intsP (D.v s k) (s k).objs) hk (fun j _ hj => by
      unfold RD.v RD.put upd updC
      simp [hj])]
    congr 1
    unfold RD.v RD.put upd updC
    simp
  have e4 : numsF tb.length (limF (updC s k ⟨ys, (s k).lim, (s k).low⟩)) = numsF tb.length (limF s) := limF_keep (by rfl) _
  have e5 : numsF tb.length (lowF (updC s k ⟨ys, (s k).lim, (s k).low⟩)) = numsF tb.length (lowF s) := lowF_keep (by rfl) _
  rw [e1]
  simp only [refL, refR, HP.big, List.cons_append, List.nil_append, List.eraseIdx_cons_succ, List.eraseIdx_cons_zero, e2, e4, e5]
  simp only [rheadP, RD.put, RD.L, RD.M, RD.W]
  ac_rfl
theorem ref_setM {w0 w : World} {F : List HP} {c : Nat} {tb : List Cls} {bud : Int} {s : Nat → CL} {D : RD} {k : Nat} (hk : k < tb.length) (v : Nat) (h : St w0 (refL c tb bud s D ++ F) w) :
    St w0 (refL c tb bud (updC s k ⟨(s k).objs, v, (s k).low⟩) D ++ F) (w.setCell ⟨D.mb, D.mo + k, none⟩ (.int .i64 (v : Nat))) ∧ w.frozen? ⟨D.mb, D.mo + k, none⟩ = false := by
  have g : St w0 (HP.arr 3 1 (.slice (some ⟨D.mb, D.mo, none⟩) tb.length D.mc) tb.length (numsF tb.length (limF s)) :: _) w := h.front 3 (by simp [refL])
  obtain ⟨g1, fz⟩ := HP.arr_set k (.int .i64 (v : Nat)) (by omega) g
  refine ⟨?_, fz⟩
  rw [numsF_set] at g1
  refine g1.perm ?_
  have e0 : ∀ j, D.v (updC s k ⟨(s k).objs, v, (s k).low⟩) j = D.v s j := fun j => by unfold RD.v updC; split <;> simp_all
  have e3 : ∀ j, (updC s k ⟨(s k).objs, v, (s k).low⟩ j).objs = (s j).objs := fun j => by unfold updC; split <;> simp_all
  have e1 : slcL tb.length (D.v (updC s k ⟨(s k).objs, v, (s k).low⟩)) = slcL tb.length (D.v s) := slcL_ext fun j _ => e0 j
  have e4 : numsF tb.length (lowF (updC s k ⟨(s k).objs, v, (s k).low⟩)) = numsF tb.length (lowF s) := lowF_keep (by rfl) _
  simp only [refL, HP.big, List.cons_append, List.nil_append, List.eraseIdx_cons_succ, List.eraseIdx_cons_zero, e1, e0, e3, limF_upd, e4]
  simp only [RD.M]
  ac_rfl
theorem ref_setW {w0 w : World} {F : List HP} {c : Nat} {tb : List Cls} {bud : Int} {s : Nat → CL} {D : RD} {k : Nat} (hk : k < tb.length) (v : Nat) (h : St w0 (refL c tb bud s D ++ F) w) :
    St w0 (refL c tb bud (updC s k ⟨(s k).objs, (s k).lim, v⟩) D ++ F) (w.setCell ⟨D.wb, D.wo + k, none⟩ (.int .i64 (v : Nat))) ∧ w.frozen? ⟨D.wb, D.wo + k, none⟩ = false := by
  have g : St w0 (HP.arr 3 1 (.slice (some ⟨D.wb, D.wo, none⟩) tb.length D.wc) tb.length (numsF tb.length (lowF s)) :: _) w := h.front 4 (by simp [refL])
  obtain ⟨g1, fz⟩ := HP.arr_set k (.int .i64 (v : Nat)) (by omega) g
  refine ⟨?_, fz⟩
  rw [numsF_set] at g1
  refine g1.perm ?_
  have e0 : ∀ j, D.v (updC s k ⟨(s k).objs, (s k).lim, v⟩) j = D.v s j := fun j => by unfold RD.v updC; split <;> simp_all
  have e3 : ∀ j, (updC s k ⟨(s k).objs, (s k).lim, v⟩ j).objs = (s j).objs := fun j => by unfold updC; split <;> simp_all
  have e1 : slcL tb.length (D.v (updC s k ⟨(s k).objs, (s k).lim, v⟩)) = slcL tb.length (D.v s) := slcL_ext fun j _ => e0 j
  have e4 : numsF tb.length (limF (updC s k ⟨(s k).objs, (s k).lim, v⟩)) = numsF tb.length (limF s) := limF_keep (by rfl) _
  simp only [refL, HP.big, List.cons_append, List.nil_append, List.eraseIdx_cons_succ, List.eraseIdx_cons_zero, e1, e0, e3, lowF_upd, e4]
  simp only [RD.W]
  ac_rfl
end Go.Proofs.Ytaejojbdkgccpaa

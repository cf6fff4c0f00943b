/-
  Nothing is lost: the plain law of CacheOnce.
-/
import Derived.Test.YtaejojbdkgccpaaL7
namespace Go.Proofs.Ytaejojbdkgccpaa

/-- all objects of the first n classes -/
def objsN (s : Nat → CL) : Nat → List Int
  | 0 => []
  | n + 1 => objsN s n ++ (s n).objs
theorem objsN_ext {s s2 : Nat → CL} : ∀ n, (∀ k, k < n → (s k).objs = (s2 k).objs) → objsN s n = objsN s2 n
  | 0, _ => rfl
  | n + 1, h => by
    show objsN s n ++ _ = objsN s2 n ++ _
    rw [objsN_ext n fun k hk => h k (by omega), h n (by omega)]
/-- one class changes: what it had and what was put to it is what it has and what was taken from it -/
theorem objsN_upd {s : Nat → CL} {k : Nat} {y : CL} {gone more : List Int} (hy : (y.objs ++ gone).Perm ((s k).objs ++ more)) : ∀ n, k < n → (objsN (updC s k y) n ++ gone).Perm (objsN s n ++ more)
  | 0, h => by omega
  | n + 1, h => by
    show (objsN (updC s k y) n ++ (updC s k y n).objs ++ gone).Perm (objsN s n ++ (s n).objs ++ more)
    by_cases hk : k = n
    · subst hk
      rw [updC_same, objsN_ext (s2 := s) k fun j hj => by rw [updC_other s y (by omega)], List.append_assoc, List.append_assoc]
      exact hy.append_left _
    · rw [updC_other s y (by omega : n ≠ k)]
      have ih := objsN_upd hy n (by omega)
      rw [List.append_assoc, List.append_assoc]
      have h1 : ((s n).objs ++ gone).Perm (gone ++ (s n).objs) := List.perm_append_comm
      have h2 : ((s n).objs ++ more).Perm (more ++ (s n).objs) := List.perm_append_comm
      refine (h1.append_left _).trans (List.Perm.trans ?_ (h2.append_left _).symm)
      rw [← List.append_assoc, ← List.append_assoc]
      exact ih.append_right _
theorem objsN_all {s s2 : Nat → CL} {fL : CL → List Int} (h : ∀ k, (fL (s k) ++ (s2 k).objs) = (s k).objs) : ∀ n, (objsN s2 n ++ flatB (outB fL s n)).Perm (objsN s n)
  | 0 => List.Perm.refl _
  | n + 1 => by
    rw [flat_outB]
    show (objsN s2 n ++ (s2 n).objs ++ (flatB (outB fL s n) ++ fL (s n))).Perm (objsN s n ++ (s n).objs)
    have ih := objsN_all h n
    rw [← h n]
    have h1 : ((s2 n).objs ++ (flatB (outB fL s n) ++ fL (s n))).Perm (flatB (outB fL s n) ++ (fL (s n) ++ (s2 n).objs)) := by
      refine List.perm_append_comm.trans ?_
      rw [List.append_assoc]
    rw [List.append_assoc]
    refine (h1.append_left _).trans ?_
    rw [← List.append_assoc]
    exact ih.append_right _
/-- what a call puts to the lists -/
def addL (tb : List Cls) (s : Nat → CL) (x : ActC) : List Int := if doE tb s x ≠ 0 then [] else if x.kind = 3 then [x.a] else if x.kind = 2 then x.l.reverse else []
theorem once_step {tb : List Cls} {s : Nat → CL} (x : ActC) : (objsN (actS tb s x) tb.length ++ doL tb s x).Perm (objsN s tb.length ++ addL tb s x) := by
  obtain ⟨kd, cls, o, l⟩ := x
  by_cases h4 : kd = 4
  · subst h4
    have e1 : actS tb s ⟨4, cls, o, l⟩ = scavS tb s := by simp [actS, actC]; rfl
    have e2 : doL tb s ⟨4, cls, o, l⟩ = flatB (scavB s tb.length) := by simp [doL]
    have e3 : addL tb s ⟨4, cls, o, l⟩ = [] := by simp [addL]
    rw [e1, e2, e3, List.append_nil]
    exact objsN_all (s := s) (s2 := scavS tb s) (fL := CL.scavL) (fun k => List.take_append_drop (s k).scavN (s k).objs) _
  by_cases h5 : kd = 5
  · subst h5
    have e1 : actS tb s ⟨5, cls, o, l⟩ = drainS s := by simp [actS, actC]; rfl
    have e2 : doL tb s ⟨5, cls, o, l⟩ = flatB (drainB s tb.length) := by simp [doL]
    have e3 : addL tb s ⟨5, cls, o, l⟩ = [] := by simp [addL]
    rw [e1, e2, e3, List.append_nil]
    exact objsN_all (s := s) (s2 := drainS s) (fL := CL.objs) (fun k => List.append_nil _) _
  by_cases hin : inC tb.length cls
  rotate_left
  · have e1 : actS tb s ⟨kd, cls, o, l⟩ = s := by simp [actS, actC, h4, h5, hin]
    have e2 : doL tb s ⟨kd, cls, o, l⟩ = [] := by simp [doL, h4, h5, hin]
    have e3 : addL tb s ⟨kd, cls, o, l⟩ = [] := by
      unfold addL
      by_cases h3 : kd = 3
      · subst h3; simp [doE, hin]
      · by_cases h2 : kd = 2
        · subst h2; simp [doE, hin]
        · simp [h3, h2]
    rw [e1, e2, e3]
  obtain ⟨e1, hk⟩ := inC_nat hin
  generalize hc : cls.toNat = k at *
  by_cases h0 : kd = 0
  · subst h0
    have e1 : actS tb s ⟨0, cls, o, l⟩ = updC s k ((s k).takeF (Bt tb k)) := by simp [actS, actC, hin, hc]
    have e2 : doL tb s ⟨0, cls, o, l⟩ = if (s k).objs.length = 0 then [] else [(s k).takeV] := by simp [doL, hin, hc]
    have e3 : addL tb s ⟨0, cls, o, l⟩ = [] := by simp [addL]
    rw [e1, e2, e3]
    refine objsN_upd ?_ _ hk
    rw [List.append_nil]
    unfold CL.takeF
    by_cases hz : (s k).objs.length = 0
    · rw [if_pos hz, if_pos hz, List.append_nil]
    · rw [if_neg hz, if_neg hz]
      have hne : (s k).objs ≠ [] := fun e => hz (by rw [e]; rfl)
      have h9 : (s k).takeV = (s k).objs.getLast hne := by unfold CL.takeV; rw [List.getLast?_eq_some_getLast hne]; rfl
      rw [h9]
      show ((s k).objs.take ((s k).objs.length - 1) ++ [_]).Perm _
      rw [← List.dropLast_eq_take, List.dropLast_concat_getLast]
  by_cases h2 : kd = 2
  · subst h2
    have e1 : actS tb s ⟨2, cls, o, l⟩ = updC s k ((s k).fillF l) := by simp [actS, actC, hin, hc]
    have e2 : doL tb s ⟨2, cls, o, l⟩ = [] := by simp [doL]
    have e3 : doE tb s ⟨2, cls, o, l⟩ = (s k).fillE l := by simp [doE, hin, hc]
    unfold addL
    rw [e1, e2, e3]
    refine objsN_upd ?_ _ hk
    unfold CL.fillF CL.fillE
    by_cases hf : 256 < (s k).objs.length + l.length
    · rw [if_pos hf, if_pos hf, if_pos (by decide)]
    · simp [hf]
  by_cases h3 : kd = 3
  · subst h3
    have e1 : actS tb s ⟨3, cls, o, l⟩ = updC s k ((s k).putF (Bt tb k) o) := by simp [actS, actC, hin, hc]
    have e2 : doL tb s ⟨3, cls, o, l⟩ = (s k).putL (Bt tb k) o := by simp [doL, hin, hc]
    have e3 : doE tb s ⟨3, cls, o, l⟩ = (s k).putE := by simp [doE, hin, hc]
    unfold addL
    rw [e1, e2, e3]
    refine objsN_upd ?_ _ hk
    unfold CL.putF CL.putE CL.putL
    by_cases hf : 256 < (s k).objs.length + 1
    · rw [if_pos hf, if_pos hf, if_pos hf, if_pos (by decide)]
    · by_cases hle : (s k).objs.length + 1 ≤ (s k).lim
      · simp [hf, hle]
      · simp only [hf, hle, if_false]
        refine List.perm_append_comm.trans ?_
        show (List.take _ ((s k).objs ++ [o]) ++ List.drop _ ((s k).objs ++ [o])).Perm _
        rw [List.take_append_drop]
        exact List.Perm.refl _
  · have e1 : actS tb s ⟨kd, cls, o, l⟩ = s := by simp [actS, actC, h0, h2, h3, h4, h5]
    have e2 : doL tb s ⟨kd, cls, o, l⟩ = [] := by simp [doL, h0, h3, h4, h5]
    have e3 : addL tb s ⟨kd, cls, o, l⟩ = [] := by simp [addL, h2, h3]
    rw [e1, e2, e3]

/-- the numbers from a on -/
def fromI (a : Nat) : Nat → List Int
  | 0 => []
  | n + 1 => fromI a n ++ [((a + n : Nat) : Int)]
theorem fromI_len (a : Nat) : ∀ n, (fromI a n).length = n
  | 0 => rfl
  | n + 1 => by
    show (fromI a n ++ _).length = _
    rw [List.length_append, fromI_len a n]
    rfl
theorem fromI_add (n m : Nat) : fromI 0 (n + m) = fromI 0 n ++ fromI n m := by
  induction m with
  | zero => simp [fromI]
  | succ m ih =>
    show fromI 0 (n + m) ++ [((0 + (n + m) : Nat) : Int)] = fromI 0 n ++ (fromI n m ++ [((n + m : Nat) : Int)])
    rw [ih, List.append_assoc, Nat.zero_add]
theorem mem_fromI {a n : Nat} {x : Int} : x ∈ fromI a n ↔ (a : Int) ≤ x ∧ x < ((a + n : Nat) : Int) := by
  induction n with
  | zero => simp [fromI]
  | succ n ih =>
    show x ∈ fromI a n ++ [((a + n : Nat) : Int)] ↔ _
    rw [List.mem_append, ih, List.mem_singleton]
    omega
theorem count_fromI {n v : Nat} (h : v < n) : (fromI 0 n).count (v : Int) = 1 := by
  induction n with
  | zero => omega
  | succ n ih =>
    show (fromI 0 n ++ [((0 + n : Nat) : Int)]).count (v : Int) = 1
    rw [List.count_append]
    by_cases e : v = n
    · subst e
      have : (fromI 0 v).count (v : Int) = 0 := List.count_eq_zero.2 fun hm => by have := mem_fromI.1 hm; omega
      rw [this]
      simp
    · rw [ih (by omega)]
      have : (v : Int) ≠ ((0 + n : Nat) : Int) := by omega
      simp [List.count_cons]
      omega
end Go.Proofs.Ytaejojbdkgccpaa

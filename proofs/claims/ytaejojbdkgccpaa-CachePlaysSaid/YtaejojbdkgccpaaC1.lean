/-
  A thread's cache, in lists and numbers alone.
-/
import Derived.Test.YtaejojbdkgccpaaSl
namespace Go.Proofs.Ytaejojbdkgccpaa

/-- the list of a class: the oldest object first -/
structure CL where
  objs : List Int
  lim : Nat
  low : Nat
def CL.new : CL := ⟨[], 1, 0⟩
def CL.ok (x : CL) : Prop := 1 ≤ x.lim ∧ x.lim ≤ 128 ∧ x.low ≤ x.objs.length ∧ x.objs.length ≤ 256
theorem CL.ok_new : CL.new.ok := ⟨by decide, by decide, by decide, by decide⟩

def CL.takeF (b : Nat) (x : CL) : CL :=
  if x.objs.length = 0 then ⟨x.objs, if x.lim < b then x.lim + 1 else min (x.lim + b) 128, x.low⟩ else ⟨x.objs.take (x.objs.length - 1), x.lim, min x.low (x.objs.length - 1)⟩
def CL.takeV (x : CL) : Int := x.objs.getLast?.getD 0
def CL.takeE (x : CL) : Int := if x.objs.length = 0 then 4 else 0
def CL.wantV (b : Nat) (x : CL) : Nat := min x.lim b
def CL.fillE (x : CL) (ys : List Int) : Int := if 256 < x.objs.length + ys.length then 6 else 0
def CL.fillF (x : CL) (ys : List Int) : CL := if 256 < x.objs.length + ys.length then x else ⟨x.objs ++ ys.reverse, x.lim, x.low⟩
def CL.oldest (n : Nat) (x : CL) : CL := ⟨x.objs.drop n, x.lim, min x.low (x.objs.length - n)⟩
def CL.putE (x : CL) : Int := if 256 < x.objs.length + 1 then 6 else 0
def CL.putL (b : Nat) (x : CL) (a : Int) : List Int := if 256 < x.objs.length + 1 then [] else if x.objs.length + 1 ≤ x.lim then [] else (x.objs ++ [a]).take (min b (x.objs.length + 1))
def CL.putF (b : Nat) (x : CL) (a : Int) : CL :=
  if 256 < x.objs.length + 1 then x else if x.objs.length + 1 ≤ x.lim then ⟨x.objs ++ [a], x.lim, x.low⟩
  else CL.oldest (min b (x.objs.length + 1)) ⟨x.objs ++ [a], if x.lim < b then x.lim + 1 else x.lim, x.low⟩
def CL.scavN (x : CL) : Nat := (x.low + 1) / 2
def CL.scavL (x : CL) : List Int := x.objs.take x.scavN
def CL.scavF (b : Nat) (x : CL) : CL := ⟨x.objs.drop x.scavN, if b < x.lim then max (x.lim - b) b else x.lim, x.objs.length - x.scavN⟩
def CL.drainF (x : CL) : CL := ⟨[], x.lim, 0⟩

/-- a list that was never used is not touched -/
theorem CL.scav_new {b : Nat} (hb : 1 ≤ b) : CL.new.scavF b = CL.new := by
  unfold CL.scavF CL.new CL.scavN
  simp
  omega
theorem CL.scavL_new : CL.new.scavL = [] := rfl
theorem CL.drain_new : CL.new.drainF = CL.new := rfl

theorem CL.ok_take {x : CL} (h : x.ok) {b : Nat} (hb : 1 ≤ b ∧ b ≤ 32) : (x.takeF b).ok := by
  obtain ⟨h1, h2, h3, h4⟩ := h
  unfold CL.takeF
  split
  · refine ⟨?_, ?_, h3, h4⟩ <;> dsimp only <;> split <;> omega
  · refine ⟨h1, h2, ?_, ?_⟩ <;> simp <;> omega
theorem CL.ok_fill {x : CL} (h : x.ok) (ys : List Int) : (x.fillF ys).ok := by
  obtain ⟨h1, h2, h3, h4⟩ := h
  unfold CL.fillF
  split
  · exact ⟨h1, h2, h3, h4⟩
  · refine ⟨h1, h2, ?_, ?_⟩ <;> simp <;> omega
theorem CL.ok_put {x : CL} (h : x.ok) {b : Nat} (hb : 1 ≤ b ∧ b ≤ 32) (a : Int) : (x.putF b a).ok := by
  obtain ⟨h1, h2, h3, h4⟩ := h
  unfold CL.putF
  split
  · exact ⟨h1, h2, h3, h4⟩
  · split
    · refine ⟨h1, h2, ?_, ?_⟩ <;> simp <;> omega
    · unfold CL.oldest
      refine ⟨?_, ?_, ?_, ?_⟩
      · dsimp only; split <;> omega
      · dsimp only; split <;> omega
      · simp; omega
      · simp; omega
theorem CL.ok_scav {x : CL} (h : x.ok) {b : Nat} (hb : 1 ≤ b ∧ b ≤ 32) : (x.scavF b).ok := by
  obtain ⟨h1, h2, h3, h4⟩ := h
  unfold CL.scavF CL.scavN
  refine ⟨?_, ?_, ?_, ?_⟩
  · dsimp only; split <;> omega
  · dsimp only; split <;> omega
  · simp
  · simp; omega
theorem CL.ok_drain {x : CL} (h : x.ok) : x.drainF.ok := ⟨h.1, h.2.1, Nat.le_refl _, Nat.zero_le _⟩

/-- ten times -/
def CL.scavs (b : Nat) : Nat → CL → CL
  | 0, x => x
  | n + 1, x => CL.scavs b n (x.scavF b)
theorem CL.scav_len {b : Nat} {x : CL} (h : x.low = x.objs.length) : (x.scavF b).objs.length = x.objs.length / 2 ∧ (x.scavF b).low = (x.scavF b).objs.length := by
  unfold CL.scavF CL.scavN
  refine ⟨?_, ?_⟩ <;> simp <;> omega
theorem CL.scavs_len {b : Nat} : ∀ (n : Nat) {x : CL}, x.low = x.objs.length → x.objs.length < 2 ^ n → (CL.scavs b n x).objs = []
  | 0, x, _, h => List.eq_nil_of_length_eq_zero (by show x.objs.length = 0; simp only [Nat.pow_zero] at h; omega)
  | n + 1, x, hl, h => by
    obtain ⟨h1, h2⟩ := CL.scav_len (b := b) hl
    exact CL.scavs_len n h2 (by rw [h1, Nat.pow_succ] at *; omega)
theorem CL.scavs_ten {b : Nat} {x : CL} (h : x.ok) : (CL.scavs b 10 x).objs = [] := by
  show (CL.scavs b 9 (x.scavF b)).objs = []
  refine CL.scavs_len 9 ?_ ?_
  · unfold CL.scavF; simp
  · have := h.2.2.2
    unfold CL.scavF
    simp
    omega

/-- the cache: a list for each class; a call -/
structure ActC where
  kind : Int
  cls : Int
  a : Int
  l : List Int
def updC (s : Nat → CL) (c : Nat) (x : CL) : Nat → CL := fun i => if i = c then x else s i
theorem updC_same (s : Nat → CL) (c : Nat) (x : CL) : updC s c x c = x := if_pos rfl
theorem updC_other (s : Nat → CL) {c i : Nat} (x : CL) (h : i ≠ c) : updC s c x i = s i := if_neg h
def inC (N : Nat) (c : Int) : Prop := 0 ≤ c ∧ c < N
instance (N : Nat) (c : Int) : Decidable (inC N c) := inferInstanceAs (Decidable (_ ∧ _))
def actC (N : Nat) (B : Nat → Nat) (s : Nat → CL) (x : ActC) : Nat → CL :=
  if x.kind = 4 then fun c => (s c).scavF (B c)
  else if x.kind = 5 then fun c => (s c).drainF
  else if ¬ inC N x.cls then s
  else if x.kind = 0 then updC s x.cls.toNat ((s x.cls.toNat).takeF (B x.cls.toNat))
  else if x.kind = 2 then updC s x.cls.toNat ((s x.cls.toNat).fillF x.l)
  else if x.kind = 3 then updC s x.cls.toNat ((s x.cls.toNat).putF (B x.cls.toNat) x.a)
  else s
theorem actC_ok {N : Nat} {B : Nat → Nat} (hB : ∀ c, 1 ≤ B c ∧ B c ≤ 32) {s : Nat → CL} (h : ∀ c, (s c).ok) (x : ActC) : ∀ c, (actC N B s x c).ok := by
  intro c
  have hu : ∀ {y : CL}, y.ok → (updC s x.cls.toNat y c).ok := fun {y} hy => by
    unfold updC
    split
    · exact hy
    · exact h c
  unfold actC
  split
  · exact CL.ok_scav (h c) (hB c)
  split
  · exact CL.ok_drain (h c)
  split
  · exact h c
  split
  · exact hu (CL.ok_take (h _) (hB _))
  split
  · exact hu (CL.ok_fill (h _) _)
  split
  · exact hu (CL.ok_put (h _) (hB _) _)
  · exact h c
end Go.Proofs.Ytaejojbdkgccpaa

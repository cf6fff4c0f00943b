/-
  The order of huge pages in a plan, and the plan: in numbers and lists alone.
-/
import Derived.Test.YtjignbbdgoadjaaH1
namespace Go.Proofs.Ytjignbbdgoadjaa
open Go.RowKit

/-- how a plan compares two huge pages -/
def cfS (s : Nat → Int) (g h : Nat) : Int :=
  if kindS s g - kindS s h ≠ 0 then kindS s g - kindS s h
  else if (ofS s g 1 : Int) - (ofS s h 1 : Int) ≠ 0 then (ofS s g 1 : Int) - (ofS s h 1 : Int) else (h : Int) - (g : Int)
def bef (s : Nat → Int) (g h : Nat) : Bool := decide (cfS s g h < 0)
theorem bef_iff {s : Nat → Int} {g h : Nat} : bef s g h = true ↔ kindS s g < kindS s h ∨ (kindS s g = kindS s h ∧ (ofS s g 1 < ofS s h 1 ∨ (ofS s g 1 = ofS s h 1 ∧ h < g))) := by
  unfold bef cfS
  rw [decide_eq_true_eq]
  generalize kindS s g = a
  generalize kindS s h = b
  generalize ofS s g 1 = x
  generalize ofS s h 1 = y
  by_cases h1 : a - b ≠ 0
  · rw [if_pos h1]
    omega
  · rw [if_neg h1]
    by_cases h2 : (x : Int) - (y : Int) ≠ 0
    · rw [if_pos h2]; omega
    · rw [if_neg h2]; omega
theorem bef_irrefl (s : Nat → Int) (g : Nat) : bef s g g = false := by
  rw [← Bool.not_eq_true, bef_iff]
  omega
theorem bef_trans {s : Nat → Int} {g h k : Nat} (h1 : bef s g h = true) (h2 : bef s h k = true) : bef s g k = true := by
  rw [bef_iff] at *
  omega
theorem bef_total {s : Nat → Int} {g h : Nat} (h1 : bef s g h = false) (h2 : bef s h g = false) : g = h := by
  rw [← Bool.not_eq_true, bef_iff] at h1 h2
  omega
theorem bef_asymm {s : Nat → Int} {g h : Nat} (h1 : bef s g h = true) : bef s h g = false := by
  rw [← Bool.not_eq_true]
  intro h2
  rw [bef_iff] at h1 h2
  omega

/-- the huge pages with backed pages, of the first k -/
def backN (s : Nat → Int) : Nat → List Nat
  | 0 => []
  | k + 1 => if 0 < ofS s k 2 then backN s k ++ [k] else backN s k
theorem backN_mem (s : Nat → Int) : ∀ {k h : Nat}, h ∈ backN s k ↔ h < k ∧ 0 < ofS s h 2
  | 0, h => by simp [backN]
  | k + 1, h => by
    unfold backN
    split
    · rename_i hp
      rw [List.mem_append, backN_mem s, List.mem_singleton]
      constructor
      · rintro (⟨h1, h2⟩ | rfl)
        · exact ⟨by omega, h2⟩
        · exact ⟨by omega, hp⟩
      · rintro ⟨h1, h2⟩
        by_cases e : h = k
        · exact .inr e
        · exact .inl ⟨by omega, h2⟩
    · rename_i hp
      rw [backN_mem s]
      constructor
      · rintro ⟨h1, h2⟩
        exact ⟨by omega, h2⟩
      · rintro ⟨h1, h2⟩
        refine ⟨?_, h2⟩
        by_cases e : h = k
        · subst e; exact absurd h2 hp
        · omega
theorem backN_len (s : Nat → Int) : ∀ k, (backN s k).length ≤ k
  | 0 => Nat.le_refl _
  | k + 1 => by
    have := backN_len s k
    unfold backN
    split
    · rw [List.length_append, List.length_singleton]; omega
    · omega
theorem backN_nodup (s : Nat → Int) : ∀ k, (backN s k).Nodup
  | 0 => List.nodup_nil
  | k + 1 => by
    have ih := backN_nodup s k
    unfold backN
    split
    · rw [List.nodup_append]
      refine ⟨ih, by simp, ?_⟩
      intro a ha b hb
      rw [List.mem_singleton] at hb
      have := (backN_mem s).1 ha
      omega
    · exact ih

/-- two sorted lists of the same numbers are one -/
theorem sorted_one {s : Nat → Int} : ∀ {l m : List Nat}, l.Perm m → l.Pairwise (fun x y => bef s x y = true) → m.Pairwise (fun x y => bef s x y = true) → l = m
  | [], m, hp, _, _ => hp.nil_eq
  | x :: l, [], hp, _, _ => by have := hp.length_eq; simp at this
  | x :: l, y :: m, hp, hl, hm => by
    have hx : x ∈ y :: m := hp.subset (by simp)
    have hy : y ∈ x :: l := hp.symm.subset (by simp)
    have hxy : x = y := by
      rcases List.mem_cons.1 hx with h | h
      · exact h
      · rcases List.mem_cons.1 hy with h' | h'
        · exact h'.symm
        · have h1 := List.rel_of_pairwise_cons hm h
          have h2 := List.rel_of_pairwise_cons hl h'
          rw [bef_asymm h1] at h2
          cases h2
    subst hxy
    rw [sorted_one (List.Perm.cons_inv hp) hl.of_cons hm.of_cons]

def backF (s : Nat → Int) (N : Nat) : List (Fin N) := (backN s N).pmap (fun h hh => ⟨h, hh⟩) fun _ hh => ((backN_mem s).1 hh).1
theorem backF_val (s : Nat → Int) (N : Nat) : (backF s N).map Fin.val = backN s N := by
  unfold backF
  rw [List.map_pmap]
  simp
/-- the order in which a plan considers the huge pages -/
def ordL (s : Nat → Int) (N : Nat) : List Nat := ((backF s N).mergeSort fun x y => !bef s y.val x.val).map Fin.val
theorem ordL_perm (s : Nat → Int) (N : Nat) : (ordL s N).Perm (backN s N) := by
  unfold ordL
  rw [← backF_val s N]
  exact (List.mergeSort_perm _ _).map _
theorem ordL_nodup (s : Nat → Int) (N : Nat) : (ordL s N).Nodup := (ordL_perm s N).nodup_iff.2 (backN_nodup s N)
theorem ordL_mem {s : Nat → Int} {N h : Nat} : h ∈ ordL s N ↔ h < N ∧ 0 < ofS s h 2 := by rw [(ordL_perm s N).mem_iff, backN_mem]
theorem ordL_len (s : Nat → Int) (N : Nat) : (ordL s N).length ≤ N := by rw [(ordL_perm s N).length_eq]; exact backN_len s N
theorem ordL_sorted (s : Nat → Int) (N : Nat) : (ordL s N).Pairwise fun x y => bef s x y = true := by
  have h := List.pairwise_mergeSort (le := fun x y : Fin N => !bef s y.val x.val)
    (fun a b c h1 h2 => by
      simp only [Bool.not_eq_true', ← Bool.not_eq_true, bef_iff] at *
      omega)
    (fun a b => by
      simp only [Bool.or_eq_true, Bool.not_eq_true', ← Bool.not_eq_true, bef_iff]
      omega) (backF s N)
  have hn := ordL_nodup s N
  unfold ordL at hn ⊢
  rw [List.nodup_iff_pairwise_ne, List.pairwise_map] at hn
  rw [List.pairwise_map]
  refine (h.and hn).imp ?_
  rintro a b ⟨h1, h2⟩
  have h1' : bef s b.val a.val = false := by simpa using h1
  cases hb : bef s a.val b.val
  · exact absurd (bef_total hb h1') h2
  · rfl
theorem ordL_one {s : Nat → Int} {N : Nat} {l : List Nat} (hp : l.Perm (backN s N)) (hs : l.Pairwise fun x y => bef s x y = true) : l = ordL s N := sorted_one (hp.trans (ordL_perm s N).symm) hs (ordL_sorted s N)
end Go.Proofs.Ytjignbbdgoadjaa

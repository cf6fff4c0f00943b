/-
  How many of the first n; a list of numbers that a function gives, in memory.
-/
import Derived.Test.YtaejojbdkgccpaaStar
namespace Go.Proofs.Ytaejojbdkgccpaa
open Go.RowKit

/-- how many of the first n -/
def cnt : Nat → (Nat → Bool) → Nat
  | 0, _ => 0
  | n + 1, P => cnt n P + if P n = true then 1 else 0
theorem cnt_le : ∀ (n : Nat) (P : Nat → Bool), cnt n P ≤ n
  | 0, _ => Nat.le_refl _
  | n + 1, P => by
    have := cnt_le n P
    unfold cnt
    split <;> omega
theorem cnt_ext : ∀ {n : Nat} {P Q : Nat → Bool}, (∀ j, j < n → P j = Q j) → cnt n P = cnt n Q
  | 0, _, _, _ => rfl
  | n + 1, P, Q, h => by
    unfold cnt
    rw [cnt_ext fun j hj => h j (by omega), h n (by omega)]
theorem cnt_true {n : Nat} {P : Nat → Bool} (h : P n = true) : cnt (n + 1) P = cnt n P + 1 := by
  show cnt n P + _ = _
  rw [if_pos h]
theorem cnt_false {n : Nat} {P : Nat → Bool} (h : P n = false) : cnt (n + 1) P = cnt n P := by
  show cnt n P + _ = _
  rw [if_neg (by simp [h])]
  rfl
theorem cnt_skip {P : Nat → Bool} : ∀ (m n : Nat), (∀ j, j < m → P (n + j) = false) → cnt (n + m) P = cnt n P
  | 0, _, _ => rfl
  | m + 1, n, h => by
    rw [← Nat.add_assoc, cnt_false (h m (by omega)), cnt_skip m n fun j hj => h j (by omega)]
theorem cnt_add (P : Nat → Bool) (n : Nat) : ∀ m, cnt (n + m) P = cnt n P + cnt m fun j => P (n + j)
  | 0 => rfl
  | m + 1 => by
    rw [← Nat.add_assoc]
    show cnt (n + m) P + _ = _ + (cnt m _ + _)
    rw [cnt_add P n m]
    exact Nat.add_assoc _ _ _
theorem cnt_zero_iff {P : Nat → Bool} : ∀ {n : Nat}, cnt n P = 0 ↔ ∀ j, j < n → P j = false
  | 0 => by simp [cnt]
  | n + 1 => by
    constructor
    · intro h j hj
      have h2 : cnt n P + (if P n = true then 1 else 0) = 0 := h
      by_cases e : j = n
      · subst e
        cases hp : P j
        · rfl
        · rw [hp] at h2; simp at h2
      · exact cnt_zero_iff.1 (by omega : cnt n P = 0) j (by omega)
    · intro h
      rw [cnt_false (h n (by omega))]
      exact cnt_zero_iff.2 fun j hj => h j (by omega)
theorem cnt_pos_iff {P : Nat → Bool} {n : Nat} : 0 < cnt n P ↔ ∃ j, j < n ∧ P j = true := by
  constructor
  · intro h
    refine Classical.byContradiction fun hc => ?_
    have : cnt n P = 0 := cnt_zero_iff.2 fun j hj => by
      cases hp : P j
      · rfl
      · exact absurd ⟨j, hj, hp⟩ hc
    omega
  · rintro ⟨j, hj, hp⟩
    refine Nat.pos_of_ne_zero fun h0 => ?_
    rw [cnt_zero_iff.1 h0 j hj] at hp
    cases hp
theorem cnt_all_iff {P : Nat → Bool} : ∀ {n : Nat}, cnt n P = n ↔ ∀ j, j < n → P j = true
  | 0 => by simp [cnt]
  | n + 1 => by
    have hle := cnt_le n P
    constructor
    · intro h j hj
      have h2 : cnt n P + (if P n = true then 1 else 0) = n + 1 := h
      have h3 : P n = true := by
        cases hp : P n
        · rw [hp] at h2; simp at h2; omega
        · rfl
      rw [if_pos h3] at h2
      by_cases e : j = n
      · subst e; exact h3
      · exact cnt_all_iff.1 (by omega : cnt n P = n) j (by omega)
    · intro h
      rw [cnt_true (h n (by omega)), cnt_all_iff.2 fun j hj => h j (by omega)]

/-- the numbers of a function, as cells -/
def numsF (m : Nat) (f : Nat → Int) : List Value := (List.range m).map fun p => .int .i64 (f p)
theorem numsF_len (m : Nat) (f : Nat → Int) : (numsF m f).length = m := by simp [numsF]
theorem numsF_get {m : Nat} {f : Nat → Int} {p : Nat} (h : p < m) : (numsF m f)[p]? = some (.int .i64 (f p)) := by simp [numsF, h]
theorem numsF_set {m : Nat} {f : Nat → Int} {p : Nat} (no : Int) : (numsF m f).set p (.int .i64 no) = numsF m (upd f p no) := by
  apply List.ext_getElem?
  intro j
  by_cases hj : j < m
  · rw [numsF_get hj, List.getElem?_set]
    unfold upd
    by_cases e : p = j
    · subst e; simp [numsF_len, hj]
    · rw [if_neg e, numsF_get hj, if_neg (by omega)]
  · rw [List.getElem?_eq_none (by rw [List.length_set, numsF_len]; omega), List.getElem?_eq_none (by rw [numsF_len]; omega)]
theorem numsF_one (m : Nat) (f : Nat → Int) : ∀ u ∈ numsF m f, u.oneCell' = true := by
  intro u hu
  unfold numsF at hu
  simp only [List.mem_map] at hu
  obtain ⟨p, _, rfl⟩ := hu
  rfl
theorem numsF_ext {m : Nat} {f g : Nat → Int} (h : ∀ p, p < m → f p = g p) : numsF m f = numsF m g := by
  unfold numsF
  exact List.map_congr_left fun p hp => by rw [h p (List.mem_range.1 hp)]
/-- a store into a slice of one's own -/
theorem HP.arr_set {w0 w : World} {F : List HP} {t : TypeId} {sz n b off cap : Nat} {xs : List Value} (i : Nat) (u : Value) (hi : i < n * sz)
    (h : St w0 (HP.arr t sz (.slice (some ⟨b, off, none⟩) n cap) n xs :: F) w) : St w0 (HP.arr t sz (.slice (some ⟨b, off, none⟩) n cap) n (xs.set i u) :: F) (w.setCell ⟨b, off + i, none⟩ u) ∧ w.frozen? ⟨b, off + i, none⟩ = false := by
  obtain ⟨hb, m, ⟨m1, m2, ap, e, ⟨hl, ⟨hv, h0, _⟩ | ⟨b1, off1, cap1, c, hv, hc, hm, hs, hx, hme⟩⟩, h2⟩, hh⟩ := h
  · cases hv
  · cases hv
    have h3 : St w0 (HP.blk b c t :: F) w := ⟨hb, m, ⟨m1, m2, ap, e, hme, h2⟩, hh⟩
    have hcs : n * sz ≤ cap * sz := Nat.mul_le_mul_right _ hc
    refine ⟨(h3.set (off + i) u).mono (HP.arr_of_blk (by rw [List.length_set]; exact hl) hc hm (by simp; exact hs) fun j x hj => ?_), h3.frozen _⟩
    rw [Array.getElem?_setIfInBounds]
    by_cases hij : i = j
    · subst hij
      rw [List.getElem?_set_self (by omega)] at hj
      rw [if_pos rfl, if_pos (by omega)]
      exact hj
    · rw [List.getElem?_set_ne hij] at hj
      rw [if_neg (by omega)]
      exact hx j x hj
/-- the cells of a slice of one's own can be read -/
theorem HP.arr_cell {w0 w : World} {F : List HP} {t : TypeId} {m b off cap : Nat} {xs : List Value} (h : St w0 (HP.arr t 1 (.slice (some ⟨b, off, none⟩) m cap) m xs :: F) w) {p : Nat} {x : Value} (hx : xs[p]? = some x) : w.cell? ⟨b, off + p, none⟩ = some x := by
  have hl := (HP.arr_reads h).len
  have hp := (List.getElem?_eq_some_iff.1 hx).1
  obtain ⟨b', off', cap', hv, _, hc⟩ := (HP.arr_reads h).lies (by omega)
  cases hv
  exact hc p _ hx
end Go.Proofs.Ytaejojbdkgccpaa

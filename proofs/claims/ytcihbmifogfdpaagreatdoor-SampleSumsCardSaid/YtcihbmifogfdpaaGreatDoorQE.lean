/-
  Plain law of sample.Diff's map: rows by their sites.
-/
import Derived.Test.YtcihbmifogfdpaaGreatDoorRF
import Derived.Test.YtcihbmifogfdpaaGreatDoorMapG
namespace Go.Proofs.YtcihbmifogfdpaaGreatDoor
open Go.RowKit

def zeroR (s : ByteArray) : Rw := ⟨s, 0, 0, 0, 0⟩
def look (R : List Rw) (s : ByteArray) : Option Rw := R.find? fun y => decide (y.site = s)
/-- the numbers are added to those that lie there, sg times -/
def sumR (sg : Int) (r x : Rw) : Rw := ⟨r.site, x.a + sg * r.a, x.b + sg * r.b, x.c + sg * r.c, x.d + sg * r.d⟩
def newR (sg : Int) (r : Rw) (R : List Rw) : Rw := sumR sg r ((look R r.site).getD (zeroR ⟨#[]⟩))
def bump (sg : Int) (r : Rw) (R : List Rw) : List Rw := if R.any (fun y => decide (y.site = r.site)) then R.map (fun y => if y.site = r.site then newR sg r R else y) else R ++ [newR sg r R]
def kvs (R : List Rw) : List (ByteArray × Value) := R.map fun r => (r.site, r.val)
theorem getG_kvs (R : List Rw) (s : ByteArray) : getG (kvs R) s = (look R s).map Rw.val := by
  unfold getG look kvs
  induction R with
  | nil => rfl
  | cons y R ih =>
    simp only [List.map_cons, List.find?_cons]
    by_cases h : y.site = s
    · simp [h]
    · simp only [h, decide_false]
      exact ih
theorem putG_kvs (sg : Int) (r : Rw) (R : List Rw) : putG (kvs R) r.site (newR sg r R).val = kvs (bump sg r R) := by
  unfold putG bump kvs
  rw [List.any_map]
  have e : ((fun x : ByteArray × Value => decide (x.1 = r.site)) ∘ fun r : Rw => (r.site, r.val)) = fun y : Rw => decide (y.site = r.site) := rfl
  rw [e]
  split
  · rw [List.map_map, List.map_map]
    refine List.map_congr_left fun y _ => ?_
    simp only [Function.comp]
    by_cases h : y.site = r.site
    · rw [if_pos h, if_pos h]; rfl
    · rw [if_neg h, if_neg h]
  · rw [List.map_append]; rfl
theorem lookR_mem {R : List Rw} {s : ByteArray} {x : Rw} (h : look R s = some x) : x ∈ R ∧ x.site = s := ⟨List.mem_of_find?_eq_some h, by simpa using List.find?_some h⟩
theorem lookR_none {R : List Rw} {s : ByteArray} (h : look R s = none) : ∀ y ∈ R, y.site ≠ s := fun y hy e => by
  have := List.find?_eq_none.1 h y hy
  simp [e] at this
theorem newR_site (sg : Int) (r : Rw) (R : List Rw) : (newR sg r R).site = r.site := rfl
theorem bump_sites (sg : Int) (r : Rw) (R : List Rw) : (bump sg r R).map Rw.site = if R.any (fun y => decide (y.site = r.site)) then R.map Rw.site else R.map Rw.site ++ [r.site] := by
  unfold bump
  split
  · rw [List.map_map]
    refine List.map_congr_left fun y _ => ?_
    simp only [Function.comp]
    by_cases h : y.site = r.site
    · rw [if_pos h, h]; rfl
    · rw [if_neg h]
  · rw [List.map_append]; rfl
theorem bump_nodup {sg : Int} {r : Rw} {R : List Rw} (h : (R.map Rw.site).Nodup) : ((bump sg r R).map Rw.site).Nodup := by
  rw [bump_sites]
  split
  · exact h
  · rename_i h2
    rw [List.nodup_append]
    refine ⟨h, by simp, fun a ha b hb e => ?_⟩
    simp only [List.mem_singleton] at hb
    obtain ⟨y, hy, rfl⟩ := List.mem_map.1 ha
    apply h2
    rw [List.any_eq_true]
    exact ⟨y, hy, by simp [e, hb]⟩
theorem fld_sum (sg : Int) (r x : Rw) (j : Nat) : fld j (sumR sg r x) = fld j x + sg * fld j r := by
  match j with
  | 0 | 1 | 2 | _ + 3 => rfl
theorem fld_zero (s : ByteArray) (j : Nat) : fld j (zeroR s) = 0 := by
  match j with
  | 0 | 1 | 2 | _ + 3 => rfl
theorem lookR_at {R : List Rw} (h : (R.map Rw.site).Nodup) (j : Nat) (s : ByteArray) : fld j ((look R s).getD (zeroR ⟨#[]⟩)) = tot j R s := by
  cases hl : look R s with
  | none => simp only [Option.getD_none, fld_zero, tot_out j s (lookR_none hl)]
  | some x =>
    obtain ⟨h1, h2⟩ := lookR_mem hl
    subst h2
    exact (tot_mem j h h1).symm
theorem bump_mem (sg : Int) (r : Rw) (R : List Rw) : newR sg r R ∈ bump sg r R := by
  unfold bump
  split
  · rename_i h
    obtain ⟨y, hy, e⟩ := List.any_eq_true.1 h
    refine List.mem_map.2 ⟨y, hy, ?_⟩
    rw [if_pos (by simpa using e)]
  · simp
theorem tot_bump {sg : Int} {r : Rw} {R : List Rw} (h : (R.map Rw.site).Nodup) (j : Nat) (s : ByteArray) : tot j (bump sg r R) s = tot j R s + (if r.site = s then sg * fld j r else 0) := by
  by_cases e : r.site = s
  · subst e
    rw [if_pos rfl]
    have h1 := tot_mem j (bump_nodup (sg := sg) (r := r) h) (bump_mem sg r R)
    rw [newR_site] at h1
    rw [h1]
    unfold newR
    rw [fld_sum, lookR_at h]
  · rw [if_neg e, Int.add_zero]
    unfold bump
    split
    · have : ∀ l : List Rw, tot j (l.map fun y => if y.site = r.site then newR sg r R else y) s = tot j l s := by
        intro l
        induction l with
        | nil => rfl
        | cons y l ih =>
          simp only [List.map_cons, tot, ih]
          by_cases h1 : y.site = r.site
          · have h2 : (newR sg r R).site ≠ s := e
            have h3 : y.site ≠ s := by rw [h1]; exact e
            simp only [if_pos h1, if_neg h2, if_neg h3]
          · simp only [if_neg h1]
      exact this R
    · rw [tot_app]
      simp only [tot]
      have h2 : (newR sg r R).site ≠ s := e
      rw [if_neg h2]
      omega
def bumpAll (sg : Int) (l R : List Rw) : List Rw := l.foldl (fun R r => bump sg r R) R
theorem bumpAll_snoc (sg : Int) (l R : List Rw) (r : Rw) : bumpAll sg (l ++ [r]) R = bump sg r (bumpAll sg l R) := by simp [bumpAll]
theorem bumpAll_nodup {sg : Int} : ∀ {l R : List Rw}, (R.map Rw.site).Nodup → ((bumpAll sg l R).map Rw.site).Nodup
  | [], _, h => h
  | r :: l, _, h => bumpAll_nodup (l := l) (bump_nodup h)
theorem tot_bumpAll {sg : Int} (j : Nat) (s : ByteArray) : ∀ {l R : List Rw}, (R.map Rw.site).Nodup → tot j (bumpAll sg l R) s = tot j R s + sg * tot j l s
  | [], R, _ => by simp [bumpAll, tot]
  | r :: l, R, h => by
    have := tot_bumpAll (sg := sg) j s (l := l) (bump_nodup (sg := sg) (r := r) h)
    show tot j (bumpAll sg l (bump sg r R)) s = _
    rw [this, tot_bump h]
    simp only [tot, Int.mul_add]
    split
    · omega
    · rw [Int.mul_zero]; omega
theorem newR_bnd {sg B C : Int} (hsg : sg = 1 ∨ sg = -1) (hB : 0 ≤ B) {r : Rw} (hr : Bnd C r) {R : List Rw} (h : ∀ x ∈ R, Bnd B x) : Bnd (B + C) (newR sg r R) := by
  have hx : Bnd B ((look R r.site).getD (zeroR ⟨#[]⟩)) := by
    cases hl : look R r.site with
    | none => exact ⟨⟨by simp [zeroR]; omega, by simp [zeroR]; omega⟩, ⟨by simp [zeroR]; omega, by simp [zeroR]; omega⟩, ⟨by simp [zeroR]; omega, by simp [zeroR]; omega⟩, ⟨by simp [zeroR]; omega, by simp [zeroR]; omega⟩⟩
    | some x => exact h x (lookR_mem hl).1
  unfold newR
  generalize (look R r.site).getD (zeroR ⟨#[]⟩) = x at hx
  obtain ⟨h1, h2, h3, h4⟩ := hr
  obtain ⟨k1, k2, k3, k4⟩ := hx
  unfold Bnd sumR
  simp only
  rcases hsg with rfl | rfl
  · exact ⟨by omega, by omega, by omega, by omega⟩
  · exact ⟨by omega, by omega, by omega, by omega⟩
theorem bump_bnd {sg B C : Int} (hsg : sg = 1 ∨ sg = -1) (hB : 0 ≤ B) (hC : 0 ≤ C) {r : Rw} (hr : Bnd C r) {R : List Rw} (h : ∀ x ∈ R, Bnd B x) : ∀ x ∈ bump sg r R, Bnd (B + C) x := by
  intro x hx
  have hn := newR_bnd hsg hB hr h
  unfold bump at hx
  split at hx
  · obtain ⟨y, hy, rfl⟩ := List.mem_map.1 hx
    split
    · exact hn
    · exact (h y hy).mono (by omega)
  · rcases List.mem_append.1 hx with hx | hx
    · exact (h x hx).mono (by omega)
    · rw [List.mem_singleton] at hx
      subst hx
      exact hn
theorem bump_len (sg : Int) (r : Rw) (R : List Rw) : (bump sg r R).length ≤ R.length + 1 := by
  unfold bump
  split <;> simp
theorem bumpAll_bnd {sg C : Int} (hsg : sg = 1 ∨ sg = -1) (hC : 0 ≤ C) : ∀ (l : List Rw) {B : Int} {R : List Rw}, 0 ≤ B → (∀ x ∈ l, Bnd C x) → (∀ x ∈ R, Bnd B x) → ∀ x ∈ bumpAll sg l R, Bnd (B + l.length * C) x
  | [], B, R, _, _, h, x, hx => by
    have := h x hx
    simpa using this
  | r :: l, B, R, hB, hl, h, x, hx => by
    have h1 := bump_bnd hsg hB hC (hl r (List.mem_cons_self ..)) h
    have h2 := bumpAll_bnd hsg hC l (B := B + C) (R := bump sg r R) (by omega) (fun y hy => hl y (List.mem_cons_of_mem _ hy)) h1 x hx
    have e : B + C + (l.length : Int) * C = B + ((r :: l).length : Int) * C := by
      simp only [List.length_cons, Int.natCast_add, Int.add_mul, Int.cast_ofNat_Int, Int.one_mul]
      omega
    rwa [e] at h2
theorem bumpAll_len (sg : Int) : ∀ (l R : List Rw), (bumpAll sg l R).length ≤ R.length + l.length
  | [], R => by simp [bumpAll]
  | r :: l, R => by
    have h1 := bumpAll_len sg l (bump sg r R)
    have h2 := bump_len sg r R
    show (bumpAll sg l (bump sg r R)).length ≤ _
    simp only [List.length_cons]
    omega
end Go.Proofs.YtcihbmifogfdpaaGreatDoor

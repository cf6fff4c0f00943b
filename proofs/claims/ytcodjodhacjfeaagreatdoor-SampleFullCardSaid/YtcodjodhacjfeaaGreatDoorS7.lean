/-
  The sites of SampleFull, and its rows.
-/
import Derived.Test.YtcodjodhacjfeaaGreatDoorS4
import Derived.Test.YtcodjodhacjfeaaGreatDoorS3
import Derived.Test.YtcodjodhacjfeaaGreatDoorS6
namespace Go.Proofs.YtcodjodhacjfeaaGreatDoor
open Go.RowKit

def dig3 (u : Nat) : List UInt8 := [UInt8.ofNat (48 + u / 100), UInt8.ofNat (48 + u / 10 % 10), UInt8.ofNat (48 + u % 10)]
theorem dec3 {u : Nat} (h1 : 100 ≤ u) (h2 : u < 1000) : Lib.decDigits u = dig3 u := by
  rw [decD_big (by omega), decD_big (by omega), Lib.decDigits_one (by omega), show u / 10 / 10 = u / 100 by omega]
  rfl
def siteF (j : Nat) : ByteArray := ⟨(115 :: dig3 (100 + j)).toArray⟩
theorem sites_ok : (List.range 200).all (fun j => siteL (siteF j).data.toList) = true := by decide +kernel
theorem siteF_ok {j : Nat} (h : j < 200) : isSiteB (siteF j) = true := by
  rw [isSite_L]
  exact List.all_eq_true.1 sites_ok j (List.mem_range.2 h)
theorem siteF_inj {i j : Nat} (hi : i < 200) (hj : j < 200) (h : siteF i = siteF j) : i = j := by
  unfold siteF dig3 at h
  injection h with h
  injection h with h
  injection h with _ h
  injection h with h1 h
  injection h with h2 h
  injection h with h3 h
  have e : ∀ k : Nat, k < 10 → (UInt8.ofNat (48 + k)).toNat = 48 + k := fun k hk => digit_nat hk
  have h1 := congrArg UInt8.toNat h1
  have h2 := congrArg UInt8.toNat h2
  have h3 := congrArg UInt8.toNat h3
  rw [e _ (by omega), e _ (by omega)] at h1 h2 h3
  omega
theorem siteF_size (j : Nat) : (siteF j).size = 4 := rfl
theorem zz_ok : isSiteB ⟨#[122, 122]⟩ = true := by rw [isSite_L]; decide +kernel
def rowF (j : Nat) : Rw := ⟨siteF j, 0, 0, 1, 8⟩
def rowsF (i : Nat) : List Rw := (List.range i).map rowF
theorem rowsF_len (i : Nat) : (rowsF i).length = i := by simp [rowsF]
theorem rowsF_succ (i : Nat) : rowsF (i + 1) = rowsF i ++ [rowF i] := by simp [rowsF, List.range_succ]
theorem rowsF_mem {i : Nat} {r : Rw} (h : r ∈ rowsF i) : ∃ j, j < i ∧ r = rowF j := by
  obtain ⟨j, hj, rfl⟩ := List.mem_map.1 h
  exact ⟨j, List.mem_range.1 hj, rfl⟩
theorem rowsF_new {i : Nat} (h : i < 200) : ∀ r ∈ rowsF i, r.site ≠ siteF i := fun r hr e => by
  obtain ⟨j, hj, rfl⟩ := rowsF_mem hr
  have := siteF_inj (by omega) h e
  omega
theorem lookR_no {R : List Rw} {s : ByteArray} (h : ∀ r ∈ R, r.site ≠ s) : look R s = none := by
  unfold look
  rw [List.find?_eq_none]
  intro r hr
  simpa using h r hr
theorem lookR_yes {R : List Rw} {r : Rw} (hn : (R.map Rw.site).Nodup) (h : r ∈ R) : look R r.site = some r := by
  cases hl : look R r.site with
  | none => exact absurd rfl (lookR_none hl r h)
  | some x =>
    obtain ⟨h1, h2⟩ := lookR_mem hl
    rw [site_inj hn h1 h h2]
theorem putR_new {R : List Rw} {r : Rw} (h : ∀ x ∈ R, x.site ≠ r.site) : putR R r = R ++ [r] := by
  unfold putR
  rw [if_neg]
  intro ha
  obtain ⟨x, hx, e⟩ := List.any_eq_true.1 ha
  exact h x hx (by simpa using e)
theorem putR_last {R : List Rw} {r q : Rw} (h : ∀ x ∈ R, x.site ≠ r.site) (hq : q.site = r.site) : putR (R ++ [q]) r = R ++ [r] := by
  unfold putR
  rw [if_pos (by simp [hq]), List.map_append]
  congr 1
  · have : R.map (fun y => if y.site = r.site then r else y) = R.map id := List.map_congr_left fun y hy => if_neg (h y hy)
    rw [this, List.map_id]
  · simp [hq]
theorem rowsF_nodup {i : Nat} (h : i ≤ 200) : ((rowsF i).map Rw.site).Nodup := by
  unfold rowsF
  rw [List.map_map, List.nodup_iff_pairwise_ne, List.pairwise_map]
  refine List.Pairwise.imp_of_mem ?_ (List.nodup_iff_pairwise_ne.1 List.nodup_range)
  intro a b ha hb hab e
  exact hab (siteF_inj (by have := List.mem_range.1 ha; omega) (by have := List.mem_range.1 hb; omega) e)
theorem rowsF_bnd (i : Nat) : ∀ r ∈ rowsF i, Bnd 2305843009213693952 r := fun r hr => by
  obtain ⟨j, _, rfl⟩ := rowsF_mem hr
  simp [Bnd, rowF]
theorem rowsF_site (i : Nat) : ∀ r ∈ rowsF i, r.site.size ≤ 1000 := fun r hr => by
  obtain ⟨j, _, rfl⟩ := rowsF_mem hr
  show (siteF j).size ≤ 1000
  rw [siteF_size]; decide
def smpF (i : Nat) (w : Int) (sz : Int) : Smp := ⟨4096, sz, w, siteF i⟩
/-- a block at a new site, and back -/
theorem moreF {i : Nat} (h : i < 200) : moreR (rowsF i) 8 (siteF i) = rowsF i ++ [⟨siteF i, 1, 8, 1, 8⟩] := by
  unfold moreR
  simp only [lookR_no (rowsF_new h), Option.getD_none, zeroR]
  exact putR_new (rowsF_new h)
theorem lessF {i : Nat} (h : i < 200) : forgetR [⟨4096, 8, 8, siteF i⟩] (rowsF i ++ [⟨siteF i, 1, 8, 1, 8⟩]) 4096 = rowsF (i + 1) := by
  have hl : look (rowsF i ++ [⟨siteF i, 1, 8, 1, 8⟩]) (siteF i) = some ⟨siteF i, 1, 8, 1, 8⟩ := by
    have := lookR_no (rowsF_new h)
    unfold look at this ⊢
    rw [List.find?_append, this]
    simp
  unfold forgetR
  have hk : lookK [⟨4096, 8, 8, siteF i⟩] 4096 = some ⟨4096, 8, 8, siteF i⟩ := by simp [lookK]
  rw [hk]
  simp only [hl, Option.getD_some]
  rw [rowsF_succ]
  exact putR_last (rowsF_new h) rfl
theorem wfF (i : Nat) : SmWf [] (rowsF i) := ⟨fun _ h => (by cases h), fun _ h => (by cases h), fun _ h => (by cases h), rowsF_bnd i, fun r hr => Nat.le_trans (rowsF_site i r hr) (by decide)⟩
theorem wfF1 {i : Nat} (h : i < 200) : SmWf [⟨4096, 8, 8, siteF i⟩] (rowsF i ++ [⟨siteF i, 1, 8, 1, 8⟩]) := by
  refine ⟨fun x hx => ?_, fun x hx => ?_, fun x hx => ?_, fun r hr => ?_, fun r hr => ?_⟩
  · rw [List.mem_singleton] at hx; subst hx; show (siteF i).size ≤ _; rw [siteF_size]; decide
  · rw [List.mem_singleton] at hx; subst hx; simp
  · rw [List.mem_singleton] at hx; subst hx
    refine ⟨⟨siteF i, 1, 8, 1, 8⟩, ?_⟩
    have := lookR_no (rowsF_new h)
    unfold look at this ⊢
    rw [List.find?_append, this]
    simp
  · rcases List.mem_append.1 hr with hr | hr
    · exact rowsF_bnd i r hr
    · rw [List.mem_singleton] at hr; subst hr; simp [Bnd]
  · rcases List.mem_append.1 hr with hr | hr
    · exact Nat.le_trans (rowsF_site i r hr) (by decide)
    · rw [List.mem_singleton] at hr; subst hr; show (siteF i).size ≤ _; rw [siteF_size]; decide
end Go.Proofs.YtcodjodhacjfeaaGreatDoor

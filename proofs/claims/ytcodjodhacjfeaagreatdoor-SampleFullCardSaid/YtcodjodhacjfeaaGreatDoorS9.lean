/-
  SampleFull: the walk.
-/
import Derived.Test.YtcodjodhacjfeaaGreatDoorS8
import Derived.Test.YtcodjodhacjfeaaGreatDoorS2b
namespace Go.Proofs.YtcodjodhacjfeaaGreatDoor
open Go.RowKit Cl

theorem siteD {k : Nat} (h : k < 200) : (⟨#[115]⟩ : ByteArray) ++ ⟨(Lib.decDigits (100 + k)).toArray⟩ = siteF k := by
  rw [dec3 (by omega) (by omega)]
  apply ByteArray.ext
  simp [siteF, dig3]
theorem marks1 (k : Nat) : Int.tdiv (8 * (k : Int) + 8) 8 - Int.tdiv (8 * (k : Int)) 8 = 1 := by
  rw [Int.tdiv_eq_ediv_of_nonneg (by omega), Int.tdiv_eq_ediv_of_nonneg (by omega)]; omega
theorem tdiv_bnd {x : Int} (h0 : 0 ≤ x) (h1 : x ≤ 1152921504606846976) : 0 ≤ Int.tdiv x 8 ∧ Int.tdiv x 8 ≤ 1152921504606846976 := by
  rw [Int.tdiv_eq_ediv_of_nonneg h0]; omega
theorem srt_unique {l m : List Rw} (hl : Srt l) (hm : Srt m) (h : l.Perm m) : l = m := by
  refine List.Perm.eq_of_pairwise (le := fun (x y : Rw) => ltB x.site y.site = true) (fun a b _ _ h1 h2 => ?_) hl hm h
  rw [ltB_iff] at h1 h2
  exact absurd (List.lt_trans h1 h2) (List.lt_irrefl _)

section
variable {wr w : World} {A : List HP}
/-- a round: Malloc -/
theorem rnd_malloc {p : Pl} {b mk mr k : Nat} (hk : k < 200) (hg : Globs wr) (hb : p.base = 0) (hs : St wr (smpL b mk mr (.pointer (some ⟨p.blk, 0, none⟩)) 8 (8 * (k : Int)) [] (rowsF k) (hpF wr p k :: A)) w) :
    Calls Tryz.prog 7 #[.pointer (some ⟨b, 0, none⟩), .int .i64 0, .string (siteF k), .int .i64 8, .int .i64 8] w fun e w' => e = .returned (.tuple #[.int .i64 4096, .int .i64 0]) ∧
      St wr (smpL b mk mr (.pointer (some ⟨p.blk, 0, none⟩)) 8 (8 * (k : Int) + 8) [⟨4096, 8, 8, siteF k⟩] (rowsF k ++ [⟨siteF k, 1, 8, 1, 8⟩]) (midF wr p k :: A)) w' := by
  have h := smalloc_ok (hpF wr p k) (midF wr p k) 0 8 8 4096 (siteF k) (by rw [siteF_size]; decide) (siteF_ok hk) (.inr (by rw [rowsF_len]; exact hk)) (by unfold i64r; omega) 1 8 (by omega) (marks1 k) (by omega) (by omega) (by omega) (by omega) (by omega) (by omega) (by omega) (tdiv_bnd (by omega) (by omega)) (tdiv_bnd (by omega) (by omega)) (wfF k) (by
    have : forgetR [] (rowsF k) 4096 = rowsF k := rfl
    rw [this]; exact rowsF_bnd k) (fun w' h' => by
      have := hpF_malloc k hg (h'.pick 4 [3, 0, 1, 2])
      rw [hb] at this
      exact this.mono fun e w'' ⟨h1, h2⟩ => ⟨h1, h2.pick 4 [1, 2, 3, 0]⟩) hs
  have e1 : forgetR [] (rowsF k) 4096 = rowsF k := rfl
  have e2 : addK (dropK [] 4096) 4096 8 8 (siteF k) = [⟨4096, 8, 8, siteF k⟩] := rfl
  rw [e1, e2, moreF hk] at h
  exact h
/-- a round: Free -/
theorem rnd_free {p : Pl} {b mk mr k : Nat} (hk : k < 200) (hg : Globs wr) (hb : p.base = 0) (hs : St wr (smpL b mk mr (.pointer (some ⟨p.blk, 0, none⟩)) 8 (8 * (k : Int) + 8) [⟨4096, 8, 8, siteF k⟩] (rowsF k ++ [⟨siteF k, 1, 8, 1, 8⟩]) (midF wr p k :: A)) w) :
    Calls Tryz.prog 9 #[.pointer (some ⟨b, 0, none⟩), .int .i64 0, .int .i64 4096] w fun e w' => e = .returned (.int .i64 0) ∧
      St wr (smpL b mk mr (.pointer (some ⟨p.blk, 0, none⟩)) 8 (8 * ((k + 1 : Nat) : Int)) [] (rowsF (k + 1)) (hpF wr p (k + 1) :: A)) w' := by
  have h := sfree_ok (midF wr p k) (hpF wr p (k + 1)) 0 4096 (by unfold i64r; omega) (wfF1 hk) (fun w' h' => by
      have := hpF_free k hg (h'.pick 4 [3, 0, 1, 2])
      rw [hb] at this
      exact this.mono fun e w'' ⟨h1, h2⟩ => ⟨h1, h2.pick 4 [1, 2, 3, 0]⟩) hs
  have e2 : dropK [⟨4096, 8, 8, siteF k⟩] 4096 = [] := by simp [dropK]
  rw [e2, lessF hk, show (8 * (k : Int) + 8) = 8 * ((k + 1 : Nat) : Int) by omega] at h
  exact h
/-- the last block: what the sampler holds behind it -/
def endK (q q2 ad : Nat) : List Smp := if (q + 1) / 8 = 0 then [] else [⟨ad, ((q + 1 : Nat) : Int), ((q + 1) / 8 : Nat) * 8, siteF q2⟩]
def endR (q q2 : Nat) : List Rw := if (q + 1) / 8 = 0 then rowsF 200 else putR (rowsF 200) ⟨siteF q2, 1, ((q + 1) / 8 : Nat) * 8, 2, 8 + ((q + 1) / 8 : Nat) * 8⟩
theorem row_in {q2 : Nat} (h : q2 < 200) : look (rowsF 200) (siteF q2) = some (rowF q2) := by
  have := lookR_yes (rowsF_nodup (Nat.le_refl 200)) (show rowF q2 ∈ rowsF 200 from List.mem_map_of_mem (List.mem_range.2 h))
  exact this
theorem moreE {q2 : Nat} (h : q2 < 200) (wt : Int) : moreR (rowsF 200) wt (siteF q2) = putR (rowsF 200) ⟨siteF q2, 1, wt, 2, 8 + wt⟩ := by
  unfold moreR
  rw [row_in h]
  simp [rowF]
theorem marksQ (q : Nat) : Int.tdiv (1600 + ((q + 1 : Nat) : Int)) 8 - Int.tdiv 1600 8 = (((q + 1) / 8 : Nat) : Int) := by
  rw [Int.tdiv_eq_ediv_of_nonneg (by omega), Int.tdiv_eq_ediv_of_nonneg (by omega)]; omega
theorem last_malloc {p : Pl} {b mk mr q q2 ad : Nat} {A1 : HP} (hq : q < 32) (hq2 : q2 < 200) (had : ad < 1000000) (hb : p.base = 0)
    (hM : ∀ {A : List HP} {w : World}, St wr (memP wr (mem2 200) p :: A) w → Calls Tryz.prog 23 #[.pointer (some ⟨p.blk, p.base, none⟩), .int .i64 0, .int .i64 ((q + 1 : Nat) : Int), .int .i64 8] w fun e w' => e = .returned (.tuple #[.int .i64 (ad : Int), .int .i64 0]) ∧ St wr (A1 :: A) w')
    (hs : St wr (smpL b mk mr (.pointer (some ⟨p.blk, 0, none⟩)) 8 1600 [] (rowsF 200) (hpF wr p 200 :: A)) w) :
    Calls Tryz.prog 7 #[.pointer (some ⟨b, 0, none⟩), .int .i64 0, .string (siteF q2), .int .i64 ((q + 1 : Nat) : Int), .int .i64 8] w fun e w' => e = .returned (.tuple #[.int .i64 (ad : Int), .int .i64 0]) ∧
      St wr (smpL b mk mr (.pointer (some ⟨p.blk, 0, none⟩)) 8 (1600 + ((q + 1 : Nat) : Int)) (endK q q2 ad) (endR q q2) (A1 :: A)) w' := by
  have e0 : hpF wr p 200 = memP wr (mem2 200) p := rfl
  have hH : ∀ w', St wr (smpL b mk mr (.pointer (some ⟨p.blk, 0, none⟩)) 8 1600 [] (rowsF 200) (hpF wr p 200 :: A)) w' → Calls Tryz.prog 23 #[.pointer (some ⟨p.blk, 0, none⟩), .int .i64 0, .int .i64 ((q + 1 : Nat) : Int), .int .i64 8] w' fun e w'' => e = .returned (.tuple #[.int .i64 (ad : Int), .int .i64 0]) ∧ St wr (smpL b mk mr (.pointer (some ⟨p.blk, 0, none⟩)) 8 1600 [] (rowsF 200) (A1 :: A)) w'' := fun w' h' => by
    have := hM (h'.pick 4 [3, 0, 1, 2])
    rw [hb] at this
    exact this.mono fun e w'' ⟨h1, h2⟩ => ⟨h1, h2.pick 4 [1, 2, 3, 0]⟩
  have e1 : ∀ x, forgetR [] (rowsF 200) x = rowsF 200 := fun _ => rfl
  unfold endK endR
  by_cases hz : (q + 1) / 8 = 0
  · rw [if_pos hz, if_pos hz]
    have h := smalloc_ok0 (hpF wr p 200) A1 0 ((q + 1 : Nat) : Int) 8 (ad : Int) (siteF q2) (by rw [siteF_size]; decide) (siteF_ok hq2) (.inl (by rw [row_in hq2]; rfl)) (by unfold i64r; omega) (by rw [marksQ, hz]; rfl) (by omega) (by omega) (by omega) (by omega) (tdiv_bnd (by omega) (by omega)) (tdiv_bnd (by omega) (by omega)) (wfF 200) hH hs
    exact h
  · rw [if_neg hz, if_neg hz]
    have h := smalloc_ok (hpF wr p 200) A1 0 ((q + 1 : Nat) : Int) 8 (ad : Int) (siteF q2) (by rw [siteF_size]; decide) (siteF_ok hq2) (.inl (by rw [row_in hq2]; rfl)) (by unfold i64r; omega) (((q + 1) / 8 : Nat) : Int) (((q + 1) / 8 : Nat) * 8) (by omega) (marksQ q) rfl (by omega) (by omega) (by omega) (by omega) (by omega) (by omega) (tdiv_bnd (by omega) (by omega)) (tdiv_bnd (by omega) (by omega)) (wfF 200) (by rw [e1]; exact rowsF_bnd 200) hH hs
    rw [e1, moreE hq2] at h
    exact h
theorem endR_site (q q2 : Nat) (hq2 : q2 < 200) : (endR q q2).map Rw.site = (rowsF 200).map Rw.site := by
  unfold endR
  split
  · rfl
  · have ha : (rowsF 200).any (fun y => decide (y.site = siteF q2)) = true := List.any_eq_true.2 ⟨rowF q2, List.mem_map_of_mem (List.mem_range.2 hq2), by simp [rowF]⟩
    unfold putR
    simp only
    rw [if_pos ha, List.map_map]
    refine List.map_congr_left fun y _ => ?_
    simp only [Function.comp]
    split
    · rename_i h; exact h.symm
    · rfl
theorem endR_mem {q q2 : Nat} (hq : q < 32) {r : Rw} (h : r ∈ endR q q2) : r.site.size ≤ 1000 ∧ Bnd 2305843009213693952 r := by
  have hold : ∀ x ∈ rowsF 200, x.site.size ≤ 1000 ∧ Bnd 2305843009213693952 x := fun x hx => ⟨rowsF_site 200 x hx, rowsF_bnd 200 x hx⟩
  have hnew : (siteF q2).size ≤ 1000 ∧ Bnd 2305843009213693952 ⟨siteF q2, 1, ((q + 1) / 8 : Nat) * 8, 2, 8 + ((q + 1) / 8 : Nat) * 8⟩ := ⟨by rw [siteF_size]; decide, by unfold Bnd; simp only; omega⟩
  unfold endR at h
  split at h
  · exact hold r h
  · unfold putR at h
    split at h
    · obtain ⟨y, hy, rfl⟩ := List.mem_map.1 h
      split
      · exact hnew
      · exact hold y hy
    · rcases List.mem_append.1 h with h | h
      · exact hold r h
      · rw [List.mem_singleton] at h; subst h; exact hnew
theorem endWf {q q2 ad : Nat} (hq : q < 32) (hq2 : q2 < 200) : SmWf (endK q q2 ad) (endR q q2) := by
  have hK : ∀ x ∈ endK q q2 ad, (q + 1) / 8 ≠ 0 ∧ x = ⟨ad, ((q + 1 : Nat) : Int), ((q + 1) / 8 : Nat) * 8, siteF q2⟩ := fun x hx => by
    unfold endK at hx
    split at hx
    · cases hx
    · rename_i h; exact ⟨h, List.mem_singleton.1 hx⟩
  refine ⟨fun x hx => ?_, fun x hx => ?_, fun x hx => ?_, fun r hr => (endR_mem hq hr).2, fun r hr => Nat.le_trans (endR_mem hq hr).1 (by decide)⟩
  · obtain ⟨_, rfl⟩ := hK x hx; show (siteF q2).size ≤ _; rw [siteF_size]; decide
  · obtain ⟨_, rfl⟩ := hK x hx; simp only; omega
  · obtain ⟨_, rfl⟩ := hK x hx
    have hm : siteF q2 ∈ (endR q q2).map Rw.site := by rw [endR_site q q2 hq2]; exact List.mem_map.2 ⟨rowF q2, List.mem_map_of_mem (List.mem_range.2 hq2), rfl⟩
    obtain ⟨r, hr, e⟩ := List.mem_map.1 hm
    have hn : ((endR q q2).map Rw.site).Nodup := by rw [endR_site q q2 hq2]; exact rowsF_nodup (Nat.le_refl _)
    exact ⟨r, by rw [← e]; exact lookR_yes hn hr⟩
theorem endR_len (q q2 : Nat) (hq2 : q2 < 200) : (endR q q2).length = 200 := by
  have := congrArg List.length (endR_site q q2 hq2)
  simpa [rowsF_len] using this
end
end Go.Proofs.YtcodjodhacjfeaaGreatDoor

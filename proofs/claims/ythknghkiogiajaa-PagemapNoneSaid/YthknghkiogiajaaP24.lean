/-
  The reference's map: Clone. The law's own play, Same.
-/
import Derived.Test.YthknghkiogiajaaP23
namespace Go.Proofs.Ythknghkiogiajaa
open Go.RowKit

theorem numsL_one (f : Nat → Int) : ∀ u ∈ numsL f, u.oneCell' = true := by
  intro u hu
  unfold numsL at hu
  simp only [List.mem_map] at hu
  obtain ⟨p, _, rfl⟩ := hu
  rfl
set_option maxHeartbeats 1000000 in
theorem rclone_any (w0 w : World) (F : List HP) (c : Nat) (f : Nat → Int) (hs : St w0 (refP c f :: F) w) :
    Calls Try.prog 26 #[.pointer (some ⟨c, 0, none⟩)] w fun e w' => ∃ c2, e = .returned (.pointer (some ⟨c2, 0, none⟩)) ∧ St w0 (refP c2 f :: refP c f :: F) w' := by
  obtain ⟨b, off, cap, hcap, h⟩ := refP_open hs
  have c0 := h.cells1
  obtain ⟨j0, hj, hy0, hy1, hy2⟩ := info_parts info3
  have h2 := h.newArr 3 1 0 [] rfl (by decide)
  have r2 := HP.arr_reads (h2.front 2)
  have c0' : (w.alloc (.cells #[] 3)).cell? ⟨c, 0, none⟩ = some (.slice (some ⟨b, off, none⟩) 1024 cap) := (h2.front 1).cells1
  clear h hs
  go_enter Try.func26, Try.ntmps26
  go_wp2_with (first | (go_at_call 35; refine (rmade_true _ _ _ _ _ c0).mono ?_; rintro e w' ⟨rfl, rfl⟩) | (at_builtin; refine wpList_append_st rfl _ _ 60 rfl 3 j0 _ 1 8 Try.underlying60 hj hy0 hy1 hy2 rfl _ _ rfl rfl 0 [] (by exact h2) 1024 (numsL f) (by exact r2) (numsL_one f) (by unfold maxLen; omega) (by omega) ?_; intro v5 w5 hs5 hv5; clear hv5; rw [List.nil_append, Nat.zero_add] at hs5; have h6 := hs5.allocRow #[v5] 62; obtain ⟨a5, p5, rfl⟩ := (HP.arr_reads hs5).form))
  go_ret
  have h7 := refP_shut (f := f) h6
  have h8 := h7.pick 3 [1, 2, 0]
  have h9 : St w0 (refP c f :: _) _ := refP_shut (f := f) h8
  exact ⟨_, rfl, h9.swap⟩
end Go.Proofs.Ythknghkiogiajaa

/-
  The law's own play: a call on both sides. (Printed by mkH29.py.)
-/
import Derived.Test.YtjignbbdgoadjaaH28
import Derived.Deep.DrawnRows
namespace Go.Proofs.Ytjignbbdgoadjaa
open Go.RowKit
attribute [local go_sem ↓] Go.wp_at_zero Go.wp_at_succ

theorem box_cells {w0 w : World} {A : HP} {F : List HP} {bx : Nat} {k a b : Value} {t : TypeId} (h : St w0 (A :: HP.blk bx #[k, a, b] t :: F) w) :
    w.cell? ⟨bx, 1, none⟩ = some a ∧ w.cell? ⟨bx, 2, none⟩ = some b :=
  ⟨h.swap.cells3.2.1, h.swap.cells3.2.2⟩
theorem play_end {w0 w : World} {A B C : HP} {F : List HP} (h : St w0 (A :: B :: C :: F) w) : St w0 (C :: A :: F) w := h.pick 3 [2, 0]
theorem rAdd_y (w0 w : World) (B C : HP) (F : List HP) (c N : Nat) (s : Nat → Int) (hN : N ≤ 64) (hN0 : 0 < N) (hok : okSt N s) (hs : St w0 (C :: B :: trk 77 c (16 * N) s :: F) w) (a _b : Int) :
    Calls Try.prog 51 #[.pointer (some ⟨c, 0, none⟩), .int .i64 a] w fun e w' => e = .returned (.int .i64 (addE N s a)) ∧ St w0 (trk 77 c (16 * N) (addF N s a) :: B :: C :: F) w' :=
  (rAdd_any w0 w (B :: C :: F) c N s hN hN0 hok (hs.pick 3 [2, 1, 0]) a)

set_option maxRecDepth 10000 in
set_option maxHeartbeats 4000000 in
theorem play_add (w0 w : World) (F : List HP) (c r N : Nat) (s : Nat → Int) (hN : N ≤ 64) (hN0 : 0 < N) (hok : okSt N s) (hs : St w0 (trk 61 c (16 * N) s :: trk 77 r (16 * N) s :: F) w) (a b : Int) :
    Calls Try.prog 33 #[.pointer (some ⟨c, 0, none⟩), .pointer (some ⟨r, 0, none⟩), .agg #[.int .i64 0, .int .i64 a, .int .i64 b]] w fun e w' => e = .returned (.bool true) ∧ St w0 (trk 61 c (16 * N) (addF N s a) :: trk 77 r (16 * N) (addF N s a) :: F) w' := by
  have h1 := hs.allocRow #[.int .i64 0, .int .i64 a, .int .i64 b] 46
  have h2 : St w0 (trk 61 c (16 * N) s :: HP.blk w.heap.size #[.int .i64 0, .int .i64 a, .int .i64 b] 46 :: trk 77 r (16 * N) s :: F) _ := h1.swap
  have h3 := h2.drew
  have H5 := Lib.hid (fun w1 h => add_any w0 w1 ((HP.blk w.heap.size #[.int .i64 0, .int .i64 a, .int .i64 b] 46) :: trk 77 r (16 * N) s :: F) c N s hN hN0 h a)
  have H6 := Lib.hid (fun w1 h => rAdd_y w0 w1 (HP.blk w.heap.size #[.int .i64 0, .int .i64 a, .int .i64 b] 46) (trk 61 c (16 * N) (addF N s a)) F r N s hN hN0 hok h a b)
  clear h1 hs hok
  go_enter Try.func33, Try.ntmps33
  go_wp2_with fail
  go_region_held3 (fun w' => w'.cell? ⟨w.heap.size, 1, none⟩ = some (.int .i64 a) ∧ w'.cell? ⟨w.heap.size, 2, none⟩ = some (.int .i64 b)) (exact box_cells (by assumption))
    (first
      | (go_at_call 35; refine (H5.out _ ?_).mono ?_; assumption; rintro e w' ⟨rfl, h5⟩)
      | (go_at_call 51; refine (H6.out _ ?_).mono ?_; assumption; rintro e w' ⟨rfl, h6⟩))
  all_goals go_wp2_with fail
  all_goals go_ret
  all_goals exact ⟨by simp, play_end (by assumption)⟩
theorem rRemove_y (w0 w : World) (B C : HP) (F : List HP) (c N : Nat) (s : Nat → Int) (hN : N ≤ 64) (hN0 : 0 < N) (hok : okSt N s) (hs : St w0 (C :: B :: trk 77 c (16 * N) s :: F) w) (a _b : Int) :
    Calls Try.prog 52 #[.pointer (some ⟨c, 0, none⟩), .int .i64 a] w fun e w' => e = .returned (.int .i64 (removeE N s a)) ∧ St w0 (trk 77 c (16 * N) (removeF N s a) :: B :: C :: F) w' :=
  (rRemove_any w0 w (B :: C :: F) c N s hN hN0 hok (hs.pick 3 [2, 1, 0]) a)

set_option maxRecDepth 10000 in
set_option maxHeartbeats 4000000 in
theorem play_remove (w0 w : World) (F : List HP) (c r N : Nat) (s : Nat → Int) (hN : N ≤ 64) (hN0 : 0 < N) (hok : okSt N s) (hs : St w0 (trk 61 c (16 * N) s :: trk 77 r (16 * N) s :: F) w) (a b : Int) :
    Calls Try.prog 33 #[.pointer (some ⟨c, 0, none⟩), .pointer (some ⟨r, 0, none⟩), .agg #[.int .i64 1, .int .i64 a, .int .i64 b]] w fun e w' => e = .returned (.bool true) ∧ St w0 (trk 61 c (16 * N) (removeF N s a) :: trk 77 r (16 * N) (removeF N s a) :: F) w' := by
  have h1 := hs.allocRow #[.int .i64 1, .int .i64 a, .int .i64 b] 46
  have h2 : St w0 (trk 61 c (16 * N) s :: HP.blk w.heap.size #[.int .i64 1, .int .i64 a, .int .i64 b] 46 :: trk 77 r (16 * N) s :: F) _ := h1.swap
  have h3 := h2.drew
  have H5 := Lib.hid (fun w1 h => remove_any w0 w1 ((HP.blk w.heap.size #[.int .i64 1, .int .i64 a, .int .i64 b] 46) :: trk 77 r (16 * N) s :: F) c N s hN hN0 h a)
  have H6 := Lib.hid (fun w1 h => rRemove_y w0 w1 (HP.blk w.heap.size #[.int .i64 1, .int .i64 a, .int .i64 b] 46) (trk 61 c (16 * N) (removeF N s a)) F r N s hN hN0 hok h a b)
  clear h1 hs hok
  go_enter Try.func33, Try.ntmps33
  go_wp2_with fail
  go_region_held3 (fun w' => w'.cell? ⟨w.heap.size, 1, none⟩ = some (.int .i64 a) ∧ w'.cell? ⟨w.heap.size, 2, none⟩ = some (.int .i64 b)) (exact box_cells (by assumption))
    (first
      | (go_at_call 38; refine (H5.out _ ?_).mono ?_; assumption; rintro e w' ⟨rfl, h5⟩)
      | (go_at_call 52; refine (H6.out _ ?_).mono ?_; assumption; rintro e w' ⟨rfl, h6⟩))
  all_goals go_wp2_with fail
  all_goals go_ret
  all_goals exact ⟨by simp, play_end (by assumption)⟩
theorem rUse_y (w0 w : World) (B C : HP) (F : List HP) (c N : Nat) (s : Nat → Int) (hN : N ≤ 64) (hN0 : 0 < N) (_hok : okSt N s) (hs : St w0 (C :: B :: trk 77 c (16 * N) s :: F) w) (a b : Int) :
    Calls Try.prog 53 #[.pointer (some ⟨c, 0, none⟩), .int .i64 a, .int .i64 b] w fun e w' => e = .returned (.int .i64 (useE (16 * N) s a b)) ∧ St w0 (trk 77 c (16 * N) (useF (16 * N) s a b) :: B :: C :: F) w' :=
  (rUse_any w0 w (B :: C :: F) c (16 * N) s (by omega) (by omega) (hs.pick 3 [2, 1, 0]) a b)

set_option maxRecDepth 10000 in
set_option maxHeartbeats 4000000 in
theorem play_use (w0 w : World) (F : List HP) (c r N : Nat) (s : Nat → Int) (hN : N ≤ 64) (hN0 : 0 < N) (hok : okSt N s) (hs : St w0 (trk 61 c (16 * N) s :: trk 77 r (16 * N) s :: F) w) (a b : Int) :
    Calls Try.prog 33 #[.pointer (some ⟨c, 0, none⟩), .pointer (some ⟨r, 0, none⟩), .agg #[.int .i64 2, .int .i64 a, .int .i64 b]] w fun e w' => e = .returned (.bool true) ∧ St w0 (trk 61 c (16 * N) (useF (16 * N) s a b) :: trk 77 r (16 * N) (useF (16 * N) s a b) :: F) w' := by
  have h1 := hs.allocRow #[.int .i64 2, .int .i64 a, .int .i64 b] 46
  have h2 : St w0 (trk 61 c (16 * N) s :: HP.blk w.heap.size #[.int .i64 2, .int .i64 a, .int .i64 b] 46 :: trk 77 r (16 * N) s :: F) _ := h1.swap
  have h3 := h2.drew
  have H5 := Lib.hid (fun w1 h => use_any w0 w1 ((HP.blk w.heap.size #[.int .i64 2, .int .i64 a, .int .i64 b] 46) :: trk 77 r (16 * N) s :: F) c (16 * N) s (by omega) (by omega) h a b)
  have H6 := Lib.hid (fun w1 h => rUse_y w0 w1 (HP.blk w.heap.size #[.int .i64 2, .int .i64 a, .int .i64 b] 46) (trk 61 c (16 * N) (useF (16 * N) s a b)) F r N s hN hN0 hok h a b)
  clear h1 hs hok
  go_enter Try.func33, Try.ntmps33
  go_wp2_with fail
  go_region_held3 (fun w' => w'.cell? ⟨w.heap.size, 1, none⟩ = some (.int .i64 a) ∧ w'.cell? ⟨w.heap.size, 2, none⟩ = some (.int .i64 b)) (exact box_cells (by assumption))
    (first
      | (go_at_call 28; refine (H5.out _ ?_).mono ?_; assumption; rintro e w' ⟨rfl, h5⟩)
      | (go_at_call 53; refine (H6.out _ ?_).mono ?_; assumption; rintro e w' ⟨rfl, h6⟩))
  all_goals go_wp2_with fail
  all_goals go_ret
  all_goals exact ⟨by simp, play_end (by assumption)⟩
theorem rUnuse_y (w0 w : World) (B C : HP) (F : List HP) (c N : Nat) (s : Nat → Int) (hN : N ≤ 64) (hN0 : 0 < N) (_hok : okSt N s) (hs : St w0 (C :: B :: trk 77 c (16 * N) s :: F) w) (a b : Int) :
    Calls Try.prog 54 #[.pointer (some ⟨c, 0, none⟩), .int .i64 a, .int .i64 b] w fun e w' => e = .returned (.int .i64 (unuseE (16 * N) s a b)) ∧ St w0 (trk 77 c (16 * N) (unuseF (16 * N) s a b) :: B :: C :: F) w' :=
  (rUnuse_any w0 w (B :: C :: F) c (16 * N) s (by omega) (by omega) (hs.pick 3 [2, 1, 0]) a b)

set_option maxRecDepth 10000 in
set_option maxHeartbeats 4000000 in
theorem play_unuse (w0 w : World) (F : List HP) (c r N : Nat) (s : Nat → Int) (hN : N ≤ 64) (hN0 : 0 < N) (hok : okSt N s) (hs : St w0 (trk 61 c (16 * N) s :: trk 77 r (16 * N) s :: F) w) (a b : Int) :
    Calls Try.prog 33 #[.pointer (some ⟨c, 0, none⟩), .pointer (some ⟨r, 0, none⟩), .agg #[.int .i64 3, .int .i64 a, .int .i64 b]] w fun e w' => e = .returned (.bool true) ∧ St w0 (trk 61 c (16 * N) (unuseF (16 * N) s a b) :: trk 77 r (16 * N) (unuseF (16 * N) s a b) :: F) w' := by
  have h1 := hs.allocRow #[.int .i64 3, .int .i64 a, .int .i64 b] 46
  have h2 : St w0 (trk 61 c (16 * N) s :: HP.blk w.heap.size #[.int .i64 3, .int .i64 a, .int .i64 b] 46 :: trk 77 r (16 * N) s :: F) _ := h1.swap
  have h3 := h2.drew
  have H5 := Lib.hid (fun w1 h => unuse_any w0 w1 ((HP.blk w.heap.size #[.int .i64 3, .int .i64 a, .int .i64 b] 46) :: trk 77 r (16 * N) s :: F) c (16 * N) s (by omega) (by omega) h a b)
  have H6 := Lib.hid (fun w1 h => rUnuse_y w0 w1 (HP.blk w.heap.size #[.int .i64 3, .int .i64 a, .int .i64 b] 46) (trk 61 c (16 * N) (unuseF (16 * N) s a b)) F r N s hN hN0 hok h a b)
  clear h1 hs hok
  go_enter Try.func33, Try.ntmps33
  go_wp2_with fail
  go_region_held3 (fun w' => w'.cell? ⟨w.heap.size, 1, none⟩ = some (.int .i64 a) ∧ w'.cell? ⟨w.heap.size, 2, none⟩ = some (.int .i64 b)) (exact box_cells (by assumption))
    (first
      | (go_at_call 26; refine (H5.out _ ?_).mono ?_; assumption; rintro e w' ⟨rfl, h5⟩)
      | (go_at_call 54; refine (H6.out _ ?_).mono ?_; assumption; rintro e w' ⟨rfl, h6⟩))
  all_goals go_wp2_with fail
  all_goals go_ret
  all_goals exact ⟨by simp, play_end (by assumption)⟩
theorem rRelease_y (w0 w : World) (B C : HP) (F : List HP) (c N : Nat) (s : Nat → Int) (hN : N ≤ 64) (hN0 : 0 < N) (_hok : okSt N s) (hs : St w0 (C :: B :: trk 77 c (16 * N) s :: F) w) (a b : Int) :
    Calls Try.prog 55 #[.pointer (some ⟨c, 0, none⟩), .int .i64 a, .int .i64 b] w fun e w' => e = .returned (.int .i64 (releaseE (16 * N) s a b)) ∧ St w0 (trk 77 c (16 * N) (releaseF (16 * N) s a b) :: B :: C :: F) w' :=
  (rRelease_any w0 w (B :: C :: F) c (16 * N) s (by omega) (by omega) (hs.pick 3 [2, 1, 0]) a b)

set_option maxRecDepth 10000 in
set_option maxHeartbeats 4000000 in
theorem play_release (w0 w : World) (F : List HP) (c r N : Nat) (s : Nat → Int) (hN : N ≤ 64) (hN0 : 0 < N) (hok : okSt N s) (hs : St w0 (trk 61 c (16 * N) s :: trk 77 r (16 * N) s :: F) w) (a b : Int) :
    Calls Try.prog 33 #[.pointer (some ⟨c, 0, none⟩), .pointer (some ⟨r, 0, none⟩), .agg #[.int .i64 4, .int .i64 a, .int .i64 b]] w fun e w' => e = .returned (.bool true) ∧ St w0 (trk 61 c (16 * N) (releaseF (16 * N) s a b) :: trk 77 r (16 * N) (releaseF (16 * N) s a b) :: F) w' := by
  have h1 := hs.allocRow #[.int .i64 4, .int .i64 a, .int .i64 b] 46
  have h2 : St w0 (trk 61 c (16 * N) s :: HP.blk w.heap.size #[.int .i64 4, .int .i64 a, .int .i64 b] 46 :: trk 77 r (16 * N) s :: F) _ := h1.swap
  have h3 := h2.drew
  have H5 := Lib.hid (fun w1 h => release_any w0 w1 ((HP.blk w.heap.size #[.int .i64 4, .int .i64 a, .int .i64 b] 46) :: trk 77 r (16 * N) s :: F) c (16 * N) s (by omega) (by omega) h a b)
  have H6 := Lib.hid (fun w1 h => rRelease_y w0 w1 (HP.blk w.heap.size #[.int .i64 4, .int .i64 a, .int .i64 b] 46) (trk 61 c (16 * N) (releaseF (16 * N) s a b)) F r N s hN hN0 hok h a b)
  clear h1 hs hok
  go_enter Try.func33, Try.ntmps33
  go_wp2_with fail
  go_region_held3 (fun w' => w'.cell? ⟨w.heap.size, 1, none⟩ = some (.int .i64 a) ∧ w'.cell? ⟨w.heap.size, 2, none⟩ = some (.int .i64 b)) (exact box_cells (by assumption))
    (first
      | (go_at_call 24; refine (H5.out _ ?_).mono ?_; assumption; rintro e w' ⟨rfl, h5⟩)
      | (go_at_call 55; refine (H6.out _ ?_).mono ?_; assumption; rintro e w' ⟨rfl, h6⟩))
  all_goals go_wp2_with fail
  all_goals go_ret
  all_goals exact ⟨by simp, play_end (by assumption)⟩

set_option maxRecDepth 10000 in
set_option maxHeartbeats 4000000 in
theorem play_plan (w0 w : World) (F : List HP) (c r N : Nat) (s : Nat → Int) (hN : N ≤ 64) (hN0 : 0 < N) (hok : okSt N s) (hs : St w0 (trk 61 c (16 * N) s :: trk 77 r (16 * N) s :: F) w) (a b : Int) :
    Calls Try.prog 33 #[.pointer (some ⟨c, 0, none⟩), .pointer (some ⟨r, 0, none⟩), .agg #[.int .i64 5, .int .i64 a, .int .i64 b]] w fun e w' => e = .returned (.bool true) ∧ St w0 (trk 61 c (16 * N) s :: trk 77 r (16 * N) s :: F) w' := by
  have h1 := hs.allocRow #[.int .i64 5, .int .i64 a, .int .i64 b] 46
  have h2 := h1.swap
  obtain ⟨c0, c1, c2⟩ := h1.cells3
  clear h1 hs
  have hlen := planV_len s N a
  go_enter Try.func33, Try.ntmps33
  go_wp2_with fail
  refine (plan_any w0 _ _ c N s hN hN0 h2 a).mono ?_
  rintro e w1 ⟨a1, p1, rfl, g1⟩
  clear c0 c1 c2 h2
  obtain ⟨c0, c1, c2⟩ := (g1.front 2).cells3
  have g2 := g1.pick 4 [3, 0, 2, 1]
  go_wp2_with fail
  refine (rPlan_any w0 _ _ r N s hN hN0 hok g2 a).mono ?_
  rintro e w2 ⟨a2, p2, rfl, g3⟩
  have R1 := runs_at (g3.front 2)
  have R2 := runs_at g3
  have g4 := g3.pick 5 [4, 1]
  have HR := Lib.hid (runs_any w2 a1 a2 p1 p2 _ _ R1 R2 (by omega))
  rw [decide_eq_true rfl] at HR
  clear R1 R2 c0 c1 c2
  go_wp2_with fail
  refine HR.out.mono ?_
  rintro e w3 ⟨rfl, m, rfl⟩
  go_wp2_with fail
  go_ret
  exact ⟨by simp, g4.drewN m⟩
theorem play_any (w0 w : World) (F : List HP) (c r N : Nat) (s : Nat → Int) (hN : N ≤ 64) (hN0 : 0 < N) (hok : okSt N s) (hs : St w0 (trk 61 c (16 * N) s :: trk 77 r (16 * N) s :: F) w) (x : ActV) :
    Calls Try.prog 33 #[.pointer (some ⟨c, 0, none⟩), .pointer (some ⟨r, 0, none⟩), .agg #[.int .i64 x.kind, .int .i64 x.a, .int .i64 x.b]] w fun e w' => e = .returned (.bool true) ∧ St w0 (trk 61 c (16 * N) (actF N s x) :: trk 77 r (16 * N) (actF N s x) :: F) w' := by
  obtain ⟨k, a, b⟩ := x
  unfold actF
  dsimp only
  by_cases h0 : k = 0
  · subst h0
    rw [if_pos rfl]
    exact play_add w0 w F c r N s hN hN0 hok hs a b
  rw [if_neg h0]
  by_cases h1 : k = 1
  · subst h1
    rw [if_pos rfl]
    exact play_remove w0 w F c r N s hN hN0 hok hs a b
  rw [if_neg h1]
  by_cases h2 : k = 2
  · subst h2
    rw [if_pos rfl]
    exact play_use w0 w F c r N s hN hN0 hok hs a b
  rw [if_neg h2]
  by_cases h3 : k = 3
  · subst h3
    rw [if_pos rfl]
    exact play_unuse w0 w F c r N s hN hN0 hok hs a b
  rw [if_neg h3]
  by_cases h4 : k = 4
  · subst h4
    rw [if_pos rfl]
    exact play_release w0 w F c r N s hN hN0 hok hs a b
  rw [if_neg h4]
  by_cases h5 : k = 5
  · subst h5
    exact play_plan w0 w F c r N s hN hN0 hok hs a b
  have b0 : (k == 0) = false := by simpa using h0
  have b1 : (k == 1) = false := by simpa using h1
  have b2 : (k == 2) = false := by simpa using h2
  have b3 : (k == 3) = false := by simpa using h3
  have b4 : (k == 4) = false := by simpa using h4
  have b5 : (k == 5) = false := by simpa using h5
  have h9 := (hs.allocRow #[.int .i64 k, .int .i64 a, .int .i64 b] 46).drop
  obtain ⟨c0, c1, c2⟩ := (hs.allocRow #[.int .i64 k, .int .i64 a, .int .i64 b] 46).cells3
  clear h0 h1 h2 h3 h4 h5 hs
  go_enter Try.func33, Try.ntmps33
  go_wp2_with fail
  go_ret
  exact ⟨rfl, h9⟩
end Go.Proofs.Ytjignbbdgoadjaa

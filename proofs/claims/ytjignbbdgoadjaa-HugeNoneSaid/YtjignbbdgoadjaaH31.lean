/-
  play and Same where nothing was made. (Printed by mkH31.py.)
-/
import Derived.Test.YtjignbbdgoadjaaH30
import Derived.Deep.DrawnRows
namespace Go.Proofs.Ytjignbbdgoadjaa
open Go.RowKit
attribute [local go_sem ↓] Go.wp_at_zero Go.wp_at_succ

theorem NotMade.alloc {w : World} {q : Option Addr} (h : NotMade w q) (o : Obj) : NotMade (w.alloc o) q := by
  rcases h with rfl | ⟨c, rfl, h⟩
  · exact .inl rfl
  · exact .inr ⟨c, rfl, by rw [World.cell?_alloc_some w _ o (by rw [h]; rfl)]; exact h⟩
theorem useless_end {w0 w : World} {A : HP} {F : List HP} (h : St w0 (A :: F) w) : St w0 F w := h.drop
theorem box_cells1 {w0 w : World} {F : List HP} {bx : Nat} {k a b : Value} {t : TypeId} (h : St w0 (HP.blk bx #[k, a, b] t :: F) w) :
    w.cell? ⟨bx, 1, none⟩ = some a ∧ w.cell? ⟨bx, 2, none⟩ = some b :=
  ⟨h.cells3.2.1, h.cells3.2.2⟩
theorem add_n (w0 w : World) (F : List HP) (hs : St w0 F w) (q : Option Addr) (hq : NotMade w q) (a _b : Int) : Calls Try.prog 35 #[.pointer q, .int .i64 a] w fun e w' => e = .returned (.int .i64 5) ∧ St w0 F w' := by
  refine (add_not w q hq a).mono ?_
  rintro e w' ⟨rfl, rfl⟩
  exact ⟨rfl, hs⟩
theorem remove_n (w0 w : World) (F : List HP) (hs : St w0 F w) (q : Option Addr) (hq : NotMade w q) (a _b : Int) : Calls Try.prog 38 #[.pointer q, .int .i64 a] w fun e w' => e = .returned (.int .i64 5) ∧ St w0 F w' := by
  refine (remove_not w q hq a).mono ?_
  rintro e w' ⟨rfl, rfl⟩
  exact ⟨rfl, hs⟩
theorem use_n (w0 w : World) (F : List HP) (hs : St w0 F w) (q : Option Addr) (hq : NotMade w q) (a b : Int) : Calls Try.prog 28 #[.pointer q, .int .i64 a, .int .i64 b] w fun e w' => e = .returned (.int .i64 5) ∧ St w0 F w' := by
  have h1 := hs.newArr 3 1 2 [.int .i64 2, .int .i64 3] rfl (by decide)
  have HQ := Lib.hid hq
  clear hq hs
  go_enter Try.func28, Try.ntmps28
  go_wp2_with fail
  refine (turn_not _ q (fun o => (HQ.out.alloc _).alloc o) a b 1 _ _ _).mono ?_
  rintro e w' ⟨rfl, rfl⟩
  have h2 := (h1.allocRow #[.slice (some ⟨w.heap.size, 0, none⟩) 2 2] 33).drop.drop
  go_wp2_with fail
  go_ret
  exact ⟨rfl, h2⟩
theorem unuse_n (w0 w : World) (F : List HP) (hs : St w0 F w) (q : Option Addr) (hq : NotMade w q) (a b : Int) : Calls Try.prog 26 #[.pointer q, .int .i64 a, .int .i64 b] w fun e w' => e = .returned (.int .i64 5) ∧ St w0 F w' := by
  have h1 := hs.newArr 3 1 1 [.int .i64 1] rfl (by decide)
  have HQ := Lib.hid hq
  clear hq hs
  go_enter Try.func26, Try.ntmps26
  go_wp2_with fail
  refine (turn_not _ q (fun o => (HQ.out.alloc _).alloc o) a b 2 _ _ _).mono ?_
  rintro e w' ⟨rfl, rfl⟩
  have h2 := (h1.allocRow #[.slice (some ⟨w.heap.size, 0, none⟩) 1 1] 33).drop.drop
  go_wp2_with fail
  go_ret
  exact ⟨rfl, h2⟩
theorem release_n (w0 w : World) (F : List HP) (hs : St w0 F w) (q : Option Addr) (hq : NotMade w q) (a b : Int) : Calls Try.prog 24 #[.pointer q, .int .i64 a, .int .i64 b] w fun e w' => e = .returned (.int .i64 5) ∧ St w0 F w' := by
  have h1 := hs.newArr 3 1 1 [.int .i64 2] rfl (by decide)
  have HQ := Lib.hid hq
  clear hq hs
  go_enter Try.func24, Try.ntmps24
  go_wp2_with fail
  refine (turn_not _ q (fun o => (HQ.out.alloc _).alloc o) a b 3 _ _ _).mono ?_
  rintro e w' ⟨rfl, rfl⟩
  have h2 := (h1.allocRow #[.slice (some ⟨w.heap.size, 0, none⟩) 1 1] 33).drop.drop
  go_wp2_with fail
  go_ret
  exact ⟨rfl, h2⟩
theorem rAdd_n (w0 w : World) (F : List HP) (hs : St w0 F w) (a _b : Int) : Calls Try.prog 51 #[.pointer none, .int .i64 a] w fun e w' => e = .returned (.int .i64 5) ∧ St w0 F w' := by
  refine (rAdd_nil w a).mono ?_
  rintro e w' ⟨rfl, rfl⟩
  exact ⟨rfl, hs⟩
theorem rRemove_n (w0 w : World) (F : List HP) (hs : St w0 F w) (a _b : Int) : Calls Try.prog 52 #[.pointer none, .int .i64 a] w fun e w' => e = .returned (.int .i64 5) ∧ St w0 F w' := by
  refine (rRemove_nil w a).mono ?_
  rintro e w' ⟨rfl, rfl⟩
  exact ⟨rfl, hs⟩
theorem rUse_n (w0 w : World) (F : List HP) (hs : St w0 F w) (a b : Int) : Calls Try.prog 53 #[.pointer none, .int .i64 a, .int .i64 b] w fun e w' => e = .returned (.int .i64 5) ∧ St w0 F w' := by
  refine (rUse_nil w a b).mono ?_
  rintro e w' ⟨rfl, rfl⟩
  exact ⟨rfl, hs⟩
theorem rUnuse_n (w0 w : World) (F : List HP) (hs : St w0 F w) (a b : Int) : Calls Try.prog 54 #[.pointer none, .int .i64 a, .int .i64 b] w fun e w' => e = .returned (.int .i64 5) ∧ St w0 F w' := by
  refine (rUnuse_nil w a b).mono ?_
  rintro e w' ⟨rfl, rfl⟩
  exact ⟨rfl, hs⟩
theorem rRelease_n (w0 w : World) (F : List HP) (hs : St w0 F w) (a b : Int) : Calls Try.prog 55 #[.pointer none, .int .i64 a, .int .i64 b] w fun e w' => e = .returned (.int .i64 5) ∧ St w0 F w' := by
  refine (rRelease_nil w a b).mono ?_
  rintro e w' ⟨rfl, rfl⟩
  exact ⟨rfl, hs⟩

set_option maxRecDepth 10000 in
set_option maxHeartbeats 4000000 in
theorem nplay_add (w0 w : World) (F : List HP) (q : Option Addr) (hq : ∀ w', St w0 F w' → NotMade w' q) (hs : St w0 F w) (a b : Int) :
    Calls Try.prog 33 #[.pointer q, .pointer none, .agg #[.int .i64 0, .int .i64 a, .int .i64 b]] w fun e w' => e = .returned (.bool true) ∧ St w0 F w' := by
  have h1 := hs.allocRow #[.int .i64 0, .int .i64 a, .int .i64 b] 46
  have h3 := h1.drew
  have H5 := Lib.hid (fun w1 (h : St w0 ((HP.blk w.heap.size #[.int .i64 0, .int .i64 a, .int .i64 b] 46) :: F) w1) => add_n w0 w1 ((HP.blk w.heap.size #[.int .i64 0, .int .i64 a, .int .i64 b] 46) :: F) h q (hq w1 h.drop) a b)
  have H6 := Lib.hid (fun w1 (h : St w0 ((HP.blk w.heap.size #[.int .i64 0, .int .i64 a, .int .i64 b] 46) :: F) w1) => rAdd_n w0 w1 ((HP.blk w.heap.size #[.int .i64 0, .int .i64 a, .int .i64 b] 46) :: F) h a b)
  clear h1 hs hq
  go_enter Try.func33, Try.ntmps33
  go_wp2_with fail
  go_region_held3 (fun w' => w'.cell? ⟨w.heap.size, 1, none⟩ = some (.int .i64 a) ∧ w'.cell? ⟨w.heap.size, 2, none⟩ = some (.int .i64 b)) (exact box_cells1 (by assumption))
    (first
      | (go_at_call 35; refine (H5.out _ ?_).mono ?_; assumption; rintro e w' ⟨rfl, h5⟩)
      | (go_at_call 51; refine (H6.out _ ?_).mono ?_; assumption; rintro e w' ⟨rfl, h6⟩))
  all_goals go_wp2_with fail
  all_goals go_ret
  all_goals exact ⟨by simp, useless_end (by assumption)⟩

set_option maxRecDepth 10000 in
set_option maxHeartbeats 4000000 in
theorem nplay_remove (w0 w : World) (F : List HP) (q : Option Addr) (hq : ∀ w', St w0 F w' → NotMade w' q) (hs : St w0 F w) (a b : Int) :
    Calls Try.prog 33 #[.pointer q, .pointer none, .agg #[.int .i64 1, .int .i64 a, .int .i64 b]] w fun e w' => e = .returned (.bool true) ∧ St w0 F w' := by
  have h1 := hs.allocRow #[.int .i64 1, .int .i64 a, .int .i64 b] 46
  have h3 := h1.drew
  have H5 := Lib.hid (fun w1 (h : St w0 ((HP.blk w.heap.size #[.int .i64 1, .int .i64 a, .int .i64 b] 46) :: F) w1) => remove_n w0 w1 ((HP.blk w.heap.size #[.int .i64 1, .int .i64 a, .int .i64 b] 46) :: F) h q (hq w1 h.drop) a b)
  have H6 := Lib.hid (fun w1 (h : St w0 ((HP.blk w.heap.size #[.int .i64 1, .int .i64 a, .int .i64 b] 46) :: F) w1) => rRemove_n w0 w1 ((HP.blk w.heap.size #[.int .i64 1, .int .i64 a, .int .i64 b] 46) :: F) h a b)
  clear h1 hs hq
  go_enter Try.func33, Try.ntmps33
  go_wp2_with fail
  go_region_held3 (fun w' => w'.cell? ⟨w.heap.size, 1, none⟩ = some (.int .i64 a) ∧ w'.cell? ⟨w.heap.size, 2, none⟩ = some (.int .i64 b)) (exact box_cells1 (by assumption))
    (first
      | (go_at_call 38; refine (H5.out _ ?_).mono ?_; assumption; rintro e w' ⟨rfl, h5⟩)
      | (go_at_call 52; refine (H6.out _ ?_).mono ?_; assumption; rintro e w' ⟨rfl, h6⟩))
  all_goals go_wp2_with fail
  all_goals go_ret
  all_goals exact ⟨by simp, useless_end (by assumption)⟩

set_option maxRecDepth 10000 in
set_option maxHeartbeats 4000000 in
theorem nplay_use (w0 w : World) (F : List HP) (q : Option Addr) (hq : ∀ w', St w0 F w' → NotMade w' q) (hs : St w0 F w) (a b : Int) :
    Calls Try.prog 33 #[.pointer q, .pointer none, .agg #[.int .i64 2, .int .i64 a, .int .i64 b]] w fun e w' => e = .returned (.bool true) ∧ St w0 F w' := by
  have h1 := hs.allocRow #[.int .i64 2, .int .i64 a, .int .i64 b] 46
  have h3 := h1.drew
  have H5 := Lib.hid (fun w1 (h : St w0 ((HP.blk w.heap.size #[.int .i64 2, .int .i64 a, .int .i64 b] 46) :: F) w1) => use_n w0 w1 ((HP.blk w.heap.size #[.int .i64 2, .int .i64 a, .int .i64 b] 46) :: F) h q (hq w1 h.drop) a b)
  have H6 := Lib.hid (fun w1 (h : St w0 ((HP.blk w.heap.size #[.int .i64 2, .int .i64 a, .int .i64 b] 46) :: F) w1) => rUse_n w0 w1 ((HP.blk w.heap.size #[.int .i64 2, .int .i64 a, .int .i64 b] 46) :: F) h a b)
  clear h1 hs hq
  go_enter Try.func33, Try.ntmps33
  go_wp2_with fail
  go_region_held3 (fun w' => w'.cell? ⟨w.heap.size, 1, none⟩ = some (.int .i64 a) ∧ w'.cell? ⟨w.heap.size, 2, none⟩ = some (.int .i64 b)) (exact box_cells1 (by assumption))
    (first
      | (go_at_call 28; refine (H5.out _ ?_).mono ?_; assumption; rintro e w' ⟨rfl, h5⟩)
      | (go_at_call 53; refine (H6.out _ ?_).mono ?_; assumption; rintro e w' ⟨rfl, h6⟩))
  all_goals go_wp2_with fail
  all_goals go_ret
  all_goals exact ⟨by simp, useless_end (by assumption)⟩

set_option maxRecDepth 10000 in
set_option maxHeartbeats 4000000 in
theorem nplay_unuse (w0 w : World) (F : List HP) (q : Option Addr) (hq : ∀ w', St w0 F w' → NotMade w' q) (hs : St w0 F w) (a b : Int) :
    Calls Try.prog 33 #[.pointer q, .pointer none, .agg #[.int .i64 3, .int .i64 a, .int .i64 b]] w fun e w' => e = .returned (.bool true) ∧ St w0 F w' := by
  have h1 := hs.allocRow #[.int .i64 3, .int .i64 a, .int .i64 b] 46
  have h3 := h1.drew
  have H5 := Lib.hid (fun w1 (h : St w0 ((HP.blk w.heap.size #[.int .i64 3, .int .i64 a, .int .i64 b] 46) :: F) w1) => unuse_n w0 w1 ((HP.blk w.heap.size #[.int .i64 3, .int .i64 a, .int .i64 b] 46) :: F) h q (hq w1 h.drop) a b)
  have H6 := Lib.hid (fun w1 (h : St w0 ((HP.blk w.heap.size #[.int .i64 3, .int .i64 a, .int .i64 b] 46) :: F) w1) => rUnuse_n w0 w1 ((HP.blk w.heap.size #[.int .i64 3, .int .i64 a, .int .i64 b] 46) :: F) h a b)
  clear h1 hs hq
  go_enter Try.func33, Try.ntmps33
  go_wp2_with fail
  go_region_held3 (fun w' => w'.cell? ⟨w.heap.size, 1, none⟩ = some (.int .i64 a) ∧ w'.cell? ⟨w.heap.size, 2, none⟩ = some (.int .i64 b)) (exact box_cells1 (by assumption))
    (first
      | (go_at_call 26; refine (H5.out _ ?_).mono ?_; assumption; rintro e w' ⟨rfl, h5⟩)
      | (go_at_call 54; refine (H6.out _ ?_).mono ?_; assumption; rintro e w' ⟨rfl, h6⟩))
  all_goals go_wp2_with fail
  all_goals go_ret
  all_goals exact ⟨by simp, useless_end (by assumption)⟩

set_option maxRecDepth 10000 in
set_option maxHeartbeats 4000000 in
theorem nplay_release (w0 w : World) (F : List HP) (q : Option Addr) (hq : ∀ w', St w0 F w' → NotMade w' q) (hs : St w0 F w) (a b : Int) :
    Calls Try.prog 33 #[.pointer q, .pointer none, .agg #[.int .i64 4, .int .i64 a, .int .i64 b]] w fun e w' => e = .returned (.bool true) ∧ St w0 F w' := by
  have h1 := hs.allocRow #[.int .i64 4, .int .i64 a, .int .i64 b] 46
  have h3 := h1.drew
  have H5 := Lib.hid (fun w1 (h : St w0 ((HP.blk w.heap.size #[.int .i64 4, .int .i64 a, .int .i64 b] 46) :: F) w1) => release_n w0 w1 ((HP.blk w.heap.size #[.int .i64 4, .int .i64 a, .int .i64 b] 46) :: F) h q (hq w1 h.drop) a b)
  have H6 := Lib.hid (fun w1 (h : St w0 ((HP.blk w.heap.size #[.int .i64 4, .int .i64 a, .int .i64 b] 46) :: F) w1) => rRelease_n w0 w1 ((HP.blk w.heap.size #[.int .i64 4, .int .i64 a, .int .i64 b] 46) :: F) h a b)
  clear h1 hs hq
  go_enter Try.func33, Try.ntmps33
  go_wp2_with fail
  go_region_held3 (fun w' => w'.cell? ⟨w.heap.size, 1, none⟩ = some (.int .i64 a) ∧ w'.cell? ⟨w.heap.size, 2, none⟩ = some (.int .i64 b)) (exact box_cells1 (by assumption))
    (first
      | (go_at_call 24; refine (H5.out _ ?_).mono ?_; assumption; rintro e w' ⟨rfl, h5⟩)
      | (go_at_call 55; refine (H6.out _ ?_).mono ?_; assumption; rintro e w' ⟨rfl, h6⟩))
  all_goals go_wp2_with fail
  all_goals go_ret
  all_goals exact ⟨by simp, useless_end (by assumption)⟩

set_option maxRecDepth 10000 in
set_option maxHeartbeats 4000000 in
theorem nplay_plan (w0 w : World) (F : List HP) (q : Option Addr) (hq : ∀ w', St w0 F w' → NotMade w' q) (hs : St w0 F w) (a b : Int) :
    Calls Try.prog 33 #[.pointer q, .pointer none, .agg #[.int .i64 5, .int .i64 a, .int .i64 b]] w fun e w' => e = .returned (.bool true) ∧ St w0 F w' := by
  have h1 := hs.allocRow #[.int .i64 5, .int .i64 a, .int .i64 b] 46
  obtain ⟨c0, c1, c2⟩ := h1.cells3
  have H1 := Lib.hid (plan_not _ q (fun o => (hq _ h1.drop).alloc o) a)
  have h2 := h1.allocRow #[.pointer q] 25
  obtain ⟨d0, d1, d2⟩ := (h2.front 1).cells3
  have h3 := h2.drop.drop
  clear h1 hs hq h2
  go_enter Try.func33, Try.ntmps33
  go_wp2_with fail
  refine H1.out.mono ?_
  rintro e w1 ⟨rfl, rfl⟩
  clear c0 c1 c2
  go_wp2_with fail
  refine (rPlan_nil _ a).mono ?_
  rintro e w' ⟨rfl, rfl⟩
  have HR := Lib.hid fun w => runs_any w none none 0 0 [] [] (Reads.nil w 2) (Reads.nil w 2) (by simp)
  go_wp2_with fail
  refine (HR.out _).mono ?_
  rintro e w3 ⟨rfl, m, rfl⟩
  go_wp2_with fail
  go_ret
  exact ⟨by simp, h3.drewN m⟩
theorem play_not (w0 w : World) (F : List HP) (q : Option Addr) (hq : ∀ w', St w0 F w' → NotMade w' q) (hs : St w0 F w) (x : ActV) :
    Calls Try.prog 33 #[.pointer q, .pointer none, .agg #[.int .i64 x.kind, .int .i64 x.a, .int .i64 x.b]] w fun e w' => e = .returned (.bool true) ∧ St w0 F w' := by
  obtain ⟨k, a, b⟩ := x
  dsimp only
  by_cases h0 : k = 0
  · subst h0
    exact nplay_add w0 w F q hq hs a b
  by_cases h1 : k = 1
  · subst h1
    exact nplay_remove w0 w F q hq hs a b
  by_cases h2 : k = 2
  · subst h2
    exact nplay_use w0 w F q hq hs a b
  by_cases h3 : k = 3
  · subst h3
    exact nplay_unuse w0 w F q hq hs a b
  by_cases h4 : k = 4
  · subst h4
    exact nplay_release w0 w F q hq hs a b
  by_cases h5 : k = 5
  · subst h5
    exact nplay_plan w0 w F q hq hs a b
  have b0 : (k == 0) = false := by simpa using h0
  have b1 : (k == 1) = false := by simpa using h1
  have b2 : (k == 2) = false := by simpa using h2
  have b3 : (k == 3) = false := by simpa using h3
  have b4 : (k == 4) = false := by simpa using h4
  have b5 : (k == 5) = false := by simpa using h5
  have h9 := (hs.allocRow #[.int .i64 k, .int .i64 a, .int .i64 b] 46).drop
  obtain ⟨c0, c1, c2⟩ := (hs.allocRow #[.int .i64 k, .int .i64 a, .int .i64 b] 46).cells3
  clear h0 h1 h2 h3 h4 h5 hs hq
  go_enter Try.func33, Try.ntmps33
  go_wp2_with fail
  go_ret
  exact ⟨rfl, h9⟩

theorem same_not (w0 w : World) (F : List HP) (q : Option Addr) (hq : ∀ w', St w0 F w' → NotMade w' q) (hs : St w0 F w) (pg : Nat) (hpg : pg ≤ 1024) :
    Calls Try.prog 34 #[.pointer q, .pointer none, .int .i64 pg] w fun e w' => e = .returned (.bool true) ∧ St w0 F w' := by
  have h1 := hq w hs
  refine same_of w0 w _ _ _ pg hpg hs ?_ ?_ ?_ ?_ ?_ ?_
  · exact fun x => ⟨_, Count_not w q h1 x, rCount_nil w x⟩
  · exact fun x => ⟨_, state_not w q h1 x, rState_nil w x⟩
  · exact fun x => ⟨_, used_not w q h1 x, rUsed_nil w x⟩
  · refine ⟨[], Nat.zero_le _, fun w g => ?_⟩
    refine (idles_not w q (hq w g)).mono ?_
    rintro e w1 ⟨rfl, rfl⟩
    refine ⟨none, 0, rfl, ?_⟩
    refine (rIdle_nil w).mono ?_
    rintro e w2 ⟨rfl, rfl⟩
    exact ⟨none, 0, rfl, Reads.nil w 1, Reads.nil w 1, g⟩
  · refine ⟨[], Nat.zero_le _, fun w g => ?_⟩
    refine (brokens_not w q (hq w g)).mono ?_
    rintro e w1 ⟨rfl, rfl⟩
    refine ⟨none, 0, rfl, ?_⟩
    refine (rBroken_nil w).mono ?_
    rintro e w2 ⟨rfl, rfl⟩
    exact ⟨none, 0, rfl, Reads.nil w 1, Reads.nil w 1, g⟩
  · refine ⟨[], Nat.zero_le _, fun w g => ?_⟩
    refine (wholes_not w q (hq w g)).mono ?_
    rintro e w1 ⟨rfl, rfl⟩
    refine ⟨none, 0, rfl, ?_⟩
    refine (rWhole_nil w).mono ?_
    rintro e w2 ⟨rfl, rfl⟩
    exact ⟨none, 0, rfl, Reads.nil w 1, Reads.nil w 1, g⟩
end Go.Proofs.Ytjignbbdgoadjaa

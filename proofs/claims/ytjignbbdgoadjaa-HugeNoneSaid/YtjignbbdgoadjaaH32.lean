/-
  The statement HugeNone: its walk.
-/
import Derived.Test.YtjignbbdgoadjaaH31
namespace Go.Proofs.Ytjignbbdgoadjaa
open Go.RowKit

set_option maxRecDepth 10000 in
set_option maxHeartbeats 4000000 in
theorem none_walk (x : ActV) (w : World) (_ : True) :
    Calls Try.prog 11 #[.agg #[.int .i64 x.kind, .int .i64 x.a, .int .i64 x.b]] w fun e w' => e = .returned (.bool true) ∧ Below w.heap.size w w' := by
  have h1 := (St.start w).allocRow #[.int .i64 x.kind, .int .i64 x.a, .int .i64 x.b] 46
  have h2 := h1.allocRow #[.slice none 0 0] 61
  rw [show (w.alloc (.cells #[.int .i64 x.kind, .int .i64 x.a, .int .i64 x.b] 46)).heap.size = w.heap.size + 1 by simp] at h2
  have P1 := Lib.hid fun w' h => play_not w w' [HP.blk (w.heap.size + 1) #[.slice none 0 0] 61, HP.blk w.heap.size #[.int .i64 x.kind, .int .i64 x.a, .int .i64 x.b] 46] none (fun _ _ => .inl rfl) h x
  have P2 := Lib.hid fun w' h => play_not w w' [HP.blk (w.heap.size + 1) #[.slice none 0 0] 61, HP.blk w.heap.size #[.int .i64 x.kind, .int .i64 x.a, .int .i64 x.b] 46] (some ⟨w.heap.size + 1, 0, none⟩) (fun _ h => .inr ⟨_, rfl, h.cells1⟩) h x
  have S1 := Lib.hid fun w' h => same_not w w' [HP.blk (w.heap.size + 1) #[.slice none 0 0] 61, HP.blk w.heap.size #[.int .i64 x.kind, .int .i64 x.a, .int .i64 x.b] 46] none (fun _ _ => .inl rfl) h 16 (by omega)
  have S2 := Lib.hid fun w' h => same_not w w' [HP.blk (w.heap.size + 1) #[.slice none 0 0] 61, HP.blk w.heap.size #[.int .i64 x.kind, .int .i64 x.a, .int .i64 x.b] 46] (some ⟨w.heap.size + 1, 0, none⟩) (fun _ h => .inr ⟨_, rfl, h.cells1⟩) h 16 (by omega)
  have NM := Lib.hid fun w' (h : St w [HP.blk (w.heap.size + 1) #[.slice none 0 0] 61, HP.blk w.heap.size #[.int .i64 x.kind, .int .i64 x.a, .int .i64 x.b] 46] w') => (show NotMade w' (some ⟨w.heap.size + 1, 0, none⟩) from .inr ⟨_, rfl, h.cells1⟩)
  have CE := Lib.hid fun w' (h : St w [HP.blk (w.heap.size + 1) #[.slice none 0 0] 61, HP.blk w.heap.size #[.int .i64 x.kind, .int .i64 x.a, .int .i64 x.b] 46] w') => (h.front 1).cells3
  clear h1
  go_enter Try.func11, Try.ntmps11
  go_wp2_with fail
  refine (P1.out _ h2).mono ?_
  rintro e w1 ⟨rfl, g1⟩
  obtain ⟨c0, c1, c2⟩ := CE.out _ g1
  clear h2
  go_wp2_with fail
  refine (P2.out _ g1).mono ?_
  rintro e w2 ⟨rfl, g2⟩
  clear c0 c1 c2 g1
  go_wp2_with fail
  refine (S1.out _ g2).mono ?_
  rintro e w3 ⟨rfl, g3⟩
  clear g2
  go_wp2_with fail
  refine (S2.out _ g3).mono ?_
  rintro e w4 ⟨rfl, g4⟩
  clear g3
  have N4 := Lib.hid (NM.out _ g4)
  obtain ⟨c0, c1, c2⟩ := CE.out _ g4
  go_wp2_with fail
  refine (clone_not w4 none (.inl rfl)).mono ?_
  rintro e w' ⟨rfl, rfl⟩
  go_wp2_with fail
  refine (clone_not w4 _ N4.out).mono ?_
  rintro e w' ⟨rfl, rfl⟩
  go_wp2_with fail
  refine (state_not w4 none (.inl rfl) x.a).mono ?_
  rintro e w' ⟨rfl, rfl⟩
  go_wp2_with fail
  refine (state_not w4 _ N4.out x.a).mono ?_
  rintro e w' ⟨rfl, rfl⟩
  go_wp2_with fail
  refine (alive_any w w4 _ g4).mono ?_
  rintro e w' ⟨rfl, hs⟩
  go_wp2_with fail
  go_ret
  exact ⟨rfl, hs.below⟩
end Go.Proofs.Ytjignbbdgoadjaa

/-
  The statement TransferNone: its walk; an act that came in by value.
-/
import Derived.Test.YthlmjdkpkikcpaaT16
namespace Go.Proofs.Ythlmjdkpkikcpaa
open Go.RowKit

theorem St.notMade {w0 w : World} {F : List HP} {c : Nat} (h : St w0 (HP.blk c #[.int .i64 0, .int .i64 0, .int .i64 0, .slice none 0 0] 56 :: F) w) : NotMade w (some ⟨c, 0, none⟩) :=
  .inr ⟨c, rfl, h.cells4.1⟩

set_option maxHeartbeats 4000000 in
theorem none_walk (x : ActV) (w : World) (h : IntsAt w x.v x.l ∧ x.l.length ≤ 9223372036854775807) :
    Calls Try.prog 7 #[.agg #[.int .i64 x.kind, x.v]] w fun e w' => e = .returned (.bool true) ∧ Below w.heap.size w w' := by
  obtain ⟨hr, hn⟩ := h
  have h1 := (St.start w).allocRow #[.int .i64 x.kind, x.v] 42
  have h2 := St.newArr h1 42 2 1 [.int .i64 x.kind, x.v] rfl (by unfold maxLen; omega)
  have hsz : (w.alloc (.cells #[.int .i64 x.kind, x.v] 42)).heap.size = w.heap.size + 1 := by simp
  rw [hsz] at h2
  have hA : ActsAt ((w.alloc (.cells #[.int .i64 x.kind, x.v] 42)).alloc (.cells #[.int .i64 x.kind, x.v] 42)) (.slice (some ⟨w.heap.size + 1, 0, none⟩) [x].length 1) [x] :=
    ⟨HP.arr_reads h2, fun y hy => by
      rw [List.mem_singleton] at hy
      subst hy
      exact ⟨h2.reads0 hr, hn⟩⟩
  have HA := Lib.hid hA
  clear hA hsz hr
  obtain ⟨k0, k1⟩ := (h2.front 1).cells2
  unfold ActV.v at *
  by_cases hg : greatB [x] = true
  · have HG := Lib.hid hg
    clear hg
    go_enter Try.func7, Try.ntmps7
    go_wp2_with fail
    refine (great_any _ _ _ [x] HA.out (by simp)).mono ?_
    rintro e w' ⟨rfl, rfl⟩
    rw [HG.out]
    go_wp2_with fail
    refine (alive_any w _ _ h2).mono ?_
    rintro e w' ⟨rfl, hs⟩
    go_wp2_with fail
    go_ret
    exact ⟨rfl, hs.below⟩
  have HG := Lib.hid (show greatB [x] = false by simpa using hg)
  clear hg
  go_enter Try.func7, Try.ntmps7
  go_wp2_with fail
  refine (great_any _ _ _ [x] HA.out (by simp)).mono ?_
  rintro e w' ⟨rfl, rfl⟩
  rw [HG.out]
  have h3 : St w [HP.blk (w.heap.size + 1 + 1) #[.int .i64 0, .int .i64 0, .int .i64 0, .slice none 0 0] 56, HP.blk w.heap.size #[.int .i64 x.kind, .slice x.a x.l.length x.cap] 42] (((w.alloc (.cells #[.int .i64 x.kind, .slice x.a x.l.length x.cap] 42)).alloc (.cells #[.int .i64 x.kind, .slice x.a x.l.length x.cap] 42)).alloc (.cells #[.int .i64 0, .int .i64 0, .int .i64 0, .slice none 0 0] 56)) :=
    by simpa using (h2.drop).allocRow #[.int .i64 0, .int .i64 0, .int .i64 0, .slice none 0 0] 56
  obtain ⟨d0, d1⟩ := (h3.front 1).cells2
  go_wp2_with fail
  refine (play_not w _ _ h3 none (.inl rfl) _ _ _ _).mono ?_
  rintro e w4 ⟨rfl, h4⟩
  obtain ⟨k0, k1⟩ := (h4.front 1).cells2
  go_wp2_with fail
  refine (play_not w w4 _ h4 _ h4.notMade _ _ _ _).mono ?_
  rintro e w5 ⟨rfl, h5⟩
  go_wp2_with fail
  refine (lawSame_not w5 none (.inl rfl)).mono ?_
  rintro e w' ⟨rfl, n, rfl⟩
  have h6 := h5.drewN n
  have m6 := h6.notMade
  go_wp2_with fail
  refine (lawSame_not _ _ m6).mono ?_
  rintro e w' ⟨rfl, n, rfl⟩
  have h7 := h6.drewN n
  rw [drewN_drewN] at h7
  have m7 := h7.notMade
  go_wp2_with fail
  refine (tclone_not _ none (.inl rfl)).mono ?_
  rintro e w' ⟨rfl, rfl⟩
  go_wp2_with fail
  refine (tclone_not _ _ m7).mono ?_
  rintro e w' ⟨rfl, rfl⟩
  go_wp2_with fail
  refine (alive_any w _ _ h7).mono ?_
  rintro e w' ⟨rfl, hs⟩
  go_wp2_with fail
  go_ret
  exact ⟨rfl, hs.below⟩
end Go.Proofs.Ythlmjdkpkikcpaa

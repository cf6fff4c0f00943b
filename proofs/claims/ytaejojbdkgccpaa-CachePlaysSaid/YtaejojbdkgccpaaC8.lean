/-
  oldest.
-/
import Derived.Test.YtaejojbdkgccpaaC7
namespace Go.Proofs.Ytaejojbdkgccpaa
open Go.RowKit Go.Maps Go.ChangeMaps

theorem Reads.drop1 {w : World} {b off n cap : Nat} {xs : List Value} (h : Reads w 1 (.slice (some ⟨b, off, none⟩) n cap) n xs) {k : Nat} (hk : k ≤ n) : Reads w 1 (.slice (some ⟨b, off + k, none⟩) (n - k) (cap - k)) (n - k) (xs.drop k) := by
  have hl : xs.length = n := by simpa using h.1
  refine ⟨by rw [List.length_drop]; omega, ?_⟩
  rcases h.2 with ⟨hv, _⟩ | ⟨b1, off1, sp1, cap1, hv, hn, hsp, hc⟩
  · cases hv
  · cases hv
    exact .inr ⟨b, off + k, none, cap - k, rfl, by omega, .inl rfl, fun i x hi => by
      rw [List.getElem?_drop] at hi
      rw [Nat.add_assoc]
      exact hc _ _ hi⟩
theorem Reads.zero (w : World) (a : Addr) {n cap : Nat} {xs : List Value} (hn : n = 0) (hx : xs = []) : Reads w 1 (.slice (some a) n cap) n xs := by
  subst hn hx
  exact ⟨rfl, .inr ⟨a.block, a.off, a.spot, cap, rfl, Nat.zero_le _, .inr rfl, fun i x h => by simp at h⟩⟩
theorem intsC_take (l : List Int) (n : Nat) : (intsC l).take n = intsC (l.take n) := List.map_take.symm
theorem intsC_drop (l : List Int) (n : Nat) : (intsC l).drop n = intsC (l.drop n) := List.map_drop.symm
theorem intsC_len (l : List Int) : (intsC l).length = l.length := List.length_map _

theorem oldest_end {w0 w : World} {F : List HP} {b lim low lown n k : Nat} {l : List Int} {v1 v2 m : Value} (hn : n ≤ l.length) (h : St w0 (HP.blk b #[v2, .int .i64 lim, m] 72 :: HP.arr 3 1 v2 k (intsC (l.drop n)) :: HP.arr 3 1 v1 n (intsC (l.take n)) :: F) w) (hk : k = l.length - n)
    (hlown : lown = min low (l.length - n)) (hm : m = .int .i64 (min low (l.length - n) : Nat)) : St w0 (intsP v1 (l.take n) :: lstP b ⟨l.drop n, lim, lown⟩ :: F) w := by
  subst hlown
  subst hm hk
  have e1 : HP.arr 3 1 v2 (l.length - n) (intsC (l.drop n)) = intsP v2 (l.drop n) := by unfold intsP; rw [List.length_drop]
  have e2 : HP.arr 3 1 v1 n (intsC (l.take n)) = intsP v1 (l.take n) := by unfold intsP; rw [List.length_take, Nat.min_eq_left hn]
  rw [e1, e2] at h
  exact (lst_shut h).swap
set_option maxRecDepth 10000 in
set_option maxHeartbeats 2000000 in
theorem oldest_some (w0 w : World) (F : List HP) (b b1 o1 cap lim low lown : Nat) (l : List Int) (n : Nat) (hn : n ≤ l.length) (hc : l.length ≤ cap) (hl : l.length ≤ 256) (hlow : low ≤ 256) (hlown : Hid (lown = min low (l.length - n)))
    (hs : St w0 (HP.blk b #[.slice (some ⟨b1, o1, none⟩) l.length cap, .int .i64 lim, .int .i64 low] 72 :: intsP (.slice (some ⟨b1, o1, none⟩) l.length cap) l :: F) w) :
    Calls Try.prog 46 #[.pointer (some ⟨b, 0, none⟩), .int .i64 n] w fun e w' => ∃ a' c', e = .returned (.slice a' n c') ∧
      St w0 (intsP (.slice a' n c') (l.take n) :: lstP b ⟨l.drop n, lim, lown⟩ :: F) w' := by
  obtain ⟨c0, c1, c2⟩ := hs.cells3
  have hr := HP.arr_reads (hs.front 1)
  have hrt := hr.take1 hn
  rw [intsC_take] at hrt
  have i0 : (0 : Int) ≤ (n : Int) := by omega
  have i1 : (n : Int) ≤ (cap : Int) := by omega
  have i2 : (n : Int) ≤ (l.length : Int) := by omega
  have i3 : (l.length : Int) ≤ (cap : Int) := by omega
  go_enter Try.func46, Try.ntmps46
  go_wp2_with fail
  refine (sclone_any w0 w _ _ n cap _ hs hrt (intsC_one _) (by omega)).mono ?_
  rintro e w1 ⟨a1, p1, rfl, g1⟩
  clear c0 c1 c2 hr hrt
  obtain ⟨c0, c1, c2⟩ := (g1.front 1).cells3
  have hr := HP.arr_reads (g1.front 2)
  rcases Nat.lt_or_ge n cap with hnc | hnc
  · have i4 : (n : Int) < (cap : Int) := by omega
    have hrd := hr.drop1 hn
    rw [intsC_drop] at hrd
    go_wp2_with fail
    refine (sclone_any w0 w1 _ _ (l.length - n) (cap - n) _ g1 hrd (intsC_one _) (by omega)).mono ?_
    clear hrd
    rintro e w2 ⟨a2, p2, rfl, g2⟩
    have g3 : St w0 (HP.blk b #[.slice (some ⟨b1, o1, none⟩) l.length cap, .int .i64 lim, .int .i64 low] 72 :: HP.arr 3 1 (.slice a2 (l.length - n) p2) (l.length - n) (intsC (l.drop n)) :: HP.arr 3 1 (.slice a1 n p1) n (intsC (l.take n)) :: F) w2 := g2.pick 4 [2, 0, 1]
    clear c0 c1 c2 hr g1 g2 hs
    obtain ⟨d0, d1, d2⟩ := St.cells3 g3
    have f0 := St.frozen g3 0
    have g4 : St w0 (HP.blk b #[.slice a2 (l.length - n) p2, .int .i64 lim, .int .i64 low] 72 :: HP.arr 3 1 (.slice a2 (l.length - n) p2) (l.length - n) (intsC (l.drop n)) :: HP.arr 3 1 (.slice a1 n p1) n (intsC (l.take n)) :: F) (w2.setCell ⟨b, 0, none⟩ (.slice a2 (l.length - n) p2)) := St.set g3 0 _
    obtain ⟨e0, e1, e2⟩ := g4.cells3
    have f2 := g4.frozen 2
    have G5 : Hid (∀ m : Value, St w0 (HP.blk b #[.slice a2 (l.length - n) p2, .int .i64 lim, m] 72 :: HP.arr 3 1 (.slice a2 (l.length - n) p2) (l.length - n) (intsC (l.drop n)) :: HP.arr 3 1 (.slice a1 n p1) n (intsC (l.take n)) :: F) ((w2.setCell ⟨b, 0, none⟩ (.slice a2 (l.length - n) p2)).drew.setCell ⟨b, 2, none⟩ m)) := Lib.hid fun m : Value => g4.drew.set 2 m
    have G6 : Hid (∀ m : Value, St w0 (HP.blk b #[.slice a2 (l.length - n) p2, .int .i64 lim, m] 72 :: HP.arr 3 1 (.slice a2 (l.length - n) p2) (l.length - n) (intsC (l.drop n)) :: HP.arr 3 1 (.slice a1 n p1) n (intsC (l.take n)) :: F) (((w2.setCell ⟨b, 0, none⟩ (.slice a2 (l.length - n) p2)).setCell ⟨b, 2, none⟩ m).drew)) := Lib.hid fun m : Value => (g4.set 2 m).drew
    clear g3 g4
    go_wp2_with fail
    refine wp_region_tail_drew 13 (by kernel_rfl) (by kernel_rfl) ?_
    simp only [List.take_succ_cons, List.take_zero, List.drop_succ_cons, List.drop_zero]
    repeat still_step
    refine wpStill_nil ?_
    go_wp2_with fail
    all_goals go_ret
    all_goals refine ⟨a1, p1, rfl, ?_⟩
    all_goals first | exact oldest_end hn (G5.out (.int .i64 low)) (by omega) hlown.out (by congr 1; omega) | exact oldest_end hn (G6.out (.int .i64 low)) (by omega) hlown.out (by congr 1; omega) | exact oldest_end hn (G5.out _) (by omega) hlown.out (by congr 1; omega) | exact oldest_end hn (G6.out _) (by omega) hlown.out (by congr 1; omega)

  · obtain rfl : n = cap := by omega
    have hrd : Reads w1 1 (.slice (some ⟨b1, o1, none⟩) 0 0) 0 (intsC (l.drop n)) := Reads.zero w1 _ rfl (by rw [List.drop_of_length_le (by omega)]; rfl)
    go_wp2_with fail
    refine (sclone_any w0 w1 _ _ 0 0 _ g1 hrd (intsC_one _) (by omega)).mono ?_
    clear hrd
    rintro e w2 ⟨a2, p2, rfl, g2⟩
    have g3 : St w0 (HP.blk b #[.slice (some ⟨b1, o1, none⟩) l.length n, .int .i64 lim, .int .i64 low] 72 :: HP.arr 3 1 (.slice a2 0 p2) 0 (intsC (l.drop n)) :: HP.arr 3 1 (.slice a1 n p1) n (intsC (l.take n)) :: F) w2 := g2.pick 4 [2, 0, 1]
    clear c0 c1 c2 hr g1 g2 hs
    obtain ⟨d0, d1, d2⟩ := St.cells3 g3
    have f0 := St.frozen g3 0
    have g4 : St w0 (HP.blk b #[.slice a2 0 p2, .int .i64 lim, .int .i64 low] 72 :: HP.arr 3 1 (.slice a2 0 p2) 0 (intsC (l.drop n)) :: HP.arr 3 1 (.slice a1 n p1) n (intsC (l.take n)) :: F) (w2.setCell ⟨b, 0, none⟩ (.slice a2 0 p2)) := St.set g3 0 _
    obtain ⟨e0, e1, e2⟩ := g4.cells3
    have f2 := g4.frozen 2
    have G5 : Hid (∀ m : Value, St w0 (HP.blk b #[.slice a2 0 p2, .int .i64 lim, m] 72 :: HP.arr 3 1 (.slice a2 0 p2) 0 (intsC (l.drop n)) :: HP.arr 3 1 (.slice a1 n p1) n (intsC (l.take n)) :: F) ((w2.setCell ⟨b, 0, none⟩ (.slice a2 0 p2)).drew.setCell ⟨b, 2, none⟩ m)) := Lib.hid fun m : Value => g4.drew.set 2 m
    have G6 : Hid (∀ m : Value, St w0 (HP.blk b #[.slice a2 0 p2, .int .i64 lim, m] 72 :: HP.arr 3 1 (.slice a2 0 p2) 0 (intsC (l.drop n)) :: HP.arr 3 1 (.slice a1 n p1) n (intsC (l.take n)) :: F) (((w2.setCell ⟨b, 0, none⟩ (.slice a2 0 p2)).setCell ⟨b, 2, none⟩ m).drew)) := Lib.hid fun m : Value => (g4.set 2 m).drew
    clear g3 g4
    go_wp2_with fail
    refine wp_region_tail_drew 13 (by kernel_rfl) (by kernel_rfl) ?_
    simp only [List.take_succ_cons, List.take_zero, List.drop_succ_cons, List.drop_zero]
    repeat still_step
    refine wpStill_nil ?_
    go_wp2_with fail
    all_goals go_ret
    all_goals refine ⟨a1, p1, rfl, ?_⟩
    all_goals first | exact oldest_end hn (G5.out (.int .i64 low)) (by omega) hlown.out (by congr 1; omega) | exact oldest_end hn (G6.out (.int .i64 low)) (by omega) hlown.out (by congr 1; omega) | exact oldest_end hn (G5.out _) (by omega) hlown.out (by congr 1; omega) | exact oldest_end hn (G6.out _) (by omega) hlown.out (by congr 1; omega)

end Go.Proofs.Ytaejojbdkgccpaa

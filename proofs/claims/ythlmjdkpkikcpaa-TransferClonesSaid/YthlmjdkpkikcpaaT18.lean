/-
  The statement TransferClones: its walk. (Printed by mkT18.py.)
-/
import Derived.Test.YthlmjdkpkikcpaaT16
namespace Go.Proofs.Ythlmjdkpkikcpaa
open Go.RowKit

set_option maxHeartbeats 4000000 in
theorem clones_true (many : Int) (room : Int) (a : Option Addr) (cap : Nat) (acts : List ActV) (w : World) (h : ActsAt w (.slice a acts.length cap) acts)
    (a2 : Option Addr) (cap2 : Nat) (more : List ActV) (h2 : ActsAt w (.slice a2 more.length cap2) more) (hg : greatB acts = false) (hg2 : greatB more = false) (hm : 1 ≤ many ∧ many ≤ 32 ∧ 0 ≤ room ∧ room ≤ 8) :
    Calls Try.prog 8 #[.int .i64 many, .int .i64 room, .slice a acts.length cap, .slice a2 more.length cap2, .bool true] w fun e w' => e = .returned (.bool true) ∧ Below w.heap.size w w' := by
  have H := Lib.hid h
  have H2 := Lib.hid h2
  clear h h2
  obtain ⟨hn60, hl60⟩ := great_no hg
  obtain ⟨hm60, hk60⟩ := great_no hg2
  have HL := Lib.hid hl60
  have HG := Lib.hid hg
  have HG2 := Lib.hid hg2
  clear hg hl60 hg2 hk60
  obtain ⟨x1, x2, x3, x4⟩ := hm
  have hok := TC.acts_ok acts _ (TC.new_ok x1 x2 x3 x4)
  generalize hx : TC.acts ⟨many, room, 0, []⟩ acts = x at *
  have HX := Lib.hid hx
  have HOK := Lib.hid hok
  have hf := Lib.hid (flat_le hok)
  clear hx hok
  go_enter Try.func8, Try.ntmps8
  go_wp2_with fail
  refine (great_any w a cap acts H.out (by omega)).mono ?_
  rintro e w' ⟨rfl, rfl⟩
  rw [HG.out]
  go_wp2_with fail
  refine (great_any w a2 cap2 more H2.out (by omega)).mono ?_
  rintro e w' ⟨rfl, rfl⟩
  rw [HG2.out]
  go_wp2_with fail
  refine (made_good w w [] many room x1 x2 x3 x4 (St.start w) a cap acts H.out hn60).mono ?_
  rintro e w1 ⟨c1, rfl, h1⟩
  rw [HX.out] at h1
  go_wp2_with fail
  refine (made_good w w1 _ many room x1 x2 x3 x4 h1 a cap acts H.out hn60).mono ?_
  rintro e w2 ⟨c2, rfl, h2⟩
  rw [HX.out] at h2
  go_wp2_with fail
  refine (tclone_any w w2 _ c1 x HOK.out h2.swap).mono ?_
  rintro e w3 ⟨c3, rfl, h3⟩
  go_wp2_with fail
  go_loopw [14] (fun i wr => ∃ k : Nat, k ≤ more.length ∧ i = .int .i64 k ∧ St w [tcache c1 (x.acts (more.take k)), tcache c3 x, tcache c2 x] wr) (fun i _ => more.length - (intOf i).toNat)
  case atStart => exact ⟨0, Nat.zero_le _, rfl, h3.pick 3 [1, 0, 2]⟩
  case round =>
    clear h1 h2 h3
    obtain ⟨k, hk, rfl, hs1⟩ := hrel
    by_cases hlt : k < more.length
    · obtain ⟨y, hy⟩ : ∃ y, more[k]? = some y := ⟨more[k], List.getElem?_eq_getElem hlt⟩
      obtain ⟨b, off, cp, e1, k0, k1⟩ := H2.out.cell hy
      obtain ⟨hyi, hyl⟩ := H2.out.2 y (List.mem_of_getElem? hy)
      have hb0 := World.block_lt_of_cell? w _ k0
      injection e1 with e1 e2 e3
      clear e2 e3
      subst e1
      have HT := Lib.hid (TC.acts_succ x hy)
      have HI := Lib.hid hyi
      have HO := Lib.hid (TC.acts_ok (more.take k) _ HOK.out)
      clear hy hyi
      unfold ActV.v at k1
      have c0 := (hs1.was hb0).trans k0
      have c1' := (hs1.was (p := ⟨b, off + k * 2 + 1, none⟩) hb0).trans k1
      go_wp2_with fail
      refine (do_any w wr _ c1 _ HO.out hs1 y.kind y.a y.cap y.l (hs1.reads0 HI.out) hyl).mono ?_
      rintro e w4 ⟨rfl, h4⟩
      rw [← HT.out] at h4
      go_wp2_with fail
      go_roundw
      case rel => exact ⟨k + 1, hlt, by go_num, h4⟩
      case measure => simp [intOf]; omega
    · have h5 : St w [tcache c3 x, tcache c2 x] wr := hs1.pick 3 [1, 2]
      clear hs1
      go_wp2_with fail
      refine (len_any w wr _ c3 x HOK.out h5).mono ?_
      rintro e w' ⟨rfl, rfl⟩
      go_wp2_with fail
      refine (len_any w wr _ c2 x HOK.out h5.swap).mono ?_
      rintro e w' ⟨rfl, rfl⟩
      go_wp2_with fail
      refine (low_any w wr _ c3 x HOK.out h5).mono ?_
      rintro e w' ⟨rfl, rfl⟩
      go_wp2_with fail
      refine (low_any w wr _ c2 x HOK.out h5.swap).mono ?_
      rintro e w' ⟨rfl, rfl⟩
      go_wp2_with fail
      refine (objects_any w wr _ c3 x HOK.out h5).mono ?_
      rintro e w5 ⟨a5, p5, rfl, h5⟩
      go_wp2_with fail
      refine (objects_any w w5 _ c2 x HOK.out (h5.front 2)).mono ?_
      rintro e w6 ⟨a6, p6, rfl, h6⟩
      have i6 := ints_at h6
      have i5 := ints_at (h6.front 2)
      go_wp2_with fail
      refine (Ints_any w6 a5 a6 p5 p6 _ _ i5 i6 hf.out hf.out).mono ?_
      rintro e w' ⟨rfl, n, rfl⟩
      rw [decide_eq_true (rfl : flat x.bs = flat x.bs)]
      have h7 := h6.drewN n
      go_wp2_with fail
      refine (alive_any w _ _ h7).mono ?_
      rintro e w' ⟨rfl, hs⟩
      go_wp2_with fail
      go_ret
      exact ⟨rfl, hs.below⟩

set_option maxHeartbeats 4000000 in
theorem clones_false (many : Int) (room : Int) (a : Option Addr) (cap : Nat) (acts : List ActV) (w : World) (h : ActsAt w (.slice a acts.length cap) acts)
    (a2 : Option Addr) (cap2 : Nat) (more : List ActV) (h2 : ActsAt w (.slice a2 more.length cap2) more) (hg : greatB acts = false) (hg2 : greatB more = false) (hm : 1 ≤ many ∧ many ≤ 32 ∧ 0 ≤ room ∧ room ≤ 8) :
    Calls Try.prog 8 #[.int .i64 many, .int .i64 room, .slice a acts.length cap, .slice a2 more.length cap2, .bool false] w fun e w' => e = .returned (.bool true) ∧ Below w.heap.size w w' := by
  have H := Lib.hid h
  have H2 := Lib.hid h2
  clear h h2
  obtain ⟨hn60, hl60⟩ := great_no hg
  obtain ⟨hm60, hk60⟩ := great_no hg2
  have HL := Lib.hid hl60
  have HG := Lib.hid hg
  have HG2 := Lib.hid hg2
  clear hg hl60 hg2 hk60
  obtain ⟨x1, x2, x3, x4⟩ := hm
  have hok := TC.acts_ok acts _ (TC.new_ok x1 x2 x3 x4)
  generalize hx : TC.acts ⟨many, room, 0, []⟩ acts = x at *
  have HX := Lib.hid hx
  have HOK := Lib.hid hok
  have hf := Lib.hid (flat_le hok)
  clear hx hok
  go_enter Try.func8, Try.ntmps8
  go_wp2_with fail
  refine (great_any w a cap acts H.out (by omega)).mono ?_
  rintro e w' ⟨rfl, rfl⟩
  rw [HG.out]
  go_wp2_with fail
  refine (great_any w a2 cap2 more H2.out (by omega)).mono ?_
  rintro e w' ⟨rfl, rfl⟩
  rw [HG2.out]
  go_wp2_with fail
  refine (made_good w w [] many room x1 x2 x3 x4 (St.start w) a cap acts H.out hn60).mono ?_
  rintro e w1 ⟨c1, rfl, h1⟩
  rw [HX.out] at h1
  go_wp2_with fail
  refine (made_good w w1 _ many room x1 x2 x3 x4 h1 a cap acts H.out hn60).mono ?_
  rintro e w2 ⟨c2, rfl, h2⟩
  rw [HX.out] at h2
  go_wp2_with fail
  refine (tclone_any w w2 _ c1 x HOK.out h2.swap).mono ?_
  rintro e w3 ⟨c3, rfl, h3⟩
  go_wp2_with fail
  go_loopw [14] (fun i wr => ∃ k : Nat, k ≤ more.length ∧ i = .int .i64 k ∧ St w [tcache c3 (x.acts (more.take k)), tcache c1 x, tcache c2 x] wr) (fun i _ => more.length - (intOf i).toNat)
  case atStart => exact ⟨0, Nat.zero_le _, rfl, h3⟩
  case round =>
    clear h1 h2 h3
    obtain ⟨k, hk, rfl, hs1⟩ := hrel
    by_cases hlt : k < more.length
    · obtain ⟨y, hy⟩ : ∃ y, more[k]? = some y := ⟨more[k], List.getElem?_eq_getElem hlt⟩
      obtain ⟨b, off, cp, e1, k0, k1⟩ := H2.out.cell hy
      obtain ⟨hyi, hyl⟩ := H2.out.2 y (List.mem_of_getElem? hy)
      have hb0 := World.block_lt_of_cell? w _ k0
      injection e1 with e1 e2 e3
      clear e2 e3
      subst e1
      have HT := Lib.hid (TC.acts_succ x hy)
      have HI := Lib.hid hyi
      have HO := Lib.hid (TC.acts_ok (more.take k) _ HOK.out)
      clear hy hyi
      unfold ActV.v at k1
      have c0 := (hs1.was hb0).trans k0
      have c1' := (hs1.was (p := ⟨b, off + k * 2 + 1, none⟩) hb0).trans k1
      go_wp2_with fail
      refine (do_any w wr _ c3 _ HO.out hs1 y.kind y.a y.cap y.l (hs1.reads0 HI.out) hyl).mono ?_
      rintro e w4 ⟨rfl, h4⟩
      rw [← HT.out] at h4
      go_wp2_with fail
      go_roundw
      case rel => exact ⟨k + 1, hlt, by go_num, h4⟩
      case measure => simp [intOf]; omega
    · have h5 : St w [tcache c1 x, tcache c2 x] wr := hs1.pick 3 [1, 2]
      clear hs1
      go_wp2_with fail
      refine (len_any w wr _ c1 x HOK.out h5).mono ?_
      rintro e w' ⟨rfl, rfl⟩
      go_wp2_with fail
      refine (len_any w wr _ c2 x HOK.out h5.swap).mono ?_
      rintro e w' ⟨rfl, rfl⟩
      go_wp2_with fail
      refine (low_any w wr _ c1 x HOK.out h5).mono ?_
      rintro e w' ⟨rfl, rfl⟩
      go_wp2_with fail
      refine (low_any w wr _ c2 x HOK.out h5.swap).mono ?_
      rintro e w' ⟨rfl, rfl⟩
      go_wp2_with fail
      refine (objects_any w wr _ c1 x HOK.out h5).mono ?_
      rintro e w5 ⟨a5, p5, rfl, h5⟩
      go_wp2_with fail
      refine (objects_any w w5 _ c2 x HOK.out (h5.front 2)).mono ?_
      rintro e w6 ⟨a6, p6, rfl, h6⟩
      have i6 := ints_at h6
      have i5 := ints_at (h6.front 2)
      go_wp2_with fail
      refine (Ints_any w6 a5 a6 p5 p6 _ _ i5 i6 hf.out hf.out).mono ?_
      rintro e w' ⟨rfl, n, rfl⟩
      rw [decide_eq_true (rfl : flat x.bs = flat x.bs)]
      have h7 := h6.drewN n
      go_wp2_with fail
      refine (alive_any w _ _ h7).mono ?_
      rintro e w' ⟨rfl, hs⟩
      go_wp2_with fail
      go_ret
      exact ⟨rfl, hs.below⟩

set_option maxHeartbeats 2000000 in
theorem clones_walk (many : Int) (_w1 : (Lit.int .i64 many).wf = true) (room : Int) (_w2 : (Lit.int .i64 room).wf = true) (a : Option Addr) (cap : Nat) (acts : List ActV) (a2 : Option Addr) (cap2 : Nat) (more : List ActV) (side : Bool) (w : World) (h : ActsAt w (.slice a acts.length cap) acts) (hn : acts.length ≤ 9223372036854775807)
    (h2 : ActsAt w (.slice a2 more.length cap2) more) (hn2 : more.length ≤ 9223372036854775807) :
    Calls Try.prog 8 #[.int .i64 many, .int .i64 room, .slice a acts.length cap, .slice a2 more.length cap2, .bool side] w fun e w' => e = .returned (.bool true) ∧ Below w.heap.size w w' := by
  have H := Lib.hid h
  have H2 := Lib.hid h2
  clear h h2
  by_cases hg : greatB acts = true
  · have HG := Lib.hid hg
    clear hg
    go_enter Try.func8, Try.ntmps8
    go_wp2_with fail
    refine (great_any w a cap acts H.out hn).mono ?_
    rintro e w' ⟨rfl, rfl⟩
    rw [HG.out]
    go_wp2_with fail
    refine (alive_any w w [] (St.start w)).mono ?_
    rintro e w' ⟨rfl, hs⟩
    go_wp2_with fail
    go_ret
    exact ⟨rfl, hs.below⟩
  have hg : greatB acts = false := by simpa using hg
  by_cases hg2 : greatB more = true
  · have HG := Lib.hid hg
    have HG2 := Lib.hid hg2
    clear hg hg2
    go_enter Try.func8, Try.ntmps8
    go_wp2_with fail
    refine (great_any w a cap acts H.out hn).mono ?_
    rintro e w' ⟨rfl, rfl⟩
    rw [HG.out]
    go_wp2_with fail
    refine (great_any w a2 cap2 more H2.out hn2).mono ?_
    rintro e w' ⟨rfl, rfl⟩
    rw [HG2.out]
    go_wp2_with fail
    refine (alive_any w w [] (St.start w)).mono ?_
    rintro e w' ⟨rfl, hs⟩
    go_wp2_with fail
    go_ret
    exact ⟨rfl, hs.below⟩
  have hg2 : greatB more = false := by simpa using hg2
  by_cases hm : 1 ≤ many ∧ many ≤ 32 ∧ 0 ≤ room ∧ room ≤ 8
  · cases side
    · exact clones_false many room a cap acts w H.out a2 cap2 more H2.out hg hg2 hm
    · exact clones_true many room a cap acts w H.out a2 cap2 more H2.out hg hg2 hm
  have HB := Lib.hid (made_bad w many room (.slice a acts.length cap) hm)
  have HG := Lib.hid hg
  have HG2 := Lib.hid hg2
  clear hg hg2 hm
  go_enter Try.func8, Try.ntmps8
  go_wp2_with fail
  refine (great_any w a cap acts H.out hn).mono ?_
  rintro e w' ⟨rfl, rfl⟩
  rw [HG.out]
  go_wp2_with fail
  refine (great_any w a2 cap2 more H2.out hn2).mono ?_
  rintro e w' ⟨rfl, rfl⟩
  rw [HG2.out]
  go_wp2_with fail
  refine HB.out.mono ?_
  rintro e w' ⟨rfl, rfl⟩
  go_wp2_with fail
  refine HB.out.mono ?_
  rintro e w' ⟨rfl, rfl⟩
  go_wp2_with fail
  refine (alive_any w w [] (St.start w)).mono ?_
  rintro e w' ⟨rfl, hs⟩
  go_wp2_with fail
  go_ret
  exact ⟨rfl, hs.below⟩
end Go.Proofs.Ythlmjdkpkikcpaa

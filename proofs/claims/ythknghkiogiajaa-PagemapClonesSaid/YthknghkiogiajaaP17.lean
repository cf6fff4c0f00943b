/-
  The statement PagemapClones: its walk. (Printed by mkP17.py.)
-/
import Derived.Test.YthknghkiogiajaaP16
namespace Go.Proofs.Ythknghkiogiajaa
open Go.RowKit

theorem sameF_self (f : Nat → Int) : sameF f f = true := sameF_iff.2 fun _ _ => rfl

set_option maxRecDepth 10000 in
set_option maxHeartbeats 4000000 in
theorem clones_true (a : Option Addr) (cap : Nat) (acts : List ActV) (a2 : Option Addr) (cap2 : Nat) (more : List ActV) (w : World) (h : ActsAt w (.slice a acts.length cap) acts) (h2 : ActsAt w (.slice a2 more.length cap2) more)
    (hn : acts.length ≤ 60) (hm : more.length ≤ 60) :
    Calls Try.prog 11 #[.slice a acts.length cap, .slice a2 more.length cap2, .bool true] w fun e w' => e = .returned (.bool true) ∧ Below w.heap.size w w' := by
  have H := Lib.hid h
  have H2 := Lib.hid h2
  clear h h2
  have HG := Lib.hid (decide_eq_false (show ¬ 60 < acts.length by omega))
  have HG2 := Lib.hid (decide_eq_false (show ¬ 60 < more.length by omega))
  have hlen := mks_len (actsF (fun _ => 0) acts) 1024
  generalize hf : actsF (fun _ => 0) acts = f at *
  have HF := Lib.hid hf
  clear hf
  go_enter Try.func11, Try.ntmps11
  go_wp2_with fail
  refine (great_any w a _ cap (by omega)).mono ?_
  rintro e w' ⟨rfl, rfl⟩
  rw [HG.out]
  go_wp2_with fail
  refine (great_any w a2 _ cap2 (by omega)).mono ?_
  rintro e w' ⟨rfl, rfl⟩
  rw [HG2.out]
  go_wp2_with fail
  refine (made_any w w [] (St.start w) a cap acts H.out hn).mono ?_
  rintro e w1 ⟨c1, rfl, h1⟩
  rw [HF.out] at h1
  go_wp2_with fail
  refine (made_any w w1 _ h1 a cap acts H.out hn).mono ?_
  rintro e w2 ⟨c2, rfl, h2⟩
  rw [HF.out] at h2
  go_wp2_with fail
  refine (clone_any w w2 _ c1 f h2.swap).mono ?_
  rintro e w3 ⟨c3, rfl, h3⟩
  go_wp2_with fail
  go_loopw [10] (fun i wr => ∃ k : Nat, k ≤ more.length ∧ i = .int .i64 k ∧ St w [mapP c1 (actsF f (more.take k)), mapP c3 f, mapP c2 f] wr) (fun i _ => more.length - (intOf i).toNat)
  case atStart => exact ⟨0, Nat.zero_le _, rfl, h3.pick 3 [1, 0, 2]⟩
  case round =>
    clear h1 h2 h3
    obtain ⟨k, hk, rfl, hs1⟩ := hrel
    by_cases hlt : k < more.length
    · obtain ⟨x, hx⟩ : ∃ x, more[k]? = some x := ⟨more[k], List.getElem?_eq_getElem hlt⟩
      obtain ⟨b, off, cp, e1, k0, k1, k2, k3⟩ := H2.out.cell hx
      have hb0 := World.block_lt_of_cell? w _ k0
      injection e1 with e1 e2 e3
      clear e2 e3
      subst e1
      have HT := Lib.hid (actsF_succ f hx)
      clear hx
      have q0 := (hs1.was hb0).trans k0
      have q1 := (hs1.was (p := ⟨b, off + k * 4 + 1, none⟩) hb0).trans k1
      have q2 := (hs1.was (p := ⟨b, off + k * 4 + 2, none⟩) hb0).trans k2
      have q3 := (hs1.was (p := ⟨b, off + k * 4 + 3, none⟩) hb0).trans k3
      go_wp2_with fail
      refine (do_any w wr _ c1 _ hs1 x).mono ?_
      rintro e w4 ⟨rfl, h4⟩
      rw [← HT.out] at h4
      go_wp2_with fail
      go_roundw
      case rel => exact ⟨k + 1, hlt, by go_num, h4⟩
      case measure => simp [intOf]; omega
    · have h5 : St w [mapP c3 f, mapP c2 f] wr := hs1.pick 3 [1, 2]
      clear hs1
      go_wp2_with fail
      refine (Same_any wr _ _ _ _ (MapAt.of h5) (MapAt.of h5.swap)).mono ?_
      rintro e w' ⟨rfl, rfl⟩
      rw [sameF_self]
      go_wp2_with fail
      refine (Marks_any w wr _ c3 f h5).mono ?_
      rintro e w5 ⟨a5, p5, rfl, h5⟩
      go_wp2_with fail
      refine (Marks_any w w5 _ c2 f (h5.front 2)).mono ?_
      rintro e w6 ⟨a6, p6, rfl, h6⟩
      have i6 := marks_at h6
      have i5 := marks_at (h6.front 2)
      go_wp2_with fail
      refine (marks_any w6 a5 a6 p5 p6 _ _ i5 i6 (by omega)).mono ?_
      rintro e w' ⟨rfl, n, rfl⟩
      rw [decide_eq_true (rfl : mks f 1024 = mks f 1024)]
      have h7 := h6.drewN n
      go_wp2_with fail
      refine (alive_any w _ _ h7).mono ?_
      rintro e w' ⟨rfl, hs⟩
      go_wp2_with fail
      go_ret
      exact ⟨rfl, hs.below⟩

set_option maxRecDepth 10000 in
set_option maxHeartbeats 4000000 in
theorem clones_false (a : Option Addr) (cap : Nat) (acts : List ActV) (a2 : Option Addr) (cap2 : Nat) (more : List ActV) (w : World) (h : ActsAt w (.slice a acts.length cap) acts) (h2 : ActsAt w (.slice a2 more.length cap2) more)
    (hn : acts.length ≤ 60) (hm : more.length ≤ 60) :
    Calls Try.prog 11 #[.slice a acts.length cap, .slice a2 more.length cap2, .bool false] w fun e w' => e = .returned (.bool true) ∧ Below w.heap.size w w' := by
  have H := Lib.hid h
  have H2 := Lib.hid h2
  clear h h2
  have HG := Lib.hid (decide_eq_false (show ¬ 60 < acts.length by omega))
  have HG2 := Lib.hid (decide_eq_false (show ¬ 60 < more.length by omega))
  have hlen := mks_len (actsF (fun _ => 0) acts) 1024
  generalize hf : actsF (fun _ => 0) acts = f at *
  have HF := Lib.hid hf
  clear hf
  go_enter Try.func11, Try.ntmps11
  go_wp2_with fail
  refine (great_any w a _ cap (by omega)).mono ?_
  rintro e w' ⟨rfl, rfl⟩
  rw [HG.out]
  go_wp2_with fail
  refine (great_any w a2 _ cap2 (by omega)).mono ?_
  rintro e w' ⟨rfl, rfl⟩
  rw [HG2.out]
  go_wp2_with fail
  refine (made_any w w [] (St.start w) a cap acts H.out hn).mono ?_
  rintro e w1 ⟨c1, rfl, h1⟩
  rw [HF.out] at h1
  go_wp2_with fail
  refine (made_any w w1 _ h1 a cap acts H.out hn).mono ?_
  rintro e w2 ⟨c2, rfl, h2⟩
  rw [HF.out] at h2
  go_wp2_with fail
  refine (clone_any w w2 _ c1 f h2.swap).mono ?_
  rintro e w3 ⟨c3, rfl, h3⟩
  go_wp2_with fail
  go_loopw [10] (fun i wr => ∃ k : Nat, k ≤ more.length ∧ i = .int .i64 k ∧ St w [mapP c3 (actsF f (more.take k)), mapP c1 f, mapP c2 f] wr) (fun i _ => more.length - (intOf i).toNat)
  case atStart => exact ⟨0, Nat.zero_le _, rfl, h3⟩
  case round =>
    clear h1 h2 h3
    obtain ⟨k, hk, rfl, hs1⟩ := hrel
    by_cases hlt : k < more.length
    · obtain ⟨x, hx⟩ : ∃ x, more[k]? = some x := ⟨more[k], List.getElem?_eq_getElem hlt⟩
      obtain ⟨b, off, cp, e1, k0, k1, k2, k3⟩ := H2.out.cell hx
      have hb0 := World.block_lt_of_cell? w _ k0
      injection e1 with e1 e2 e3
      clear e2 e3
      subst e1
      have HT := Lib.hid (actsF_succ f hx)
      clear hx
      have q0 := (hs1.was hb0).trans k0
      have q1 := (hs1.was (p := ⟨b, off + k * 4 + 1, none⟩) hb0).trans k1
      have q2 := (hs1.was (p := ⟨b, off + k * 4 + 2, none⟩) hb0).trans k2
      have q3 := (hs1.was (p := ⟨b, off + k * 4 + 3, none⟩) hb0).trans k3
      go_wp2_with fail
      refine (do_any w wr _ c3 _ hs1 x).mono ?_
      rintro e w4 ⟨rfl, h4⟩
      rw [← HT.out] at h4
      go_wp2_with fail
      go_roundw
      case rel => exact ⟨k + 1, hlt, by go_num, h4⟩
      case measure => simp [intOf]; omega
    · have h5 : St w [mapP c1 f, mapP c2 f] wr := hs1.pick 3 [1, 2]
      clear hs1
      go_wp2_with fail
      refine (Same_any wr _ _ _ _ (MapAt.of h5) (MapAt.of h5.swap)).mono ?_
      rintro e w' ⟨rfl, rfl⟩
      rw [sameF_self]
      go_wp2_with fail
      refine (Marks_any w wr _ c1 f h5).mono ?_
      rintro e w5 ⟨a5, p5, rfl, h5⟩
      go_wp2_with fail
      refine (Marks_any w w5 _ c2 f (h5.front 2)).mono ?_
      rintro e w6 ⟨a6, p6, rfl, h6⟩
      have i6 := marks_at h6
      have i5 := marks_at (h6.front 2)
      go_wp2_with fail
      refine (marks_any w6 a5 a6 p5 p6 _ _ i5 i6 (by omega)).mono ?_
      rintro e w' ⟨rfl, n, rfl⟩
      rw [decide_eq_true (rfl : mks f 1024 = mks f 1024)]
      have h7 := h6.drewN n
      go_wp2_with fail
      refine (alive_any w _ _ h7).mono ?_
      rintro e w' ⟨rfl, hs⟩
      go_wp2_with fail
      go_ret
      exact ⟨rfl, hs.below⟩

theorem clones_walk (a : Option Addr) (cap : Nat) (acts : List ActV) (a2 : Option Addr) (cap2 : Nat) (more : List ActV) (side : Bool) (w : World) (h : ActsAt w (.slice a acts.length cap) acts) (hn : acts.length ≤ 9223372036854775807)
    (h2 : ActsAt w (.slice a2 more.length cap2) more) (hn2 : more.length ≤ 9223372036854775807) :
    Calls Try.prog 11 #[.slice a acts.length cap, .slice a2 more.length cap2, .bool side] w fun e w' => e = .returned (.bool true) ∧ Below w.heap.size w w' := by
  by_cases hg : 60 < acts.length
  · have HG := Lib.hid (decide_eq_true hg)
    clear hg h h2
    go_enter Try.func11, Try.ntmps11
    go_wp2_with fail
    refine (great_any w a _ cap hn).mono ?_
    rintro e w' ⟨rfl, rfl⟩
    rw [HG.out]
    go_wp2_with fail
    refine (alive_any w w [] (St.start w)).mono ?_
    rintro e w' ⟨rfl, hs⟩
    go_wp2_with fail
    go_ret
    exact ⟨rfl, hs.below⟩
  by_cases hg2 : 60 < more.length
  · have HG := Lib.hid (decide_eq_false hg)
    have HG2 := Lib.hid (decide_eq_true hg2)
    clear hg hg2 h h2
    go_enter Try.func11, Try.ntmps11
    go_wp2_with fail
    refine (great_any w a _ cap hn).mono ?_
    rintro e w' ⟨rfl, rfl⟩
    rw [HG.out]
    go_wp2_with fail
    refine (great_any w a2 _ cap2 hn2).mono ?_
    rintro e w' ⟨rfl, rfl⟩
    rw [HG2.out]
    go_wp2_with fail
    refine (alive_any w w [] (St.start w)).mono ?_
    rintro e w' ⟨rfl, hs⟩
    go_wp2_with fail
    go_ret
    exact ⟨rfl, hs.below⟩
  cases side
  · exact clones_false a cap acts a2 cap2 more w h h2 (by omega) (by omega)
  · exact clones_true a cap acts a2 cap2 more w h h2 (by omega) (by omega)
end Go.Proofs.Ythknghkiogiajaa

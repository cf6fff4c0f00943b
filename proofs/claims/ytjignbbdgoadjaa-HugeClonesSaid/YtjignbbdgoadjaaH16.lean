/-
  The statement HugeClones: its walk. (Printed by mkH16.py.)
-/
import Derived.Test.YtjignbbdgoadjaaH15
namespace Go.Proofs.Ytjignbbdgoadjaa
open Go.RowKit

set_option maxRecDepth 10000 in
set_option maxHeartbeats 4000000 in
theorem clones_true (m : Nat) (hm : m < 256) (a : Option Addr) (cap : Nat) (acts : List ActV) (a2 : Option Addr) (cap2 : Nat) (more : List ActV) (w : World) (h : ActsAt w (.slice a acts.length cap) acts) (h2 : ActsAt w (.slice a2 more.length cap2) more)
    (hn : acts.length ≤ 40) (hmn : more.length ≤ 40) :
    Calls Try.prog 8 #[.int .u8 m, .slice a acts.length cap, .slice a2 more.length cap2, .bool true] w fun e w' => e = .returned (.bool true) ∧ Below w.heap.size w w' := by
  have H := Lib.hid h
  have H2 := Lib.hid h2
  clear h h2
  have HG := Lib.hid (decide_eq_false (show ¬ 40 < acts.length by omega))
  have HG2 := Lib.hid (decide_eq_false (show ¬ 40 < more.length by omega))
  have hN0 : 0 < sizeN m := by unfold sizeN; omega
  have hN8 : sizeN m ≤ 8 := by unfold sizeN; omega
  have hN : sizeN m ≤ 64 := by omega
  go_enter Try.func8, Try.ntmps8
  go_wp2_with fail
  refine (great_any w a _ cap (by omega)).mono ?_
  rintro e w' ⟨rfl, rfl⟩
  rw [HG.out]
  go_wp2_with fail
  refine (great_any w a2 _ cap2 (by omega)).mono ?_
  rintro e w' ⟨rfl, rfl⟩
  rw [HG2.out]
  go_wp2_with fail
  refine (made_any w w [] (St.start w) m hm a cap acts H.out (by omega)).mono ?_
  rintro e w1 ⟨c1, rfl, h1⟩
  go_wp2_with fail
  refine (made_any w w1 _ h1 m hm a cap acts H.out (by omega)).mono ?_
  rintro e w2 ⟨c2, rfl, h2⟩
  generalize actsF (sizeN m) (fun _ => 0) acts = s at *
  generalize sizeN m = N at *
  go_wp2_with fail
  refine (clone_any w w2 _ c1 (16 * N) s (by omega) (by omega) h2.swap).mono ?_
  rintro e w3 ⟨c3, rfl, h3⟩
  have h3 : St w (trk 61 c3 (16 * N) s :: trk 61 c2 (16 * N) s :: trk 61 c1 (16 * N) s :: []) w3 := h3.pick 3 [0, 2, 1]
  go_wp2_with fail
  go_loopw [12] (fun i wr => ∃ k : Nat, k ≤ more.length ∧ i = .int .i64 k ∧ St w [trk 61 c1 (16 * N) (actsF N s (more.take k)), trk 61 c3 (16 * N) s, trk 61 c2 (16 * N) s] wr) (fun i _ => more.length - (intOf i).toNat)
  case atStart => exact ⟨0, Nat.zero_le _, rfl, h3.pick 3 [2, 0, 1]⟩
  case round =>
    clear h1 h2 h3
    obtain ⟨k, hk, rfl, hs1⟩ := hrel
    by_cases hlt : k < more.length
    · obtain ⟨x, hx⟩ : ∃ x, more[k]? = some x := ⟨more[k], List.getElem?_eq_getElem hlt⟩
      obtain ⟨b, off, cp, e1, k0, k1, k2⟩ := H2.out.cell hx
      have hb0 := World.block_lt_of_cell? w _ k0
      injection e1 with e1 e2 e3
      clear e2 e3
      subst e1
      have HT := Lib.hid (actsF_succ N s hx)
      clear hx
      have q0 := (hs1.was hb0).trans k0
      have q1 := (hs1.was (p := ⟨b, off + k * 3 + 1, none⟩) hb0).trans k1
      have q2 := (hs1.was (p := ⟨b, off + k * 3 + 2, none⟩) hb0).trans k2
      go_wp2_with fail
      refine (do_any w wr _ c1 N _ hN hN0 hs1 x).mono ?_
      rintro e w4 ⟨rfl, h4⟩
      rw [← HT.out] at h4
      go_wp2_with fail
      go_roundw
      case rel => exact ⟨k + 1, hlt, by go_num, h4⟩
      case measure => simp [intOf]; omega
    · have h5 := hs1.pick 3 [1, 2]
      clear hs1
      obtain ⟨tb1, to1, tp1, ht1⟩ := TrAt.of (by omega) h5
      obtain ⟨tb2, to2, tp2, ht2⟩ := TrAt.of (by omega) (h5.front 1)
      have HA := Lib.hid (alike_any wr (16 * N) c3 tb1 to1 tp1 c2 tb2 to2 tp2 s s (by omega) (by omega) ht1 ht2)
      rw [sameS_self] at HA
      clear ht1 ht2
      go_wp2_with fail
      refine HA.out.mono ?_
      rintro e w' ⟨rfl, rfl⟩
      go_wp2_with fail
      refine (alive_any w _ _ h5).mono ?_
      rintro e w' ⟨rfl, hs⟩
      go_wp2_with fail
      go_ret
      exact ⟨rfl, hs.below⟩

set_option maxRecDepth 10000 in
set_option maxHeartbeats 4000000 in
theorem clones_false (m : Nat) (hm : m < 256) (a : Option Addr) (cap : Nat) (acts : List ActV) (a2 : Option Addr) (cap2 : Nat) (more : List ActV) (w : World) (h : ActsAt w (.slice a acts.length cap) acts) (h2 : ActsAt w (.slice a2 more.length cap2) more)
    (hn : acts.length ≤ 40) (hmn : more.length ≤ 40) :
    Calls Try.prog 8 #[.int .u8 m, .slice a acts.length cap, .slice a2 more.length cap2, .bool false] w fun e w' => e = .returned (.bool true) ∧ Below w.heap.size w w' := by
  have H := Lib.hid h
  have H2 := Lib.hid h2
  clear h h2
  have HG := Lib.hid (decide_eq_false (show ¬ 40 < acts.length by omega))
  have HG2 := Lib.hid (decide_eq_false (show ¬ 40 < more.length by omega))
  have hN0 : 0 < sizeN m := by unfold sizeN; omega
  have hN8 : sizeN m ≤ 8 := by unfold sizeN; omega
  have hN : sizeN m ≤ 64 := by omega
  go_enter Try.func8, Try.ntmps8
  go_wp2_with fail
  refine (great_any w a _ cap (by omega)).mono ?_
  rintro e w' ⟨rfl, rfl⟩
  rw [HG.out]
  go_wp2_with fail
  refine (great_any w a2 _ cap2 (by omega)).mono ?_
  rintro e w' ⟨rfl, rfl⟩
  rw [HG2.out]
  go_wp2_with fail
  refine (made_any w w [] (St.start w) m hm a cap acts H.out (by omega)).mono ?_
  rintro e w1 ⟨c1, rfl, h1⟩
  go_wp2_with fail
  refine (made_any w w1 _ h1 m hm a cap acts H.out (by omega)).mono ?_
  rintro e w2 ⟨c2, rfl, h2⟩
  generalize actsF (sizeN m) (fun _ => 0) acts = s at *
  generalize sizeN m = N at *
  go_wp2_with fail
  refine (clone_any w w2 _ c1 (16 * N) s (by omega) (by omega) h2.swap).mono ?_
  rintro e w3 ⟨c3, rfl, h3⟩
  have h3 : St w (trk 61 c3 (16 * N) s :: trk 61 c2 (16 * N) s :: trk 61 c1 (16 * N) s :: []) w3 := h3.pick 3 [0, 2, 1]
  go_wp2_with fail
  go_loopw [12] (fun i wr => ∃ k : Nat, k ≤ more.length ∧ i = .int .i64 k ∧ St w [trk 61 c3 (16 * N) (actsF N s (more.take k)), trk 61 c1 (16 * N) s, trk 61 c2 (16 * N) s] wr) (fun i _ => more.length - (intOf i).toNat)
  case atStart => exact ⟨0, Nat.zero_le _, rfl, h3.pick 3 [0, 2, 1]⟩
  case round =>
    clear h1 h2 h3
    obtain ⟨k, hk, rfl, hs1⟩ := hrel
    by_cases hlt : k < more.length
    · obtain ⟨x, hx⟩ : ∃ x, more[k]? = some x := ⟨more[k], List.getElem?_eq_getElem hlt⟩
      obtain ⟨b, off, cp, e1, k0, k1, k2⟩ := H2.out.cell hx
      have hb0 := World.block_lt_of_cell? w _ k0
      injection e1 with e1 e2 e3
      clear e2 e3
      subst e1
      have HT := Lib.hid (actsF_succ N s hx)
      clear hx
      have q0 := (hs1.was hb0).trans k0
      have q1 := (hs1.was (p := ⟨b, off + k * 3 + 1, none⟩) hb0).trans k1
      have q2 := (hs1.was (p := ⟨b, off + k * 3 + 2, none⟩) hb0).trans k2
      go_wp2_with fail
      refine (do_any w wr _ c3 N _ hN hN0 hs1 x).mono ?_
      rintro e w4 ⟨rfl, h4⟩
      rw [← HT.out] at h4
      go_wp2_with fail
      go_roundw
      case rel => exact ⟨k + 1, hlt, by go_num, h4⟩
      case measure => simp [intOf]; omega
    · have h5 := hs1.pick 3 [1, 2]
      clear hs1
      obtain ⟨tb1, to1, tp1, ht1⟩ := TrAt.of (by omega) h5
      obtain ⟨tb2, to2, tp2, ht2⟩ := TrAt.of (by omega) (h5.front 1)
      have HA := Lib.hid (alike_any wr (16 * N) c1 tb1 to1 tp1 c2 tb2 to2 tp2 s s (by omega) (by omega) ht1 ht2)
      rw [sameS_self] at HA
      clear ht1 ht2
      go_wp2_with fail
      refine HA.out.mono ?_
      rintro e w' ⟨rfl, rfl⟩
      go_wp2_with fail
      refine (alive_any w _ _ h5).mono ?_
      rintro e w' ⟨rfl, hs⟩
      go_wp2_with fail
      go_ret
      exact ⟨rfl, hs.below⟩

theorem clones_row (m : Int) (hw : (Lit.int .u8 m).wf = true) (a : Option Addr) (cap : Nat) (acts : List ActV) (a2 : Option Addr) (cap2 : Nat) (more : List ActV) (side : Bool) (w : World) (h : ActsAt w (.slice a acts.length cap) acts) (hn : acts.length ≤ 9223372036854775807)
    (h2 : ActsAt w (.slice a2 more.length cap2) more) (hn2 : more.length ≤ 9223372036854775807) :
    Calls Try.prog 8 #[.int .u8 m, .slice a acts.length cap, .slice a2 more.length cap2, .bool side] w fun e w' => e = .returned (.bool true) ∧ Below w.heap.size w w' := by
  obtain ⟨k, hk, rfl⟩ := u8_nat hw
  by_cases hg : 40 < acts.length
  · have HG := Lib.hid (decide_eq_true hg)
    clear hg h h2 hw
    go_enter Try.func8, Try.ntmps8
    go_wp2_with fail
    refine (great_any w a _ cap hn).mono ?_
    rintro e w' ⟨rfl, rfl⟩
    rw [HG.out]
    go_wp2_with fail
    refine (alive_any w w [] (St.start w)).mono ?_
    rintro e w' ⟨rfl, hs⟩
    go_wp2_with fail
    go_ret
    exact ⟨rfl, hs.below⟩
  by_cases hg2 : 40 < more.length
  · have HG := Lib.hid (decide_eq_false hg)
    have HG2 := Lib.hid (decide_eq_true hg2)
    clear hg hg2 h h2 hw
    go_enter Try.func8, Try.ntmps8
    go_wp2_with fail
    refine (great_any w a _ cap hn).mono ?_
    rintro e w' ⟨rfl, rfl⟩
    rw [HG.out]
    go_wp2_with fail
    refine (great_any w a2 _ cap2 hn2).mono ?_
    rintro e w' ⟨rfl, rfl⟩
    rw [HG2.out]
    go_wp2_with fail
    refine (alive_any w w [] (St.start w)).mono ?_
    rintro e w' ⟨rfl, hs⟩
    go_wp2_with fail
    go_ret
    exact ⟨rfl, hs.below⟩
  cases side
  · exact clones_false k hk a cap acts a2 cap2 more w h h2 (by omega) (by omega)
  · exact clones_true k hk a cap acts a2 cap2 more w h h2 (by omega) (by omega)
end Go.Proofs.Ytjignbbdgoadjaa

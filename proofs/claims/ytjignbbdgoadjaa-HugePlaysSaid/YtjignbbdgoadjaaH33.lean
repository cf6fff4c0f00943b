/-
  The statement HugePlays: its walk.
-/
import Derived.Test.YtjignbbdgoadjaaH31
namespace Go.Proofs.Ytjignbbdgoadjaa
open Go.RowKit

theorem new_is (w0 w : World) (F : List HP) (hs : St w0 F w) (N M : Nat) (hM : M = 16 * N) (h0 : 0 < N) (hN : N ≤ 64) :
    Calls Try.prog 30 #[.int .i64 (M : Int)] w fun e w' => ∃ c, e = .returned (.tuple #[.pointer (some ⟨c, 0, none⟩), .int .i64 0]) ∧ St w0 (trk 61 c (16 * N) (fun _ => 0) :: F) w' := by
  subst hM
  exact new_in w0 w F hs N h0 hN
theorem rnew_is (w0 w : World) (F : List HP) (hs : St w0 F w) (N M : Nat) (hM : M = 16 * N) (h0 : 0 < N) (hN : N ≤ 64) :
    Calls Try.prog 31 #[.int .i64 (M : Int)] w fun e w' => ∃ c, e = .returned (.tuple #[.pointer (some ⟨c, 0, none⟩), .int .i64 0]) ∧ St w0 (trk 77 c (16 * N) (fun _ => 0) :: F) w' := by
  subst hM
  exact rnew_in w0 w F hs N h0 hN

set_option maxRecDepth 10000 in
set_option maxHeartbeats 8000000 in
theorem plays_in (N M : Nat) (hM : M = 16 * N) (h0 : 0 < N) (hN : N ≤ 64) (a : Option Addr) (cap : Nat) (acts : List ActV) (want : Int) (w : World) (h : ActsAt w (.slice a acts.length cap) acts) (hn : acts.length ≤ 40) :
    Calls Try.prog 10 #[.int .i64 (M : Int), .slice a acts.length cap, .int .i64 want] w fun e w' => e = .returned (.bool true) ∧ Below w.heap.size w w' := by
  have H := Lib.hid h
  have HG := Lib.hid (decide_eq_false (show ¬ 40 < acts.length by omega))
  have hM1 : M ≤ 1024 := by omega
  have NEW := Lib.hid (new_is w w _ (St.start w) N M hM h0 hN)
  have RNEW := Lib.hid fun w' F hs => rnew_is w w' F hs N M hM h0 hN
  clear h hM
  go_enter Try.func10, Try.ntmps10
  go_wp2_with fail
  refine (great_any _ a _ cap (by omega)).mono ?_
  rintro e w' ⟨rfl, rfl⟩
  rw [HG.out]
  go_wp2_with fail
  refine NEW.out.mono ?_
  rintro e w1 ⟨c, rfl, g1⟩
  go_wp2_with fail
  refine (RNEW.out w1 _ g1).mono ?_
  rintro e w2 ⟨r, rfl, g2⟩
  have g3 := g2.swap
  clear g1 g2 NEW RNEW
  go_wp2_with fail
  go_loopw [7, 9, 11] (fun t u i wr => ∃ (k : Nat) (s : Nat → Int) (c r : Nat), k ≤ acts.length ∧ i = .int .i64 k ∧ t = .pointer (some ⟨c, 0, none⟩) ∧ u = .pointer (some ⟨r, 0, none⟩) ∧ Hid (okSt N s) ∧ St w (trk 61 c (16 * N) s :: trk 77 r (16 * N) s :: []) wr) (fun _ _ i _ => acts.length - (intOf i).toNat)
  case atStart => exact ⟨0, fun _ => 0, c, r, Nat.zero_le _, rfl, rfl, rfl, Lib.hid (okSt_zero N), g3⟩
  case round =>
    clear g3
    obtain ⟨k, s, c, r, hk, rfl, rfl, rfl, hok, hs1⟩ := hrel
    by_cases hlt : k < acts.length
    · obtain ⟨x, hx⟩ : ∃ x, acts[k]? = some x := ⟨acts[k], List.getElem?_eq_getElem hlt⟩
      obtain ⟨b, off, cp, e1, k0, k1, k2⟩ := H.out.cell hx
      have hb0 := World.block_lt_of_cell? w _ k0
      injection e1 with e1 e2 e3
      clear e2 e3
      subst e1
      clear hx
      have K := Lib.hid fun (w' : World) F (g : St w F w') => And.intro ((g.was hb0).trans k0) (And.intro ((g.was (p := ⟨b, off + k * 3 + 1, none⟩) hb0).trans k1) ((g.was (p := ⟨b, off + k * 3 + 2, none⟩) hb0).trans k2))
      obtain ⟨c0, c1, c2⟩ := K.out _ _ hs1
      clear k0 k1 k2
      by_cases h6 : x.kind = 6
      · have b6 : (x.kind == 6) = true := by simp [h6]
        clear h6
        go_wp2_with fail
        refine (clone_any w wr _ c (16 * N) s (by omega) (by omega) hs1).mono ?_
        rintro e w3 ⟨c3, rfl, g3⟩
        have g4 := g3.pick 3 [2, 0]
        clear c0 c1 c2 g3
        go_wp2_with fail
        refine (rclone_any w w3 _ r (16 * N) s (by omega) (by omega) g4).mono ?_
        rintro e w4 ⟨r3, rfl, g5⟩
        have g6 := g5.pick 3 [2, 0]
        clear g4 g5
        obtain ⟨c0, c1, c2⟩ := K.out _ _ g6
        go_wp2_with fail
        refine (play_any w w4 _ c3 r3 N s hN h0 hok.out g6 x).mono ?_
        rintro e w5 ⟨rfl, g7⟩
        have hok2 := Lib.hid (okSt_act hok.out x)
        go_wp2_with fail
        go_roundw
        case rel => exact ⟨k + 1, _, c3, r3, hlt, by go_num, rfl, rfl, hok2, g7⟩
        case measure => simp [intOf]; omega
      · have b6 : (x.kind == 6) = false := by simp [h6]
        clear h6
        go_wp2_with fail
        refine (play_any w wr _ c r N s hN h0 hok.out hs1 x).mono ?_
        rintro e w5 ⟨rfl, g7⟩
        have hok2 := Lib.hid (okSt_act hok.out x)
        go_wp2_with fail
        go_roundw
        case rel => exact ⟨k + 1, _, c, r, hlt, by go_num, rfl, rfl, hok2, g7⟩
        case measure => simp [intOf]; omega
    · have dk : decide ((k : Int) < (acts.length : Int)) = false := decide_eq_false (by omega)
      go_wp2_with fail
      refine (same_any w wr _ c r N s hN h0 hok.out hs1 M hM1).mono ?_
      rintro e w3 ⟨rfl, g3⟩
      go_wp2_with fail
      refine (play_any w w3 _ c r N s hN h0 hok.out g3 ⟨5, want, 0⟩).mono ?_
      rintro e w4 ⟨rfl, g4⟩
      go_wp2_with fail
      refine (alive_any w w4 _ g4).mono ?_
      rintro e w' ⟨rfl, hs⟩
      go_wp2_with fail
      go_ret
      exact ⟨rfl, hs.below⟩

set_option maxRecDepth 10000 in
set_option maxHeartbeats 8000000 in
theorem plays_out (p : Int) (hp : ¬ ∃ N : Nat, 0 < N ∧ N ≤ 64 ∧ p = ((16 * N : Nat) : Int)) (a : Option Addr) (cap : Nat) (acts : List ActV) (want : Int) (w : World) (h : ActsAt w (.slice a acts.length cap) acts) (hn : acts.length ≤ 40) :
    Calls Try.prog 10 #[.int .i64 p, .slice a acts.length cap, .int .i64 want] w fun e w' => e = .returned (.bool true) ∧ Below w.heap.size w w' := by
  have H := Lib.hid h
  have HG := Lib.hid (decide_eq_false (show ¬ 40 < acts.length by omega))
  have NEW := Lib.hid (new_bad w p hp)
  have RNEW := Lib.hid (rnew_bad w p hp)
  have PL := Lib.hid fun w' x (h : St w [] w') => play_not w w' [] none (fun _ _ => .inl rfl) h x
  have SM := Lib.hid fun w' (h : St w [] w') => same_not w w' [] none (fun _ _ => .inl rfl) h 0 (by omega)
  clear h hp
  go_enter Try.func10, Try.ntmps10
  go_wp2_with fail
  refine (great_any _ a _ cap (by omega)).mono ?_
  rintro e w' ⟨rfl, rfl⟩
  rw [HG.out]
  go_wp2_with fail
  refine NEW.out.mono ?_
  rintro e w' ⟨rfl, rfl⟩
  go_wp2_with fail
  refine RNEW.out.mono ?_
  rintro e w' ⟨rfl, rfl⟩
  have g3 := St.start w
  clear NEW RNEW
  go_wp2_with fail
  go_loopw [7, 9, 11] (fun t u i wr => ∃ (k : Nat), k ≤ acts.length ∧ i = .int .i64 k ∧ t = .pointer none ∧ u = .pointer none ∧ St w [] wr) (fun _ _ i _ => acts.length - (intOf i).toNat)
  case atStart => exact ⟨0, Nat.zero_le _, rfl, rfl, rfl, g3⟩
  case round =>
    clear g3
    obtain ⟨k, hk, rfl, rfl, rfl, hs1⟩ := hrel
    by_cases hlt : k < acts.length
    · obtain ⟨x, hx⟩ : ∃ x, acts[k]? = some x := ⟨acts[k], List.getElem?_eq_getElem hlt⟩
      obtain ⟨b, off, cp, e1, k0, k1, k2⟩ := H.out.cell hx
      have hb0 := World.block_lt_of_cell? w _ k0
      injection e1 with e1 e2 e3
      clear e2 e3
      subst e1
      clear hx
      have c0 := (hs1.was hb0).trans k0
      have c1 := (hs1.was (p := ⟨b, off + k * 3 + 1, none⟩) hb0).trans k1
      have c2 := (hs1.was (p := ⟨b, off + k * 3 + 2, none⟩) hb0).trans k2
      clear k0 k1 k2
      by_cases h6 : x.kind = 6
      · have b6 : (x.kind == 6) = true := by simp [h6]
        clear h6
        go_wp2_with fail
        refine (clone_not wr none (.inl rfl)).mono ?_
        rintro e w' ⟨rfl, rfl⟩
        go_wp2_with fail
        refine (rClone_nil wr).mono ?_
        rintro e w' ⟨rfl, rfl⟩
        go_wp2_with fail
        refine (PL.out wr x hs1).mono ?_
        rintro e w5 ⟨rfl, g7⟩
        go_wp2_with fail
        go_roundw
        case rel => exact ⟨k + 1, hlt, by go_num, rfl, rfl, g7⟩
        case measure => simp [intOf]; omega
      · have b6 : (x.kind == 6) = false := by simp [h6]
        clear h6
        go_wp2_with fail
        refine (PL.out wr x hs1).mono ?_
        rintro e w5 ⟨rfl, g7⟩
        go_wp2_with fail
        go_roundw
        case rel => exact ⟨k + 1, hlt, by go_num, rfl, rfl, g7⟩
        case measure => simp [intOf]; omega
    · have dk : decide ((k : Int) < (acts.length : Int)) = false := decide_eq_false (by omega)
      go_wp2_with fail
      refine (SM.out wr hs1).mono ?_
      rintro e w3 ⟨rfl, g3⟩
      go_wp2_with fail
      refine (PL.out w3 ⟨5, want, 0⟩ g3).mono ?_
      rintro e w4 ⟨rfl, g4⟩
      go_wp2_with fail
      refine (alive_any w w4 _ g4).mono ?_
      rintro e w' ⟨rfl, hs⟩
      go_wp2_with fail
      go_ret
      exact ⟨rfl, hs.below⟩

theorem plays_walk (p : Int) (_ : (Lit.int .i64 p).wf = true) (a : Option Addr) (cap : Nat) (acts : List ActV) (want : Int) (_ : (Lit.int .i64 want).wf = true) (w : World) (h : ActsAt w (.slice a acts.length cap) acts) (hn : acts.length ≤ 9223372036854775807) :
    Calls Try.prog 10 #[.int .i64 p, .slice a acts.length cap, .int .i64 want] w fun e w' => e = .returned (.bool true) ∧ Below w.heap.size w w' := by
  by_cases hg : 40 < acts.length
  · have HG := Lib.hid (decide_eq_true hg)
    clear hg
    go_enter Try.func10, Try.ntmps10
    go_wp2_with fail
    refine (great_any _ a _ cap hn).mono ?_
    rintro e w' ⟨rfl, rfl⟩
    rw [HG.out]
    go_wp2_with fail
    refine (alive_any w _ _ (St.start w)).mono ?_
    rintro e w' ⟨rfl, hs⟩
    go_wp2_with fail
    go_ret
    exact ⟨rfl, hs.below⟩
  · by_cases hp : ∃ N : Nat, 0 < N ∧ N ≤ 64 ∧ p = ((16 * N : Nat) : Int)
    · obtain ⟨N, h0, hN, rfl⟩ := hp
      exact plays_in N (16 * N) rfl h0 hN a cap acts want w h (by omega)
    · exact plays_out p hp a cap acts want w h (by omega)
end Go.Proofs.Ytjignbbdgoadjaa

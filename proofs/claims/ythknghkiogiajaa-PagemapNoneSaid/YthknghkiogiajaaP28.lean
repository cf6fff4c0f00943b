/-
  The statement PagemapSames: its walk.
-/
import Derived.Test.YthknghkiogiajaaP26
namespace Go.Proofs.Ythknghkiogiajaa
open Go.RowKit

theorem mks_ext {f g : Nat → Int} : ∀ n, (∀ p, p < n → f p = g p) → mks f n = mks g n
  | 0, _ => rfl
  | n + 1, h => by
    show addMk (mks f n) n (f n) = addMk (mks g n) n (g n)
    rw [mks_ext n fun p hp => h p (by omega), h n (by omega)]
theorem same_marks (f g : Nat → Int) : sameF f g = decide (mks f 1024 = mks g 1024) := by
  rw [Bool.eq_iff_iff, sameF_iff, decide_eq_true_eq]
  constructor
  · exact fun h => mks_ext 1024 h
  · intro h p hp
    rw [← replay_all f p hp, h, replay_all g p hp]
theorem sameF_comm (f g : Nat → Int) : sameF f g = sameF g f := by
  rw [Bool.eq_iff_iff, sameF_iff, sameF_iff]
  exact ⟨fun h p hp => (h p hp).symm, fun h p hp => (h p hp).symm⟩

set_option maxRecDepth 10000 in
set_option maxHeartbeats 8000000 in
theorem sames_walk (a : Option Addr) (cap : Nat) (acts : List ActV) (a2 : Option Addr) (cap2 : Nat) (more : List ActV) (w : World) (h : ActsAt w (.slice a acts.length cap) acts) (hn : acts.length ≤ 9223372036854775807)
    (h2 : ActsAt w (.slice a2 more.length cap2) more) (hn2 : more.length ≤ 9223372036854775807) :
    Calls Try.prog 10 #[.slice a acts.length cap, .slice a2 more.length cap2] w fun e w' => e = .returned (.bool true) ∧ Below w.heap.size w w' := by
  have H := Lib.hid h
  have H2 := Lib.hid h2
  clear h h2
  by_cases hg : 60 < acts.length
  · have HG := Lib.hid (decide_eq_true hg)
    clear hg
    go_enter Try.func10, Try.ntmps10
    go_wp2_with fail
    refine (great_any w a _ cap hn).mono ?_
    rintro e w' ⟨rfl, rfl⟩
    rw [HG.out]
    go_wp2_with fail
    refine (alive_any w w [] (St.start w)).mono ?_
    rintro e w' ⟨rfl, hs⟩
    go_wp2_with fail
    go_ret
    exact ⟨rfl, hs.below⟩
  by_cases hg2 : 60 < more.length
  · have HG := Lib.hid (decide_eq_false hg)
    have HG2 := Lib.hid (decide_eq_true hg2)
    clear hg hg2
    go_enter Try.func10, Try.ntmps10
    go_wp2_with fail
    refine (great_any w a _ cap hn).mono ?_
    rintro e w' ⟨rfl, rfl⟩
    rw [HG.out]
    go_wp2_with fail
    refine (great_any w a2 _ cap2 hn2).mono ?_
    rintro e w' ⟨rfl, rfl⟩
    rw [HG2.out]
    go_wp2_with fail
    refine (alive_any w w [] (St.start w)).mono ?_
    rintro e w' ⟨rfl, hs⟩
    go_wp2_with fail
    go_ret
    exact ⟨rfl, hs.below⟩
  have hn60 : acts.length ≤ 60 := by omega
  have hm60 : more.length ≤ 60 := by omega
  have HG := Lib.hid (decide_eq_false hg)
  have HG2 := Lib.hid (decide_eq_false hg2)
  clear hg hg2
  go_enter Try.func10, Try.ntmps10
  go_wp2_with fail
  refine (great_any w a _ cap hn).mono ?_
  rintro e w' ⟨rfl, rfl⟩
  rw [HG.out]
  go_wp2_with fail
  refine (great_any w a2 _ cap2 hn2).mono ?_
  rintro e w' ⟨rfl, rfl⟩
  rw [HG2.out]
  go_wp2_with fail
  refine (new_any w w [] (St.start w)).mono ?_
  rintro e w1 ⟨ca, rfl, h1⟩
  go_wp2_with fail
  refine (new_any w w1 _ h1).mono ?_
  rintro e w2 ⟨cb, rfl, h2⟩
  go_wp2_with fail
  refine (rnew_any w w2 _ h2).mono ?_
  rintro e w3 ⟨cc, rfl, h3⟩
  go_wp2_with fail
  refine (rnew_any w w3 _ h3).mono ?_
  rintro e w4 ⟨cd, rfl, h4⟩
  have h5 : St w [mapP ca (actsF (fun _ => 0) (acts.take 0)), refP cc (actsF (fun _ => 0) (acts.take 0)), mapP cb (actsF (fun _ => 0) (more.take 0)), refP cd (actsF (fun _ => 0) (more.take 0))] w4 := h4.pick 4 [3, 1, 2, 0]
  clear h4 h3 h2 h1
  go_wp2_with fail
  go_loopw [9] (fun i wr => ∃ k : Nat, k ≤ acts.length ∧ i = .int .i64 k ∧ St w [mapP ca (actsF (fun _ => 0) (acts.take k)), refP cc (actsF (fun _ => 0) (acts.take k)), mapP cb (actsF (fun _ => 0) (more.take 0)), refP cd (actsF (fun _ => 0) (more.take 0))] wr) (fun i _ => acts.length - (intOf i).toNat)
  case atStart => exact ⟨0, Nat.zero_le _, rfl, h5⟩
  case round =>
    clear h5
    obtain ⟨k, hk, rfl, hs1⟩ := hrel
    by_cases hlt : k < acts.length
    · obtain ⟨x, hx⟩ : ∃ x, acts[k]? = some x := ⟨acts[k], List.getElem?_eq_getElem hlt⟩
      obtain ⟨b, off, cp, e1, k0, k1, k2, k3⟩ := H.out.cell hx
      have hb0 := World.block_lt_of_cell? w _ k0
      injection e1 with e1 e2 e3
      clear e2 e3
      subst e1
      have HT := Lib.hid (actsF_succ (fun _ => 0) hx)
      clear hx
      have c0 := (hs1.was hb0).trans k0
      have c1 := (hs1.was (p := ⟨b, off + k * 4 + 1, none⟩) hb0).trans k1
      have c2 := (hs1.was (p := ⟨b, off + k * 4 + 2, none⟩) hb0).trans k2
      have c3 := (hs1.was (p := ⟨b, off + k * 4 + 3, none⟩) hb0).trans k3
      go_wp2_with fail
      refine (play_any w wr _ ca cc _ hs1 x).mono ?_
      rintro e w5 ⟨rfl, h6⟩
      rw [← HT.out] at h6
      go_wp2_with fail
      go_roundw
      case rel => exact ⟨k + 1, hlt, by go_num, h6⟩
      case measure => simp [intOf]; omega
    · have e : acts.take k = acts := List.take_of_length_le (by omega)
      rw [e] at hs1
      clear e
      generalize actsF (fun _ => 0) acts = f at *
      have hs2 := hs1.pick 4 [2, 3, 0, 1]
      clear hs1
      go_wp2_with fail
      go_loopw [10] (fun i wr => ∃ k : Nat, k ≤ more.length ∧ i = .int .i64 k ∧ St w [mapP cb (actsF (fun _ => 0) (more.take k)), refP cd (actsF (fun _ => 0) (more.take k)), mapP ca f, refP cc f] wr) (fun i _ => more.length - (intOf i).toNat)
      case atStart => exact ⟨0, Nat.zero_le _, rfl, hs2⟩
      case round =>
        clear hs2
        obtain ⟨k, hk, rfl, hs1⟩ := hrel
        by_cases hlt : k < more.length
        · obtain ⟨x, hx⟩ : ∃ x, more[k]? = some x := ⟨more[k], List.getElem?_eq_getElem hlt⟩
          obtain ⟨b, off, cp, e1, k0, k1, k2, k3⟩ := H2.out.cell hx
          have hb0 := World.block_lt_of_cell? w _ k0
          injection e1 with e1 e2 e3
          clear e2 e3
          subst e1
          have HT := Lib.hid (actsF_succ (fun _ => 0) hx)
          clear hx
          have c0 := (hs1.was hb0).trans k0
          have c1 := (hs1.was (p := ⟨b, off + k * 4 + 1, none⟩) hb0).trans k1
          have c2 := (hs1.was (p := ⟨b, off + k * 4 + 2, none⟩) hb0).trans k2
          have c3 := (hs1.was (p := ⟨b, off + k * 4 + 3, none⟩) hb0).trans k3
          go_wp2_with fail
          refine (play_any w _ _ cb cd _ hs1 x).mono ?_
          rintro e w5 ⟨rfl, h6⟩
          rw [← HT.out] at h6
          go_wp2_with fail
          go_roundw
          case rel => exact ⟨k + 1, hlt, by go_num, h6⟩
          case measure => simp [intOf]; omega
        · have e : more.take k = more := List.take_of_length_le (by omega)
          rw [e] at hs1
          clear e
          generalize actsF (fun _ => 0) more = g at *
          have SM := Lib.hid (same_marks f g)
          have SC := Lib.hid (sameF_comm g f)
          have hll := mks_len f 1024
          go_wp2_with fail
          refine (Same_any _ _ _ f g (MapAt.of (hs1.front 2)) (MapAt.of hs1)).mono ?_
          rintro e w' ⟨rfl, rfl⟩
          go_wp2_with fail
          refine (rMarks_any w _ _ cc f (hs1.front 3)).mono ?_
          rintro e w7 ⟨a7, p7, rfl, h7⟩
          go_wp2_with fail
          refine (rMarks_any w w7 _ cd g (h7.front 3)).mono ?_
          rintro e w8 ⟨a8, p8, rfl, h8⟩
          have i8 := marks_at h8
          have i7 := marks_at (h8.front 2)
          go_wp2_with fail
          refine (marks_any w8 a7 a8 p7 p8 _ _ i7 i8 (by omega)).mono ?_
          rintro e w' ⟨rfl, n, rfl⟩
          rw [← SM.out]
          have h9 : St w [mapP ca f, mapP cb g] (w8.drewN n) := (h8.drewN n).pick 6 [5, 4]
          clear h8 i7 i8 h7 hs1
          generalize w8.drewN n = w9 at *
          go_wp2_with fail
          refine (clone_any w w9 _ ca f h9).mono ?_
          rintro e w10 ⟨c3, rfl, h10⟩
          go_wp2_with fail
          refine (Same_any _ _ _ f f (MapAt.of (h10.front 1)) (MapAt.of h10)).mono ?_
          rintro e w' ⟨rfl, rfl⟩
          rw [show sameF f f = true from sameF_iff.2 fun _ _ => rfl]
          go_wp2_with fail
          refine (Same_any _ _ _ g f (MapAt.of (h10.front 2)) (MapAt.of (h10.front 1))).mono ?_
          rintro e w' ⟨rfl, rfl⟩
          rw [SC.out]
          go_wp2_with fail
          refine (Same_any _ _ _ f g (MapAt.of (h10.front 1)) (MapAt.of (h10.front 2))).mono ?_
          rintro e w' ⟨rfl, rfl⟩
          go_wp2_with fail
          refine (alive_any w _ _ h10).mono ?_
          rintro e w' ⟨rfl, hs⟩
          go_wp2_with fail
          go_ret
          exact ⟨rfl, hs.below⟩
end Go.Proofs.Ythknghkiogiajaa

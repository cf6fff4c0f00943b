/-
  The statement PagemapPlays: its walk.
-/
import Derived.Test.YthknghkiogiajaaP26
namespace Go.Proofs.Ythknghkiogiajaa
open Go.RowKit

theorem isNext_form {f : Nat → Int} {page : Int} {v : Value} (h : isNext f page v) : ∃ a b c : Int, v = .tuple #[.int .i64 a, .int .i64 b, .int .i64 c] := by
  rcases h with ⟨q, _, _, _, _, rfl⟩ | ⟨_, rfl⟩
  · exact ⟨_, _, _, rfl⟩
  · exact ⟨_, _, _, rfl⟩
theorem actF_two (f : Nat → Int) (x : ActV) (h : x.kind = 2) : actF f x = f := by
  unfold actF
  rw [if_neg (by omega), if_neg (by omega)]

set_option maxRecDepth 10000 in
set_option maxHeartbeats 8000000 in
theorem plays_walk (a : Option Addr) (cap : Nat) (acts : List ActV) (page : Int) (hpg : (Lit.int .i64 page).wf = true) (w : World) (h : ActsAt w (.slice a acts.length cap) acts) (hn : acts.length ≤ 9223372036854775807) :
    Calls Try.prog 8 #[.slice a acts.length cap, .int .i64 page] w fun e w' => e = .returned (.bool true) ∧ Below w.heap.size w w' := by
  clear hpg
  have H := Lib.hid h
  clear h
  by_cases hg : 60 < acts.length
  · have HG := Lib.hid (decide_eq_true hg)
    clear hg
    go_enter Try.func8, Try.ntmps8
    go_wp2_with fail
    refine (great_any w a _ cap hn).mono ?_
    rintro e w' ⟨rfl, rfl⟩
    rw [HG.out]
    go_wp2_with fail
    refine (alive_any w w [] (St.start w)).mono ?_
    rintro e w' ⟨rfl, hs⟩
    go_wp2_with fail
    go_ret
    exact ⟨rfl, hs.below⟩
  have hn60 : acts.length ≤ 60 := by omega
  have HG := Lib.hid (decide_eq_false hg)
  clear hg
  have HOK := Lib.hid (fOk_acts acts fOk_zero)
  go_enter Try.func8, Try.ntmps8
  go_wp2_with fail
  refine (great_any w a _ cap hn).mono ?_
  rintro e w' ⟨rfl, rfl⟩
  rw [HG.out]
  go_wp2_with fail
  refine (new_any w w [] (St.start w)).mono ?_
  rintro e w1 ⟨c, rfl, h1⟩
  go_wp2_with fail
  refine (rnew_any w w1 _ h1).mono ?_
  rintro e w2 ⟨r, rfl, h2⟩
  have h3 : St w [mapP c (actsF (fun _ => 0) (acts.take 0)), refP r (actsF (fun _ => 0) (acts.take 0))] w2 := h2.swap
  clear h2 h1
  go_wp2_with fail
  go_loopw [5, 6, 7] (fun m t i wr => ∃ k c r : Nat, k ≤ acts.length ∧ i = .int .i64 k ∧ m = .pointer (some ⟨c, 0, none⟩) ∧ t = .pointer (some ⟨r, 0, none⟩) ∧ St w [mapP c (actsF (fun _ => 0) (acts.take k)), refP r (actsF (fun _ => 0) (acts.take k))] wr) (fun _ _ i _ => acts.length - (intOf i).toNat)
  case atStart => exact ⟨0, c, r, Nat.zero_le _, rfl, rfl, rfl, h3⟩
  case round =>
    clear h3

    obtain ⟨k, c, r, hk, rfl, rfl, rfl, hs1⟩ := hrel
    by_cases hlt : k < acts.length
    · obtain ⟨x, hx⟩ : ∃ x, acts[k]? = some x := ⟨acts[k], List.getElem?_eq_getElem hlt⟩
      obtain ⟨b, off, cp, e1, k0, k1, k2, k3⟩ := H.out.cell hx
      have hb0 := World.block_lt_of_cell? w _ k0
      injection e1 with e1 e2 e3
      clear e2 e3
      subst e1
      have HT := Lib.hid (actsF_succ (fun _ => 0) hx)
      clear hx
      have c0 := (hs1.was hb0).trans k0
      have c1 := (hs1.was (p := ⟨b, off + k * 4 + 1, none⟩) hb0).trans k1
      have c2 := (hs1.was (p := ⟨b, off + k * 4 + 2, none⟩) hb0).trans k2
      have c3 := (hs1.was (p := ⟨b, off + k * 4 + 3, none⟩) hb0).trans k3
      by_cases h2 : x.kind = 2
      · have b2 : (x.kind == 2) = true := by simp [h2]
        have h2' := Lib.hid h2
        clear h2
        go_wp2_with fail
        refine (clone_any w wr _ c _ hs1).mono ?_
        rintro e w3 ⟨cc, rfl, h3⟩
        go_wp2_with fail
        refine (rclone_any w w3 _ r _ (h3.pick 3 [2, 0])).mono ?_
        rintro e w4 ⟨rr, rfl, h4⟩
        have h5 := h4.pick 3 [2, 0]
        clear h3 h4 c0 c1 c2 c3
        have c0 := (h5.was hb0).trans k0
        have c1 := (h5.was (p := ⟨b, off + k * 4 + 1, none⟩) hb0).trans k1
        have c2 := (h5.was (p := ⟨b, off + k * 4 + 2, none⟩) hb0).trans k2
        have c3 := (h5.was (p := ⟨b, off + k * 4 + 3, none⟩) hb0).trans k3
        go_wp2_with fail
        refine (play_any w w4 _ cc rr _ h5 x).mono ?_
        rintro e w5 ⟨rfl, h6⟩
        rw [← HT.out] at h6
        go_wp2_with fail
        go_roundw
        case rel => exact ⟨k + 1, cc, rr, hlt, by go_num, rfl, rfl, h6⟩
        case measure => simp [intOf]; omega
      · have b2 : (x.kind == 2) = false := by simp [h2]
        clear h2
        go_wp2_with fail
        refine (play_any w wr _ c r _ hs1 x).mono ?_
        rintro e w5 ⟨rfl, h6⟩
        rw [← HT.out] at h6
        go_wp2_with fail
        go_roundw
        case rel => exact ⟨k + 1, c, r, hlt, by go_num, rfl, rfl, h6⟩
        case measure => simp [intOf]; omega
    · have e : acts.take k = acts := List.take_of_length_le (by omega)
      rw [e] at hs1
      clear e
      generalize actsF (fun _ => 0) acts = f at *
      go_wp2_with fail
      refine (next_any w wr _ c f HOK.out hs1 page).mono ?_
      rintro e w' ⟨v, rfl, hv, rfl⟩
      obtain ⟨n1, n2, n3, rfl⟩ := isNext_form hv
      have HV := Lib.hid hv
      clear hv
      go_wp2_with fail
      obtain ⟨rb, roff, rcap, hr⟩ := RefAt.of hs1.swap
      refine (rnext_any wr r rb roff rcap f hr page).mono ?_
      rintro e w' ⟨v, rfl, hv, n, rfl⟩
      obtain rfl := isNext_one hv HV.out
      clear hr hv
      have h3 := hs1.drewN n
      clear hs1
      go_wp2_with fail
      refine (lsame_any w _ _ c r f h3).mono ?_
      rintro e w4 ⟨rfl, h4⟩
      go_wp2_with fail
      refine (get_any w w4 _ c f h4 page).mono ?_
      rintro e w' ⟨rfl, rfl⟩
      go_wp2_with fail
      obtain ⟨rb, roff, rcap, hr⟩ := RefAt.of h4.swap
      refine (rget_any w4 r rb roff rcap f hr page).mono ?_
      rintro e w' ⟨rfl, rfl⟩
      go_wp2_with fail
      refine (alive_any w _ _ h4).mono ?_
      rintro e w' ⟨rfl, hs⟩
      go_wp2_with fail
      go_ret
      exact ⟨rfl, hs.below⟩
end Go.Proofs.Ythknghkiogiajaa

/-
  The statement PagemapNumbers: its walk. (Printed by mkP15.py.)
-/
import Derived.Test.YthknghkiogiajaaP12
namespace Go.Proofs.Ythknghkiogiajaa
open Go.RowKit

theorem mget_fill (f : Nat → Int) (s n : Nat) (no page : Int) (h : s + n ≤ 1024) : mget (fill f s n no) page = if (s : Int) ≤ page ∧ page - s < n then no else mget f page := by
  unfold mget
  by_cases h1 : 0 ≤ page ∧ page < 1024
  · rw [if_pos h1, if_pos h1]
    unfold fill
    by_cases h2 : (s : Int) ≤ page ∧ page - s < n
    · rw [if_pos h2, if_pos (by omega)]
    · rw [if_neg h2, if_neg (by omega)]
  · rw [if_neg h1, if_neg h1, if_neg (by omega)]
/-- what a call that is not refused does to one page -/
theorem mget_act {f : Nat → Int} {x : ActV} (page : Int) (he : actE x = 0) (hk : x.kind = 0 ∨ x.kind = 1) :
    0 ≤ x.a ∧ x.a ≤ 1024 ∧ x.b ≤ 1024 ∧ mget (actF f x) page = if x.a ≤ page ∧ page - x.a < x.b then (if x.kind = 1 then 0 else x.c) else mget f page := by
  unfold actE at he
  unfold actF
  rcases hk with hk | hk
  · rw [if_pos hk] at he ⊢
    unfold SetE at he
    unfold Mset
    by_cases hs : okSet x.a x.b x.c
    · rw [if_pos hs]
      obtain ⟨_, h1, h2, h3⟩ := hs
      refine ⟨h1, by omega, by omega, ?_⟩
      rw [mget_fill _ _ _ _ _ (by omega), if_neg (show ¬ x.kind = 1 by omega), show ((x.a.toNat : Nat) : Int) = x.a by omega, show ((x.b.toNat : Nat) : Int) = x.b by omega]
    · rw [if_neg hs] at he; exact absurd he (by decide)
  · rw [if_neg (show ¬ x.kind = 0 by omega), if_pos hk] at he ⊢
    unfold setE at he
    unfold mset
    by_cases hs : okRun x.a x.b
    · rw [if_pos hs]
      obtain ⟨h1, h2, h3⟩ := hs
      refine ⟨h1, by omega, by omega, ?_⟩
      rw [mget_fill _ _ _ _ _ (by omega), if_pos hk, show ((x.a.toNat : Nat) : Int) = x.a by omega, show ((x.b.toNat : Nat) : Int) = x.b by omega]
    · rw [if_neg hs] at he; exact absurd he (by decide)
/-- one that is refused, or is none, changes nothing -/
theorem actF_not {f : Nat → Int} {x : ActV} (h : ¬ actE x = 0 ∨ (¬ x.kind = 0 ∧ ¬ x.kind = 1)) : actF f x = f := by
  unfold actE at h
  unfold actF
  by_cases h0 : x.kind = 0
  · rw [if_pos h0]
    rw [if_pos h0] at h
    unfold SetE at h
    unfold Mset
    by_cases hs : okSet x.a x.b x.c
    · rw [if_pos hs] at h; rcases h with h | h
      · exact absurd rfl h
      · exact absurd h0 h.1
    · rw [if_neg hs]
  · rw [if_neg h0]
    rw [if_neg h0] at h
    by_cases h1 : x.kind = 1
    · rw [if_pos h1]
      rw [if_pos h1] at h
      unfold setE at h
      unfold mset
      by_cases hs : okRun x.a x.b
      · rw [if_pos hs] at h; rcases h with h | h
        · exact absurd rfl h
        · exact absurd h1 h.2
      · rw [if_neg hs]
    · rw [if_neg h1]

set_option maxRecDepth 10000 in
set_option maxHeartbeats 8000000 in
theorem numbers_walk (a : Option Addr) (cap : Nat) (acts : List ActV) (page : Int) (hw : (Lit.int .i64 page).wf = true) (w : World) (h : ActsAt w (.slice a acts.length cap) acts) (hn : acts.length ≤ 9223372036854775807) :
    Calls Try.prog 3 #[.slice a acts.length cap, .int .i64 page] w fun e w' => e = .returned (.bool true) ∧ Below w.heap.size w w' := by
  have hp : -9223372036854775808 ≤ page ∧ page ≤ 9223372036854775807 := by
    have h := hw
    simp only [Lit.wf, decide_eq_true_eq, Bool.and_eq_true] at h
    exact h
  obtain ⟨p1, p2⟩ := hp
  have H := Lib.hid h
  clear h hw
  by_cases hg : 60 < acts.length
  · have HG := Lib.hid (decide_eq_true hg)
    clear hg
    go_enter Try.func3, Try.ntmps3
    go_wp2_with fail
    refine (great_any w a _ cap hn).mono ?_
    rintro e w' ⟨rfl, rfl⟩
    rw [HG.out]
    go_wp2_with fail
    refine (alive_any w w [] (St.start w)).mono ?_
    rintro e w' ⟨rfl, hs⟩
    go_wp2_with fail
    go_ret
    exact ⟨rfl, hs.below⟩
  have hn60 : acts.length ≤ 60 := by omega
  have HG := Lib.hid (decide_eq_false hg)
  clear hg
  go_enter Try.func3, Try.ntmps3
  go_wp2_with fail
  refine (great_any w a _ cap hn).mono ?_
  rintro e w' ⟨rfl, rfl⟩
  rw [HG.out]
  go_wp2_with fail
  refine (new_any w w [] (St.start w)).mono ?_
  rintro e w1 ⟨c, rfl, h1⟩
  go_wp2_with fail
  go_loopw [6, 7] (fun v i wr => ∃ k : Nat, k ≤ acts.length ∧ i = .int .i64 k ∧ v = .int .i64 (mget (actsF (fun _ => 0) (acts.take k)) page) ∧ St w [mapP c (actsF (fun _ => 0) (acts.take k))] wr) (fun _ i _ => acts.length - (intOf i).toNat)
  case atStart => exact ⟨0, Nat.zero_le _, rfl, by unfold mget; split <;> rfl, h1⟩
  case round =>
    clear h1
    obtain ⟨k, hk, rfl, rfl, hs1⟩ := hrel
    by_cases hlt : k < acts.length
    · obtain ⟨x, hx⟩ : ∃ x, acts[k]? = some x := ⟨acts[k], List.getElem?_eq_getElem hlt⟩
      obtain ⟨b, off, cp, e1, k0, k1, k2, k3⟩ := H.out.cell hx
      have hb0 := World.block_lt_of_cell? w _ k0
      injection e1 with e1 e2 e3
      clear e2 e3
      subst e1
      have HT := Lib.hid (actsF_succ (fun _ => 0) hx)
      clear hx
      have c0 := (hs1.was hb0).trans k0
      have c1 := (hs1.was (p := ⟨b, off + k * 4 + 1, none⟩) hb0).trans k1
      have c2 := (hs1.was (p := ⟨b, off + k * 4 + 2, none⟩) hb0).trans k2
      have c3 := (hs1.was (p := ⟨b, off + k * 4 + 3, none⟩) hb0).trans k3
      by_cases he : actE x = 0
      case neg =>
        have hnew : mget (actF (actsF (fun _ => 0) (acts.take k)) x) page = mget (actsF (fun _ => 0) (acts.take k)) page := by rw [actF_not (.inl he)]
        have b1 : (actE x == 0) = false := by simp [he]
        clear he
        have HN : Hid (mget (actsF (fun _ => 0) (acts.take (k + 1))) page = mget (actsF (fun _ => 0) (acts.take k)) page) := Lib.hid (by rw [HT.out]; exact hnew)
        have tq : (mget (actsF (fun _ => 0) (acts.take k)) page != mget (actsF (fun _ => 0) (acts.take k)) page) = false := by simp
        clear hnew
        go_wp2_with fail
        refine (do_any w wr _ c _ hs1 x).mono ?_
        rintro e w2 ⟨rfl, h2⟩
        rw [← HT.out] at h2
        have d0 := (h2.was hb0).trans k0
        have d1 := (h2.was (p := ⟨b, off + k * 4 + 1, none⟩) hb0).trans k1
        have d2 := (h2.was (p := ⟨b, off + k * 4 + 2, none⟩) hb0).trans k2
        have d3 := (h2.was (p := ⟨b, off + k * 4 + 3, none⟩) hb0).trans k3
        go_wp2_with fail
        go_quiet (fail)
        have h3 := h2.drewN nq
        go_wp2_with fail
        refine (get_any w _ _ c _ h3 page).mono ?_
        rintro e w' ⟨rfl, rfl⟩
        rw [HN.out]
        go_wp2_with fail
        go_roundw
        case rel => exact ⟨k + 1, hlt, by go_num, by rw [HN.out], h3⟩
        case measure => simp [intOf]; omega
      have be : (actE x == 0) = true := by simp [he]
      by_cases hk0 : x.kind < 0
      case pos =>
        have hnew : mget (actF (actsF (fun _ => 0) (acts.take k)) x) page = mget (actsF (fun _ => 0) (acts.take k)) page := by rw [actF_not (.inr ⟨by omega, by omega⟩)]
        have b2 : decide (0 ≤ x.kind) = false := by simp; omega
        clear he hk0
        have HN : Hid (mget (actsF (fun _ => 0) (acts.take (k + 1))) page = mget (actsF (fun _ => 0) (acts.take k)) page) := Lib.hid (by rw [HT.out]; exact hnew)
        have tq : (mget (actsF (fun _ => 0) (acts.take k)) page != mget (actsF (fun _ => 0) (acts.take k)) page) = false := by simp
        clear hnew
        go_wp2_with fail
        refine (do_any w wr _ c _ hs1 x).mono ?_
        rintro e w2 ⟨rfl, h2⟩
        rw [← HT.out] at h2
        have d0 := (h2.was hb0).trans k0
        have d1 := (h2.was (p := ⟨b, off + k * 4 + 1, none⟩) hb0).trans k1
        have d2 := (h2.was (p := ⟨b, off + k * 4 + 2, none⟩) hb0).trans k2
        have d3 := (h2.was (p := ⟨b, off + k * 4 + 3, none⟩) hb0).trans k3
        go_wp2_with fail
        go_quiet (fail)
        have h3 := h2.drewN nq
        go_wp2_with fail
        refine (get_any w _ _ c _ h3 page).mono ?_
        rintro e w' ⟨rfl, rfl⟩
        rw [HN.out]
        go_wp2_with fail
        go_roundw
        case rel => exact ⟨k + 1, hlt, by go_num, by rw [HN.out], h3⟩
        case measure => simp [intOf]; omega
      have b2 : decide (0 ≤ x.kind) = true := by simp; omega
      by_cases hk1 : 1 < x.kind
      case pos =>
        have hnew : mget (actF (actsF (fun _ => 0) (acts.take k)) x) page = mget (actsF (fun _ => 0) (acts.take k)) page := by rw [actF_not (.inr ⟨by omega, by omega⟩)]
        have b3 : decide (x.kind ≤ 1) = false := by simp; omega
        clear he hk0 hk1
        have HN : Hid (mget (actsF (fun _ => 0) (acts.take (k + 1))) page = mget (actsF (fun _ => 0) (acts.take k)) page) := Lib.hid (by rw [HT.out]; exact hnew)
        have tq : (mget (actsF (fun _ => 0) (acts.take k)) page != mget (actsF (fun _ => 0) (acts.take k)) page) = false := by simp
        clear hnew
        go_wp2_with fail
        refine (do_any w wr _ c _ hs1 x).mono ?_
        rintro e w2 ⟨rfl, h2⟩
        rw [← HT.out] at h2
        have d0 := (h2.was hb0).trans k0
        have d1 := (h2.was (p := ⟨b, off + k * 4 + 1, none⟩) hb0).trans k1
        have d2 := (h2.was (p := ⟨b, off + k * 4 + 2, none⟩) hb0).trans k2
        have d3 := (h2.was (p := ⟨b, off + k * 4 + 3, none⟩) hb0).trans k3
        go_wp2_with fail
        go_quiet (fail)
        have h3 := h2.drewN nq
        go_wp2_with fail
        refine (get_any w _ _ c _ h3 page).mono ?_
        rintro e w' ⟨rfl, rfl⟩
        rw [HN.out]
        go_wp2_with fail
        go_roundw
        case rel => exact ⟨k + 1, hlt, by go_num, by rw [HN.out], h3⟩
        case measure => simp [intOf]; omega
      have b3 : decide (x.kind ≤ 1) = true := by simp; omega
      obtain ⟨xa1, xa2, xb2, hact⟩ := mget_act (f := actsF (fun _ => 0) (acts.take k)) page he (by omega)
      by_cases hp1 : page < x.a
      case pos =>
        have hnew : mget (actF (actsF (fun _ => 0) (acts.take k)) x) page = mget (actsF (fun _ => 0) (acts.take k)) page := by rw [hact, if_neg (by omega)]
        have b4 : decide (x.a ≤ page) = false := by simp; omega
        clear he hk0 hk1 hact hp1
        have HN : Hid (mget (actsF (fun _ => 0) (acts.take (k + 1))) page = mget (actsF (fun _ => 0) (acts.take k)) page) := Lib.hid (by rw [HT.out]; exact hnew)
        have tq : (mget (actsF (fun _ => 0) (acts.take k)) page != mget (actsF (fun _ => 0) (acts.take k)) page) = false := by simp
        clear hnew
        go_wp2_with fail
        refine (do_any w wr _ c _ hs1 x).mono ?_
        rintro e w2 ⟨rfl, h2⟩
        rw [← HT.out] at h2
        have d0 := (h2.was hb0).trans k0
        have d1 := (h2.was (p := ⟨b, off + k * 4 + 1, none⟩) hb0).trans k1
        have d2 := (h2.was (p := ⟨b, off + k * 4 + 2, none⟩) hb0).trans k2
        have d3 := (h2.was (p := ⟨b, off + k * 4 + 3, none⟩) hb0).trans k3
        go_wp2_with fail
        go_quiet (fail)
        have h3 := h2.drewN nq
        go_wp2_with fail
        refine (get_any w _ _ c _ h3 page).mono ?_
        rintro e w' ⟨rfl, rfl⟩
        rw [HN.out]
        go_wp2_with fail
        go_roundw
        case rel => exact ⟨k + 1, hlt, by go_num, by rw [HN.out], h3⟩
        case measure => simp [intOf]; omega
      have b4 : decide (x.a ≤ page) = true := by simp; omega
      have hwr : IntKind.i64.wrap (page - x.a) = page - x.a := IntWalk.i64_in _ (by omega)
      by_cases hp2 : x.b ≤ page - x.a
      case pos =>
        have hnew : mget (actF (actsF (fun _ => 0) (acts.take k)) x) page = mget (actsF (fun _ => 0) (acts.take k)) page := by rw [hact, if_neg (by omega)]
        have b5 : decide (page - x.a < x.b) = false := by simp; omega
        clear he hk0 hk1 hact hp1 hp2
        have HN : Hid (mget (actsF (fun _ => 0) (acts.take (k + 1))) page = mget (actsF (fun _ => 0) (acts.take k)) page) := Lib.hid (by rw [HT.out]; exact hnew)
        have tq : (mget (actsF (fun _ => 0) (acts.take k)) page != mget (actsF (fun _ => 0) (acts.take k)) page) = false := by simp
        clear hnew
        go_wp2_with fail
        refine (do_any w wr _ c _ hs1 x).mono ?_
        rintro e w2 ⟨rfl, h2⟩
        rw [← HT.out] at h2
        have d0 := (h2.was hb0).trans k0
        have d1 := (h2.was (p := ⟨b, off + k * 4 + 1, none⟩) hb0).trans k1
        have d2 := (h2.was (p := ⟨b, off + k * 4 + 2, none⟩) hb0).trans k2
        have d3 := (h2.was (p := ⟨b, off + k * 4 + 3, none⟩) hb0).trans k3
        go_wp2_with fail
        go_quiet (fail)
        have h3 := h2.drewN nq
        go_wp2_with fail
        refine (get_any w _ _ c _ h3 page).mono ?_
        rintro e w' ⟨rfl, rfl⟩
        rw [HN.out]
        go_wp2_with fail
        go_roundw
        case rel => exact ⟨k + 1, hlt, by go_num, by rw [HN.out], h3⟩
        case measure => simp [intOf]; omega
      have b5 : decide (page - x.a < x.b) = true := by simp; omega
      by_cases hk : x.kind = 1
      case pos =>
        have hnew : mget (actF (actsF (fun _ => 0) (acts.take k)) x) page = 0 := by rw [hact, if_pos (by omega), if_pos hk]
        have b6 : (x.kind == 1) = true := by simp [hk]
        clear he hk0 hk1 hact hp1 hp2 hk
        have HN : Hid (mget (actsF (fun _ => 0) (acts.take (k + 1))) page = 0) := Lib.hid (by rw [HT.out]; exact hnew)
        have tq : (0 != 0) = false := by simp
        clear hnew
        go_wp2_with fail
        refine (do_any w wr _ c _ hs1 x).mono ?_
        rintro e w2 ⟨rfl, h2⟩
        rw [← HT.out] at h2
        have d0 := (h2.was hb0).trans k0
        have d1 := (h2.was (p := ⟨b, off + k * 4 + 1, none⟩) hb0).trans k1
        have d2 := (h2.was (p := ⟨b, off + k * 4 + 2, none⟩) hb0).trans k2
        have d3 := (h2.was (p := ⟨b, off + k * 4 + 3, none⟩) hb0).trans k3
        go_wp2_with fail
        go_quiet (fail)
        have h3 := h2.drewN nq
        go_wp2_with fail
        refine (get_any w _ _ c _ h3 page).mono ?_
        rintro e w' ⟨rfl, rfl⟩
        rw [HN.out]
        go_wp2_with fail
        go_roundw
        case rel => exact ⟨k + 1, hlt, by go_num, by rw [HN.out], h3⟩
        case measure => simp [intOf]; omega
      case neg =>
        have hnew : mget (actF (actsF (fun _ => 0) (acts.take k)) x) page = x.c := by rw [hact, if_pos (by omega), if_neg hk]
        have b6 : (x.kind == 1) = false := by simp [hk]
        clear he hk0 hk1 hact hp1 hp2 hk
        have HN : Hid (mget (actsF (fun _ => 0) (acts.take (k + 1))) page = x.c) := Lib.hid (by rw [HT.out]; exact hnew)
        have tq : (x.c != x.c) = false := by simp
        clear hnew
        go_wp2_with fail
        refine (do_any w wr _ c _ hs1 x).mono ?_
        rintro e w2 ⟨rfl, h2⟩
        rw [← HT.out] at h2
        have d0 := (h2.was hb0).trans k0
        have d1 := (h2.was (p := ⟨b, off + k * 4 + 1, none⟩) hb0).trans k1
        have d2 := (h2.was (p := ⟨b, off + k * 4 + 2, none⟩) hb0).trans k2
        have d3 := (h2.was (p := ⟨b, off + k * 4 + 3, none⟩) hb0).trans k3
        go_wp2_with fail
        go_quiet (fail)
        have h3 := h2.drewN nq
        go_wp2_with fail
        refine (get_any w _ _ c _ h3 page).mono ?_
        rintro e w' ⟨rfl, rfl⟩
        rw [HN.out]
        go_wp2_with fail
        go_roundw
        case rel => exact ⟨k + 1, hlt, by go_num, by rw [HN.out], h3⟩
        case measure => simp [intOf]; omega
    · go_wp2_with fail
      refine (alive_any w wr _ hs1).mono ?_
      rintro e w' ⟨rfl, hs⟩
      go_wp2_with fail
      go_ret
      exact ⟨rfl, hs.below⟩
end Go.Proofs.Ythknghkiogiajaa

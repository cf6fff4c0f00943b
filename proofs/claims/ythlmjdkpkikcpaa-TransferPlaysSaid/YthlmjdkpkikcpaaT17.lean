/-
  The statement TransferPlays: its walk.
-/
import Derived.Test.YthlmjdkpkikcpaaT16
namespace Go.Proofs.Ythlmjdkpkikcpaa
open Go.RowKit

theorem TC.act_out {x : TC} {k : Int} {l : List Int} (h : k = 4) : x.act k l = x := by subst h; simp [TC.act]

set_option maxHeartbeats 4000000 in
theorem plays_walk (many : Int) (_w1 : (Lit.int .i64 many).wf = true) (room : Int) (_w2 : (Lit.int .i64 room).wf = true) (a : Option Addr) (cap : Nat) (acts : List ActV) (w : World) (h : ActsAt w (.slice a acts.length cap) acts) (hn : acts.length ≤ 9223372036854775807) :
    Calls Try.prog 6 #[.int .i64 many, .int .i64 room, .slice a acts.length cap] w fun e w' => e = .returned (.bool true) ∧ Below w.heap.size w w' := by
  have H := Lib.hid h
  clear h
  by_cases hg : greatB acts = true
  · have HG := Lib.hid hg
    clear hg
    go_enter Try.func6, Try.ntmps6
    go_wp2_with fail
    refine (great_any w a cap acts H.out hn).mono ?_
    rintro e w' ⟨rfl, rfl⟩
    rw [HG.out]
    go_wp2_with fail
    refine (alive_any w w [] (St.start w)).mono ?_
    rintro e w' ⟨rfl, hs⟩
    go_wp2_with fail
    go_ret
    exact ⟨rfl, hs.below⟩
  have hg : greatB acts = false := by simpa using hg
  obtain ⟨hn60, hl60⟩ := great_no hg
  have HL := Lib.hid hl60
  have HG := Lib.hid hg
  clear hg hl60
  by_cases hm : 1 ≤ many ∧ many ≤ 32 ∧ 0 ≤ room ∧ room ≤ 8
  case neg =>
    have HB := Lib.hid (new_bad w many room hm)
    have HR := Lib.hid (rnew_bad w many room hm)
    clear hm
    go_enter Try.func6, Try.ntmps6
    go_wp2_with fail
    refine (great_any w a cap acts H.out hn).mono ?_
    rintro e w' ⟨rfl, rfl⟩
    rw [HG.out]
    go_wp2_with fail
    refine HB.out.mono ?_
    rintro e w' ⟨rfl, rfl⟩
    go_wp2_with fail
    refine HR.out.mono ?_
    rintro e w' ⟨rfl, rfl⟩
    go_wp2_with fail
    go_loopw [7, 9, 11] (fun c t i wr => ∃ k : Nat, k ≤ acts.length ∧ i = .int .i64 k ∧ c = .pointer none ∧ t = .pointer none ∧ St w [] wr) (fun _ _ i _ => acts.length - (intOf i).toNat)
    case atStart => exact ⟨0, Nat.zero_le _, rfl, rfl, rfl, St.start w⟩
    case round =>
      obtain ⟨k, hk, rfl, rfl, rfl, hs1⟩ := hrel
      by_cases hlt : k < acts.length
      · obtain ⟨x, hx⟩ : ∃ x, acts[k]? = some x := ⟨acts[k], List.getElem?_eq_getElem hlt⟩
        obtain ⟨b, off, cp, e1, k0, k1⟩ := H.out.cell hx
        have hb0 := World.block_lt_of_cell? w _ k0
        injection e1 with e1 e2 e3
        clear e2 e3
        subst e1
        have HX := Lib.hid hx
        clear hx
        unfold ActV.v at k1
        have c0 := (hs1.was hb0).trans k0
        have c1 := (hs1.was (p := ⟨b, off + k * 2 + 1, none⟩) hb0).trans k1
        by_cases h4 : x.kind = 4
        · rw [h4] at c0
          have HK := Lib.hid h4
          clear h4
          go_wp2_with fail
          refine (tclone_not wr none (.inl rfl)).mono ?_
          rintro e w' ⟨rfl, rfl⟩
          go_wp2_with fail
          refine (rclone_nil wr).mono ?_
          rintro e w' ⟨rfl, rfl⟩
          go_wp2_with fail
          refine (play_not w wr _ hs1 none (.inl rfl) _ _ _ _).mono ?_
          rintro e w2 ⟨rfl, h2⟩
          go_wp2_with fail
          refine (lawSame_not w2 none (.inl rfl)).mono ?_
          rintro e w' ⟨rfl, n, rfl⟩
          have h3 := h2.drewN n
          go_wp2_with fail
          go_roundw
          case rel => exact ⟨k + 1, hlt, by go_num, rfl, rfl, h3⟩
          case measure => simp [intOf]; omega
        · have b4 : (x.kind == 4) = false := by simpa using h4
          clear h4
          go_wp2_with fail
          refine (play_not w wr _ hs1 none (.inl rfl) _ _ _ _).mono ?_
          rintro e w2 ⟨rfl, h2⟩
          go_wp2_with fail
          refine (lawSame_not w2 none (.inl rfl)).mono ?_
          rintro e w' ⟨rfl, n, rfl⟩
          have h3 := h2.drewN n
          go_wp2_with fail
          go_roundw
          case rel => exact ⟨k + 1, hlt, by go_num, rfl, rfl, h3⟩
          case measure => simp [intOf]; omega
      · go_wp2_with fail
        refine (lawSame_not wr none (.inl rfl)).mono ?_
        rintro e w' ⟨rfl, n, rfl⟩
        have h3 := hs1.drewN n
        go_wp2_with fail
        refine (alive_any w _ _ h3).mono ?_
        rintro e w' ⟨rfl, hs⟩
        go_wp2_with fail
        go_ret
        exact ⟨rfl, hs.below⟩
  obtain ⟨x1, x2, x3, x4⟩ := hm
  go_enter Try.func6, Try.ntmps6
  go_wp2_with fail
  refine (great_any w a cap acts H.out hn).mono ?_
  rintro e w' ⟨rfl, rfl⟩
  rw [HG.out]
  go_wp2_with fail
  refine (new_good w w [] many room x1 x2 x3 x4 (St.start w)).mono ?_
  rintro e w1 ⟨c, rfl, h1⟩
  go_wp2_with fail
  refine (rnew_good w w1 _ many room x1 x2 x3 x4 h1).mono ?_
  rintro e w2 ⟨t, rfl, h2⟩
  go_wp2_with fail
  go_loopw [7, 9, 11] (fun cv tv i wr => ∃ (k c t : Nat), k ≤ acts.length ∧ i = .int .i64 k ∧ cv = .pointer (some ⟨c, 0, none⟩) ∧ tv = .pointer (some ⟨t, 0, none⟩) ∧
    St w [tcache c (TC.acts ⟨many, room, 0, []⟩ (acts.take k)), rcache t (TC.acts ⟨many, room, 0, []⟩ (acts.take k))] wr) (fun _ _ i _ => acts.length - (intOf i).toNat)
  case atStart => exact ⟨0, c, t, Nat.zero_le _, rfl, rfl, rfl, h2.swap⟩
  case round =>
    clear h1 h2
    obtain ⟨k, c, t, hk, rfl, rfl, rfl, hs1⟩ := hrel
    have hok := TC.acts_ok (acts.take k) _ (TC.new_ok x1 x2 x3 x4)
    by_cases hlt : k < acts.length
    · obtain ⟨x, hx⟩ : ∃ x, acts[k]? = some x := ⟨acts[k], List.getElem?_eq_getElem hlt⟩
      obtain ⟨b, off, cp, e1, k0, k1⟩ := H.out.cell hx
      obtain ⟨hxi, hxl⟩ := H.out.2 x (List.mem_of_getElem? hx)
      have hb0 := World.block_lt_of_cell? w _ k0
      injection e1 with e1 e2 e3
      clear e2 e3
      subst e1
      have HT := Lib.hid (TC.acts_succ ⟨many, room, 0, []⟩ hx)
      have HI := Lib.hid hxi
      have HX := Lib.hid hx
      clear hx hxi
      unfold ActV.v at k1
      have c0 := (hs1.was hb0).trans k0
      have c1 := (hs1.was (p := ⟨b, off + k * 2 + 1, none⟩) hb0).trans k1
      generalize hy : TC.acts ⟨many, room, 0, []⟩ (acts.take k) = y at *
      have HY := Lib.hid hy
      clear hy
      have HOK := Lib.hid hok
      have HOA := Lib.hid (hok.act x.kind x.l)
      clear hok
      by_cases h4 : x.kind = 4
      · rw [h4] at c0 k0
        have HK := Lib.hid h4
        clear h4
        go_wp2_with fail
        refine (tclone_any w wr _ c y HOK.out hs1).mono ?_
        rintro e w2 ⟨c2, rfl, h2⟩
        go_wp2_with fail
        refine (rclone_any w w2 _ t y HOK.out (h2.front 2)).mono ?_
        rintro e w3 ⟨t2, rfl, h3⟩
        have h3 : St w [tcache c2 y, rcache t2 y] w3 := h3.pick 4 [2, 0]
        have c0 := (h3.was hb0).trans k0
        have c1 := (h3.was (p := ⟨b, off + k * 2 + 1, none⟩) hb0).trans k1
        go_wp2_with fail
        refine (play_x w w3 _ c2 t2 y HOK.out h3 x.a x.cap x.l 4 HI.out hxl).mono ?_
        rintro e w4 ⟨rfl, h4⟩
        rw [← HK.out] at h4
        go_wp2_with fail
        refine (lawSame_x w w4 _ c2 t2 _ HOA.out h4).mono ?_
        rintro e w5 ⟨rfl, h5⟩
        go_wp2_with fail
        go_roundw
        case rel => exact ⟨k + 1, c2, t2, hlt, by go_num, rfl, rfl, by rw [HT.out]; exact h5⟩
        case measure => simp [intOf]; omega
      · have b4 : (x.kind == 4) = false := by simpa using h4
        clear h4
        go_wp2_with fail
        refine (play_x w wr _ c t y HOK.out hs1 x.a x.cap x.l x.kind HI.out hxl).mono ?_
        rintro e w4 ⟨rfl, h4⟩
        go_wp2_with fail
        refine (lawSame_x w w4 _ c t _ HOA.out h4).mono ?_
        rintro e w5 ⟨rfl, h5⟩
        go_wp2_with fail
        go_roundw
        case rel => exact ⟨k + 1, c, t, hlt, by go_num, rfl, rfl, by rw [HT.out]; exact h5⟩
        case measure => simp [intOf]; omega
    · go_wp2_with fail
      refine (lawSame_x w wr _ c t _ hok hs1).mono ?_
      rintro e w2 ⟨rfl, h2⟩
      go_wp2_with fail
      refine (alive_any w w2 _ h2).mono ?_
      rintro e w' ⟨rfl, hs⟩
      go_wp2_with fail
      go_ret
      exact ⟨rfl, hs.below⟩
end Go.Proofs.Ythlmjdkpkikcpaa

/-
  made; the statement TransferLow.
-/
import Derived.Test.YthlmjdkpkikcpaaT10
namespace Go.Proofs.Ythlmjdkpkikcpaa
open Go.RowKit

theorem TC.acts_ok : ∀ (acts : List ActV) (x : TC), x.ok → (x.acts acts).ok
  | [], _, h => h
  | a :: l, _, h => TC.acts_ok l _ (h.act a.kind a.l)
theorem TC.acts_append : ∀ (l : List ActV) (x : TC) (a : ActV), x.acts (l ++ [a]) = (x.acts l).act a.kind a.l
  | [], _, _ => rfl
  | b :: l, x, a => TC.acts_append l (x.act b.kind b.l) a
theorem TC.acts_succ (x : TC) {acts : List ActV} {k : Nat} {a : ActV} (h : acts[k]? = some a) : x.acts (acts.take (k + 1)) = (x.acts (acts.take k)).act a.kind a.l := by
  rw [List.take_add_one, h]
  exact TC.acts_append _ _ _

theorem TC.new_ok {b r : Int} (h1 : 1 ≤ b) (h2 : b ≤ 32) (h3 : 0 ≤ r) (h4 : r ≤ 8) : TC.ok ⟨b, r, 0, []⟩ := ⟨h1, h2, h3, h4, Int.le_refl 0, Int.le_refl 0, h3, fun _ h => by cases h⟩

theorem made_bad (w : World) (batch room : Int) (v : Value) (h : ¬ (1 ≤ batch ∧ batch ≤ 32 ∧ 0 ≤ room ∧ room ≤ 8)) :
    Calls Try.prog 9 #[.int .i64 batch, .int .i64 room, v] w fun e w' => e = .returned (.pointer none) ∧ w = w' := by
  have H := Lib.hid (new_bad w batch room h)
  clear h
  go_enter Try.func9, Try.ntmps9
  go_wp2_with fail
  refine H.out.mono ?_
  rintro e w' ⟨rfl, rfl⟩
  go_wp2_with fail
  go_ret
  exact ⟨rfl, rfl⟩
set_option maxHeartbeats 1000000 in
theorem made_good (w0 w : World) (F : List HP) (batch room : Int) (x1 : 1 ≤ batch) (x2 : batch ≤ 32) (x3 : 0 ≤ room) (x4 : room ≤ 8) (hs : St w0 F w) (a : Option Addr) (cap : Nat) (acts : List ActV) (h : ActsAt w0 (.slice a acts.length cap) acts)
    (hn : acts.length ≤ 60) :
    Calls Try.prog 9 #[.int .i64 batch, .int .i64 room, .slice a acts.length cap] w fun e w' => ∃ c, e = .returned (.pointer (some ⟨c, 0, none⟩)) ∧ St w0 (tcache c (TC.acts ⟨batch, room, 0, []⟩ acts) :: F) w' := by
  have H := Lib.hid h
  clear h
  go_enter Try.func9, Try.ntmps9
  go_wp2_with fail
  refine (new_good w0 w F batch room x1 x2 x3 x4 hs).mono ?_
  rintro e w1 ⟨c, rfl, h1⟩
  go_wp2_with fail
  go_loopw [9] (fun i wr => ∃ k : Nat, k ≤ acts.length ∧ i = .int .i64 k ∧ St w0 (tcache c (TC.acts ⟨batch, room, 0, []⟩ (acts.take k)) :: F) wr) (fun i _ => acts.length - (intOf i).toNat)
  case atStart => exact ⟨0, Nat.zero_le _, rfl, h1⟩
  case round =>
    clear h1
    obtain ⟨k, hk, rfl, hs1⟩ := hrel
    by_cases hlt : k < acts.length
    · obtain ⟨x, hx⟩ : ∃ x, acts[k]? = some x := ⟨acts[k], List.getElem?_eq_getElem hlt⟩
      have H1 := ActsAt.of0 hs1 H.out
      obtain ⟨b, off, cp, e1, c0, c1⟩ := H1.cell hx
      obtain ⟨hxi, hxl⟩ := H1.2 x (List.mem_of_getElem? hx)
      injection e1 with e1 e2 e3
      clear e2 e3
      subst e1
      have HT := Lib.hid (TC.acts_succ ⟨batch, room, 0, []⟩ hx)
      have hok := Lib.hid (TC.acts_ok (acts.take k) _ (TC.new_ok x1 x2 x3 x4))
      have HI := Lib.hid hxi
      clear hx hxi H1
      unfold ActV.v at c1
      go_wp2_with fail
      refine (do_any w0 _ _ c _ hok.out hs1 x.kind x.a x.cap x.l HI.out hxl).mono ?_
      rintro e w2 ⟨rfl, h2⟩
      go_wp2_with fail
      go_roundw
      case rel => exact ⟨k + 1, hlt, by go_num, by rw [HT.out]; exact h2⟩
      case measure => simp [intOf]; omega
    · have e : acts.take k = acts := List.take_of_length_le (by omega)
      rw [e] at hs1
      clear e
      go_wp2_with fail
      go_ret
      exact ⟨_, rfl, hs1⟩

theorem TC.low_act {x : TC} (h : x.ok) (k : Int) (l : List Int) (hk : ¬ k = 2) : (x.act k l).low = if k = 3 then 0 else min x.low (x.act k l).bs.length := by
  obtain ⟨x1, x2, x3, x4, x5, x6, x7, x8⟩ := h
  unfold TC.act
  by_cases h0 : k = 0
  · subst h0
    rw [if_pos rfl, if_neg (by omega)]
    unfold TC.ins
    split
    · simp; omega
    · omega
  · rw [if_neg h0]
    by_cases h1 : k = 1
    · subst h1
      rw [if_pos rfl, if_neg (by omega)]
      unfold TC.rem
      split
      · omega
      · simp
    · rw [if_neg h1, if_neg hk]
      split
      · rfl
      · omega

set_option maxHeartbeats 4000000 in
theorem low_walk (many : Int) (_w1 : (Lit.int .i64 many).wf = true) (room : Int) (_w2 : (Lit.int .i64 room).wf = true) (a : Option Addr) (cap : Nat) (acts : List ActV) (w : World) (h : ActsAt w (.slice a acts.length cap) acts) (hn : acts.length ≤ 9223372036854775807) :
    Calls Try.prog 4 #[.int .i64 many, .int .i64 room, .slice a acts.length cap] w fun e w' => e = .returned (.bool true) ∧ Below w.heap.size w w' := by
  have H := Lib.hid h
  clear h
  by_cases hg : greatB acts = true
  · have HG := Lib.hid hg
    clear hg
    go_enter Try.func4, Try.ntmps4
    go_wp2_with fail
    refine (great_any w a cap acts H.out hn).mono ?_
    rintro e w' ⟨rfl, rfl⟩
    rw [HG.out]
    go_wp2_with fail
    refine (alive_any w w [] (St.start w)).mono ?_
    rintro e w' ⟨rfl, hs⟩
    go_wp2_with fail
    go_ret
    exact ⟨rfl, hs.below⟩
  have hg : greatB acts = false := by simpa using hg
  obtain ⟨hn60, hl60⟩ := great_no hg
  have HL := Lib.hid hl60
  have HG := Lib.hid hg
  clear hg hl60
  have hnil : ActsAt w (.slice none 0 0) [] := ⟨Reads.nil w 2, fun x hx => by cases hx⟩
  have HN := Lib.hid hnil
  clear hnil
  by_cases hm : 1 ≤ many ∧ many ≤ 32 ∧ 0 ≤ room ∧ room ≤ 8
  case neg =>
    have HB := Lib.hid (made_bad w many room (.slice none 0 0) hm)
    clear hm
    go_enter Try.func4, Try.ntmps4
    go_wp2_with fail
    refine (great_any w a cap acts H.out hn).mono ?_
    rintro e w' ⟨rfl, rfl⟩
    rw [HG.out]
    go_wp2_with fail
    refine HB.out.mono ?_
    rintro e w' ⟨rfl, rfl⟩
    go_wp2_with fail
    refine (alive_any w w [] (St.start w)).mono ?_
    rintro e w' ⟨rfl, hs⟩
    go_wp2_with fail
    go_ret
    exact ⟨rfl, hs.below⟩
  obtain ⟨x1, x2, x3, x4⟩ := hm
  go_enter Try.func4, Try.ntmps4
  go_wp2_with fail
  refine (great_any w a cap acts H.out hn).mono ?_
  rintro e w' ⟨rfl, rfl⟩
  rw [HG.out]
  go_wp2_with fail
  refine (made_good w w [] many room x1 x2 x3 x4 (St.start w) none 0 [] HN.out (by simp)).mono ?_
  rintro e w1 ⟨c, rfl, h1⟩
  go_wp2_with fail
  go_loopw [8, 9] (fun lo i wr => ∃ k : Nat, k ≤ acts.length ∧ i = .int .i64 k ∧ lo = .int .i64 (TC.acts ⟨many, room, 0, []⟩ (acts.take k)).low ∧ St w [tcache c (TC.acts ⟨many, room, 0, []⟩ (acts.take k))] wr) (fun _ i _ => acts.length - (intOf i).toNat)
  case atStart => exact ⟨0, Nat.zero_le _, rfl, rfl, h1⟩
  case round =>
    clear h1
    obtain ⟨k, hk, rfl, rfl, hs1⟩ := hrel
    have hok := TC.acts_ok (acts.take k) _ (TC.new_ok x1 x2 x3 x4)
    by_cases hlt : k < acts.length
    · obtain ⟨x, hx⟩ : ∃ x, acts[k]? = some x := ⟨acts[k], List.getElem?_eq_getElem hlt⟩
      obtain ⟨b, off, cp, e1, k0, k1⟩ := H.out.cell hx
      obtain ⟨hxi, hxl⟩ := H.out.2 x (List.mem_of_getElem? hx)
      have hb0 := World.block_lt_of_cell? w _ k0
      injection e1 with e1 e2 e3
      clear e2 e3
      subst e1
      have HT := Lib.hid (TC.acts_succ ⟨many, room, 0, []⟩ hx)
      have HI := Lib.hid hxi
      have HX := Lib.hid hx
      clear hx hxi
      unfold ActV.v at k1
      have c0 := (hs1.was hb0).trans k0
      have c1 := (hs1.was (p := ⟨b, off + k * 2 + 1, none⟩) hb0).trans k1
      generalize hy : TC.acts ⟨many, room, 0, []⟩ (acts.take k) = y at *
      have HY := Lib.hid hy
      clear hy
      have HOK := Lib.hid hok
      obtain ⟨y1, y2, y3, y4, y5, y6, y7, y8⟩ := hok
      by_cases h2 : x.kind = 2
      · rw [h2] at c0 k0
        have hn1 := HOK.out.tickN
        have hact : y.act x.kind x.l = y.tick := by rw [h2]; rfl
        have HA := Lib.hid hact
        have HK := Lib.hid h2
        have t1 : (((y.tickN : Nat) : Int) != (y.low + 1) / 2) = false := by rw [hn1.1]; simp
        have e1 : (y.tick.bs.length : Int) = (y.bs.length : Int) - (y.tickN : Int) := by
          show ((y.bs.drop y.tickN).length : Int) = _
          rw [List.length_drop]; omega
        have t2 : ((y.tick.bs.length : Int) != (y.bs.length : Int) - (y.tickN : Int)) = false := by rw [e1]; simp
        have e2 : y.tick.low = (y.tick.bs.length : Int) := by
          show ((y.bs.length - y.tickN : Nat) : Int) = ((y.bs.drop y.tickN).length : Int)
          rw [List.length_drop]
        have t3 : (y.tick.low != (y.tick.bs.length : Int)) = false := by rw [e2]; simp
        have t4 : decide ((y.tick.bs.length : Int) < y.tick.low) = false := by rw [e2]; simp
        have hT := HOK.out.tick
        have HT2 := Lib.hid hT
        have E2 := Lib.hid e2
        have hle := hn1.2
        clear hact h2 hn1 e1 e2 hT
        go_wp2_with fail
        refine (len_any w wr _ c y HOK.out hs1).mono ?_
        rintro e w' ⟨rfl, rfl⟩
        go_wp2_with fail
        refine (tick_x w wr _ c y HOK.out hs1).mono ?_
        rintro e w2 ⟨a2, p2, rfl, h2⟩
        have h2 := h2.drop
        go_wp2_with fail
        refine (len_any w w2 _ c y.tick HT2.out h2).mono ?_
        rintro e w' ⟨rfl, rfl⟩
        go_wp2_with fail
        refine (len_any w w2 _ c y.tick HT2.out h2).mono ?_
        rintro e w' ⟨rfl, rfl⟩
        have d0 := (h2.was hb0).trans k0
        go_wp2_with fail
        refine (low_any w w2 _ c y.tick HT2.out h2).mono ?_
        rintro e w' ⟨rfl, rfl⟩
        go_wp2_with fail
        refine (low_any w w2 _ c y.tick HT2.out h2).mono ?_
        rintro e w' ⟨rfl, rfl⟩
        go_wp2_with fail
        refine (len_any w w2 _ c y.tick HT2.out h2).mono ?_
        rintro e w' ⟨rfl, rfl⟩
        go_wp2
        go_roundw
        case rel => exact ⟨k + 1, hlt, by go_num, by rw [HT.out, HA.out, E2.out], by rw [HT.out, HA.out]; exact h2⟩
        case measure => simp [intOf]; omega
      · have b2 : (x.kind == 2) = false := by simpa using h2
        have hact := HOK.out.act x.kind x.l
        have hlow := TC.low_act HOK.out x.kind x.l h2
        generalize hz : y.act x.kind x.l = z at *
        have HZ := Lib.hid hz
        have HZO := Lib.hid hact
        have t4 : decide ((z.bs.length : Int) < z.low) = false := by
          have := hact.2.2.2.2.2.1
          simp; omega
        have t3 : (z.low != z.low) = false := by simp
        by_cases h3 : x.kind = 3
        · have b3 : (x.kind == 3) = true := by simpa using h3
          rw [if_pos h3] at hlow
          have t3 : (z.low != 0) = false := by simp [hlow]
          have HLO := Lib.hid hlow
          clear hz hact h2 h3 hlow
          go_wp2_with fail
          refine (do_any w wr _ c y HOK.out hs1 x.kind x.a x.cap x.l (hs1.reads0 HI.out) hxl).mono ?_
          rintro e w2 ⟨rfl, h2⟩
          rw [HZ.out] at h2
          have d0 := (h2.was hb0).trans k0
          go_wp2_with fail
          refine (len_any w w2 _ c z HZO.out h2).mono ?_
          rintro e w' ⟨rfl, rfl⟩
          go_wp2_with fail
          all_goals
            refine (low_any w w2 _ c z HZO.out h2).mono ?_
            rintro e w' ⟨rfl, rfl⟩
            go_wp2_with fail
            refine (low_any w w2 _ c z HZO.out h2).mono ?_
            rintro e w' ⟨rfl, rfl⟩
            go_wp2_with fail
            refine (len_any w w2 _ c z HZO.out h2).mono ?_
            rintro e w' ⟨rfl, rfl⟩
            go_wp2
            go_roundw
            case rel => exact ⟨k + 1, hlt, by go_num, by rw [HT.out, HLO.out], by rw [HT.out]; exact h2⟩
            case measure => simp [intOf]; omega
        · have b3 : (x.kind == 3) = false := by simpa using h3
          rw [if_neg h3] at hlow
          clear t3
          by_cases hc : y.low ≤ (z.bs.length : Int)
          · have t3 : (z.low != y.low) = false := by simp [hlow]; omega
            have HLO : Hid (z.low = y.low) := by unfold Hid; rw [hlow]; omega
            clear hz hact h2 h3 hlow
            go_wp2_with fail
            refine (do_any w wr _ c y HOK.out hs1 x.kind x.a x.cap x.l (hs1.reads0 HI.out) hxl).mono ?_
            rintro e w2 ⟨rfl, h2⟩
            rw [HZ.out] at h2
            have d0 := (h2.was hb0).trans k0
            go_wp2_with fail
            refine (len_any w w2 _ c z HZO.out h2).mono ?_
            rintro e w' ⟨rfl, rfl⟩
            go_wp2_with fail
            refine (low_any w w2 _ c z HZO.out h2).mono ?_
            rintro e w' ⟨rfl, rfl⟩
            go_wp2_with fail
            refine (low_any w w2 _ c z HZO.out h2).mono ?_
            rintro e w' ⟨rfl, rfl⟩
            go_wp2_with fail
            refine (len_any w w2 _ c z HZO.out h2).mono ?_
            rintro e w' ⟨rfl, rfl⟩
            go_wp2
            go_roundw
            case rel => exact ⟨k + 1, hlt, by go_num, by rw [HT.out, HLO.out], by rw [HT.out]; exact h2⟩
            case measure => simp [intOf]; omega
          · have t3 : (z.low != (z.bs.length : Int)) = false := by simp [hlow]; omega
            have HLO : Hid (z.low = (z.bs.length : Int)) := by unfold Hid; rw [hlow]; omega
            clear hz hact h2 h3 hlow
            go_wp2_with fail
            refine (do_any w wr _ c y HOK.out hs1 x.kind x.a x.cap x.l (hs1.reads0 HI.out) hxl).mono ?_
            rintro e w2 ⟨rfl, h2⟩
            rw [HZ.out] at h2
            have d0 := (h2.was hb0).trans k0
            go_wp2_with fail
            refine (len_any w w2 _ c z HZO.out h2).mono ?_
            rintro e w' ⟨rfl, rfl⟩
            go_wp2_with fail
            refine (low_any w w2 _ c z HZO.out h2).mono ?_
            rintro e w' ⟨rfl, rfl⟩
            go_wp2_with fail
            refine (low_any w w2 _ c z HZO.out h2).mono ?_
            rintro e w' ⟨rfl, rfl⟩
            go_wp2_with fail
            refine (len_any w w2 _ c z HZO.out h2).mono ?_
            rintro e w' ⟨rfl, rfl⟩
            go_wp2
            go_roundw
            case rel => exact ⟨k + 1, hlt, by go_num, by rw [HT.out, HLO.out], by rw [HT.out]; exact h2⟩
            case measure => simp [intOf]; omega
    · go_wp2_with fail
      refine (alive_any w wr _ hs1).mono ?_
      rintro e w' ⟨rfl, hs⟩
      go_wp2_with fail
      go_ret
      exact ⟨rfl, hs.below⟩
end Go.Proofs.Ythlmjdkpkikcpaa

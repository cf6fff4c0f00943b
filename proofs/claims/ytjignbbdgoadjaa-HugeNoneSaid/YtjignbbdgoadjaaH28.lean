/-
  The reference's Plan.
-/
import Derived.Test.YtjignbbdgoadjaaH27
namespace Go.Proofs.Ytjignbbdgoadjaa
open Go.RowKit

set_option maxRecDepth 10000 in
set_option maxHeartbeats 4000000 in
theorem rplan_in (w0 w : World) (F : List HP) (c N : Nat) (s : Nat → Int) (hN : N ≤ 64) (hN0 : 0 < N) (hok : okSt N s) (hs : St w0 (trk 77 c (16 * N) s :: F) w) (want : Int) (hw : 0 ≤ want) :
    Calls Try.prog 56 #[.pointer (some ⟨c, 0, none⟩), .int .i64 want] w fun e w' => ∃ a cap, e = .returned (.tuple #[.slice a (planL s N want).length cap, .int .i64 0]) ∧
      St w0 (runsP (.slice a (planL s N want).length cap) (planL s N want) :: trk 77 c (16 * N) s :: F) w' := by
  have hpl0 := Lib.hid (show planL s N want = [] ++ takeW want ((0 : Nat) : Int) (((ordL s N).drop 0).flatMap (runsOf s)) from rfl)
  have HORD := Lib.hid (rOrdered_any w0 w F c N s hN hN0 hok hs)
  have HM := Lib.hid fun h (hh : h ∈ ordL s N) => (ordL_mem.1 hh).1
  have hOl := ordL_len s N
  generalize planL s N want = PL at *
  generalize ordL s N = O at *
  obtain ⟨j0, hj, hy0, hy1, hy2⟩ := info_parts info36
  obtain ⟨b, off, tcap, c0, hcap, _⟩ := TrAt.of (by omega) hs
  have b0 : decide (want < 0) = false := decide_eq_false (by omega)
  clear hok
  go_enter Try.func56, Try.ntmps56
  go_wp2_with (first | (go_at_call 50; refine (rmade_true _ _ _ _ _ _ (by omega) c0).mono ?_; rintro e w' ⟨rfl, rfl⟩))
  refine HORD.out.mono ?_
  rintro e w6 ⟨a, cap, rfl, h6⟩
  clear c0 hcap hs HORD
  go_wp2_with fail
  go_loopw [6, 8, 9] (fun v p i' wr => ∃ (q P : Nat) (out : List Rn) (a2 : Option Addr) (cap2 : Nat), q ≤ O.length ∧ i' = .int .i64 q ∧ p = .int .i64 P ∧ P ≤ 16 * q ∧ out.length ≤ P ∧ v = .slice a2 out.length cap2 ∧
    Hid (PL = out ++ takeW want (P : Int) ((O.drop q).flatMap (runsOf s))) ∧ St w0 (runsP v out :: natsP (.slice a O.length cap) O :: trk 77 c (16 * N) s :: F) wr) (fun _ _ i' _ => O.length - (intOf i').toNat)
  case atStart => exact ⟨0, 0, [], none, 0, Nat.zero_le _, rfl, rfl, by omega, by simp, rfl, hpl0, h6.arr_nil 36 2⟩
  case round =>
    clear hpl0 h6
    obtain ⟨k, P, out, a2, cap2, hq, rfl, rfl, hP, hol, rfl, hpl, hs2⟩ := hrel
    by_cases hlt : k < O.length
    · obtain ⟨h, hh⟩ : ∃ h, O[k]? = some h := ⟨O[k], List.getElem?_eq_getElem hlt⟩
      have hhk := HM.out h (List.mem_of_getElem? hh)
      have hdrop : (O.drop k).flatMap (runsOf s) = runsM s (16 * h) 16 ++ (O.drop (k + 1)).flatMap (runsOf s) := by
        rw [List.drop_eq_getElem_cons hlt, List.flatMap_cons]
        have : O[k] = h := by rw [List.getElem?_eq_getElem hlt] at hh; exact Option.some.inj hh
        rw [this]; rfl
      have hin : Hid (PL = out ++ takeW want (P : Int) (runsM s (16 * h) (16 * h + 16 - 16 * h) ++ (O.drop (k + 1)).flatMap (runsOf s))) := Lib.hid (by rw [hpl.out, hdrop, show 16 * h + 16 - 16 * h = 16 by omega])
      have hcell : ∃ ob ooff, a = some ⟨ob, ooff, none⟩ ∧ wr.cell? ⟨ob, ooff + k, none⟩ = some (.int .i64 h) := by
        obtain ⟨b', off', cap', hv, _, hc⟩ := (HP.arr_reads (hs2.front 1)).lies (by omega)
        injection hv with h1 h2 h3
        exact ⟨b', off', h1, hc k _ (by rw [List.getElem?_map, hh]; rfl)⟩
      obtain ⟨ob, ooff, ha, hoc⟩ := hcell
      subst ha
      have hiq1 : (0 : Int) ≤ (k : Int) := by omega
      have hiq2 : (k : Int) < (O.length : Int) := by omega
      clear hpl hdrop hh
      go_wp2_with fail
      go_loopw [6, 8, 11] (fun v p i' wr => ∃ (p' P : Nat) (out : List Rn) (a2 : Option Addr) (cap2 : Nat), 16 * h ≤ p' ∧ p' ≤ 16 * h + 17 ∧ i' = .int .i64 p' ∧ p = .int .i64 P ∧ P + 16 * h ≤ 16 * k + p' ∧ P ≤ 16 * (k + 1) ∧ out.length ≤ P ∧ v = .slice a2 out.length cap2 ∧
        Hid (PL = out ++ takeW want (P : Int) (runsM s p' (16 * h + 16 - p') ++ (O.drop (k + 1)).flatMap (runsOf s))) ∧ St w0 (runsP v out :: natsP (.slice (some ⟨ob, ooff, none⟩) O.length cap) O :: trk 77 c (16 * N) s :: F) wr) (fun _ _ i' _ => 16 * h + 18 - (intOf i').toNat)
      case atStart => exact ⟨16 * h, P, out, a2, cap2, by omega, by omega, by go_num, rfl, by omega, by omega, hol, rfl, hin, hs2⟩
      case round =>
        clear hs2 hin hP hol hoc
        obtain ⟨p, P, out, a2, cap2, hp0, hp17, rfl, rfl, hP, hP2, hol, rfl, hpl, hs2⟩ := hrel
        by_cases hi16 : p < 16 * h + 16
        · have bp : decide ((p : Int) < ((h : Int) + 1) * 16) = true := decide_eq_true (by omega)
          obtain ⟨b, off, tcap, ht⟩ := TrAt.of (by omega) (hs2.front 2)
          obtain ⟨c0, hcap, hr⟩ := ht
          have HR := Lib.hid hr
          have c1 := hr p (by omega)
          have ip0 : (0 : Int) ≤ (p : Int) := by omega
          have ip1 : (p : Int) < 16 * (N : Int) := by omega
          clear hr
          by_cases h2 : s p = 2
          · have n2 : (s p != 2) = false := by simp [h2]
            have H2 := Lib.hid h2
            clear h2
            by_cases hwp : want ≤ (P : Int)
            · have bw : decide (want ≤ (P : Int)) = true := decide_eq_true hwp
              have hpl2 : Hid (PL = out ++ takeW want (P : Int) (runsM s (p + 1) (16 * h + 16 - (p + 1)) ++ (O.drop (k + 1)).flatMap (runsOf s))) := Lib.hid (by
                rw [hpl.out, takeW_enough hwp, takeW_enough hwp])
              clear hwp
              go_wp2_with fail
              go_roundw
              case rel => exact ⟨p + 1, P, out, a2, cap2, by omega, by omega, by go_num, rfl, by omega, hP2, hol, rfl, hpl2, hs2⟩
              case measure => simp [intOf]; omega
            · have bw : decide (want ≤ (P : Int)) = false := decide_eq_false hwp
              have HWP := Lib.hid hwp
              clear hwp
              have HRL := Lib.hid fun n h1 h2 h3 => @rl_is s n p (16 * h + 16 - p) h1 h2 h3
              clear c1
              have c1 := HR.out p (by omega)
              go_wp2_with fail
              go_loop [12] (fun n' => ∃ q : Nat, p ≤ q ∧ q ≤ 16 * h + 16 ∧ n' = .int .i64 q ∧ Hid (∀ j, j < q - p → s (p + j) = 2)) (fun n' => 16 * h + 17 - (intOf n').toNat)
              case atStart => exact ⟨p, by omega, by omega, rfl, Lib.hid fun j hj => by omega⟩
              case round =>
                obtain ⟨q, hpq, hq16, rfl, hall⟩ := hrel
                have iq0 : (0 : Int) ≤ (q : Int) := by omega
                by_cases hql : q < 16 * h + 16
                · have bq : decide ((q : Int) < ((h : Int) + 1) * 16) = true := decide_eq_true (by omega)
                  have iq1 : (q : Int) < 16 * (N : Int) := by omega
                  have c2 := HR.out q (by omega)
                  by_cases h3 : s q = 2
                  · have b3 : (s q == 2) = true := by simp [h3]
                    have H3 := Lib.hid h3
                    clear h3
                    go_wp2_with fail
                    go_round
                    case rel =>
                      refine ⟨q + 1, by omega, by omega, by go_num, Lib.hid fun j hj => ?_⟩
                      by_cases e : j = q - p
                      · subst e; rw [show p + (q - p) = q by omega]; exact H3.out
                      · exact hall.out j (by omega)
                    case measure => simp [intOf]; omega
                  · have b3 : (s q == 2) = false := by simp [h3]
                    have hlt2 : p < q := by
                      rcases Nat.eq_or_lt_of_le hpq with e | e
                      · subst e; exact absurd H2.out h3
                      · exact e
                    have E := Lib.hid (HRL.out (q - p) (by omega) hall.out (.inr (by rw [show p + (q - p) = q by omega]; exact h3)))
                    clear h3
                    have hcast : ((q - p : Nat) : Int) = (q : Int) - (p : Int) := by omega
                    have hpl2 : Hid (PL = (out ++ [⟨p, q - p⟩]) ++ takeW want ((P + (q - p) : Nat) : Int) (runsM s (q + 1) (16 * h + 16 - (q + 1)) ++ (O.drop (k + 1)).flatMap (runsOf s))) := Lib.hid (by
                      have e1 := E.out
                      have hwp' := HWP.out
                      rw [hpl.out]
                      rw [show 16 * h + 16 - p = (16 * h + 15 - p) + 1 by omega] at e1 ⊢
                      rw [runsM_run (by omega), e1, List.cons_append, takeW_more (by omega), List.append_assoc, List.singleton_append]
                      rw [show p + (q - p) + 1 = q + 1 by omega, show 16 * h + 15 - p - (q - p) = 16 * h + 16 - (q + 1) by omega]
                      rw [show ((P + (q - p) : Nat) : Int) = (P : Int) + ((q - p : Nat) : Int) by omega])
                    have HCA := Lib.hid hcast
                    have h4 := St.newArr hs2 36 2 1 [.int .i64 (p : Int), .int .i64 ((q : Int) - (p : Int))] rfl (by decide)
                    have r4 := HP.arr_reads h4
                    have h5 := h4.swap
                    clear hcast
                    go_wp2_with (at_builtin; refine wpList_append_st rfl _ _ 27 rfl 36 j0 _ 2 16 Try.underlying27 hj hy0 hy1 hy2 rfl (.slice a2 out.length cap2) _ rfl rfl out.length (rnCells out) (by exact h5) 1 [.int .i64 (p : Int), .int .i64 ((q : Int) - (p : Int))] (by exact r4) (by intro u hu; simp at hu; rcases hu with rfl | rfl <;> rfl) (by unfold maxLen; omega) (by omega) ?_; intro v5 w5 hs5 hv5; clear hv5; obtain ⟨a5, p5, rfl⟩ := (HP.arr_reads hs5).form)
                    go_roundw
                    case rel =>
                      refine ⟨q + 1, P + (q - p), out ++ [⟨p, q - p⟩], a5, p5, by omega, by omega, by go_num, by go_num, by omega, by omega, by simp; omega, by simp, hpl2, ?_⟩
                      have e1 : rnCells (out ++ [⟨p, q - p⟩]) = rnCells out ++ [.int .i64 (p : Int), .int .i64 ((q : Int) - (p : Int))] := by rw [rnCells_append, rnCells_one, ← HCA.out]; rfl
                      unfold runsP
                      rw [e1, List.length_append]
                      exact hs5.pick 4 [0, 2, 3]
                    case measure => simp [intOf]; omega
                · have bq : decide ((q : Int) < ((h : Int) + 1) * 16) = false := decide_eq_false (by omega)
                  have hlt2 : p < q := by omega
                  have E := Lib.hid (HRL.out (q - p) (by omega) hall.out (.inl (by omega)))
                  have hcast : ((q - p : Nat) : Int) = (q : Int) - (p : Int) := by omega
                  have hpl2 : Hid (PL = (out ++ [⟨p, q - p⟩]) ++ takeW want ((P + (q - p) : Nat) : Int) (runsM s (q + 1) (16 * h + 16 - (q + 1)) ++ (O.drop (k + 1)).flatMap (runsOf s))) := Lib.hid (by
                    have e1 := E.out
                    have hwp' := HWP.out
                    rw [hpl.out]
                    rw [show 16 * h + 16 - p = (16 * h + 15 - p) + 1 by omega] at e1 ⊢
                    rw [runsM_run (by omega), e1, List.cons_append, takeW_more (by omega), List.append_assoc, List.singleton_append]
                    rw [show p + (q - p) + 1 = q + 1 by omega, show 16 * h + 15 - p - (q - p) = 16 * h + 16 - (q + 1) by omega]
                    rw [show ((P + (q - p) : Nat) : Int) = (P : Int) + ((q - p : Nat) : Int) by omega])
                  have HCA := Lib.hid hcast
                  have h4 := St.newArr hs2 36 2 1 [.int .i64 (p : Int), .int .i64 ((q : Int) - (p : Int))] rfl (by decide)
                  have r4 := HP.arr_reads h4
                  have h5 := h4.swap
                  clear hcast
                  go_wp2_with (at_builtin; refine wpList_append_st rfl _ _ 27 rfl 36 j0 _ 2 16 Try.underlying27 hj hy0 hy1 hy2 rfl (.slice a2 out.length cap2) _ rfl rfl out.length (rnCells out) (by exact h5) 1 [.int .i64 (p : Int), .int .i64 ((q : Int) - (p : Int))] (by exact r4) (by intro u hu; simp at hu; rcases hu with rfl | rfl <;> rfl) (by unfold maxLen; omega) (by omega) ?_; intro v5 w5 hs5 hv5; clear hv5; obtain ⟨a5, p5, rfl⟩ := (HP.arr_reads hs5).form)
                  go_roundw
                  case rel =>
                    refine ⟨q + 1, P + (q - p), out ++ [⟨p, q - p⟩], a5, p5, by omega, by omega, by go_num, by go_num, by omega, by omega, by simp; omega, by simp, hpl2, ?_⟩
                    have e1 : rnCells (out ++ [⟨p, q - p⟩]) = rnCells out ++ [.int .i64 (p : Int), .int .i64 ((q : Int) - (p : Int))] := by rw [rnCells_append, rnCells_one, ← HCA.out]; rfl
                    unfold runsP
                    rw [e1, List.length_append]
                    exact hs5.pick 4 [0, 2, 3]
                  case measure => simp [intOf]; omega
          · have n2 : (s p != 2) = true := by simp [h2]
            have hpl2 : Hid (PL = out ++ takeW want (P : Int) (runsM s (p + 1) (16 * h + 16 - (p + 1)) ++ (O.drop (k + 1)).flatMap (runsOf s))) := Lib.hid (by
              rw [hpl.out, show 16 * h + 16 - p = (16 * h + 16 - (p + 1)) + 1 by omega, runsM_skip (rl_stop h2)])
            clear h2
            go_wp2_with fail
            go_roundw
            case rel => exact ⟨p + 1, P, out, a2, cap2, by omega, by omega, by go_num, rfl, by omega, hP2, hol, rfl, hpl2, hs2⟩
            case measure => simp [intOf]; omega
        · have bp : decide ((p : Int) < ((h : Int) + 1) * 16) = false := decide_eq_false (by omega)
          have hpl2 : Hid (PL = out ++ takeW want (P : Int) ((O.drop (k + 1)).flatMap (runsOf s))) := Lib.hid (by
            rw [hpl.out, show 16 * h + 16 - p = 0 by omega, runsM_zero, List.nil_append])
          go_wp2_with fail
          go_roundw
          case rel => exact ⟨k + 1, P, out, a2, cap2, hlt, by go_num, rfl, hP2, hol, rfl, hpl2, hs2⟩
          case measure => simp [intOf]; omega
    · have e : k = O.length := by omega
      have hpl : PL = out := by rw [hpl.out, e, List.drop_length]; simp [takeW]
      have hbq : decide ((k : Int) < (O.length : Int)) = false := decide_eq_false (by omega)
      have hbn : decide (k < O.length) = false := decide_eq_false hlt
      clear hlt e
      subst hpl
      go_wp2_with fail
      go_ret2
      exact ⟨a2, cap2, rfl, hs2.pick 3 [0, 2]⟩

theorem rplan_neg (w : World) (c b off cap m : Nat) (hm : 0 < m) (c0 : w.cell? ⟨c, 0, none⟩ = some (.slice (some ⟨b, off, none⟩) m cap)) (want : Int) (hw : want < 0) :
    Calls Try.prog 56 #[.pointer (some ⟨c, 0, none⟩), .int .i64 want] w fun e w' => e = .returned (.tuple #[.slice none 0 0, .int .i64 1]) ∧ w = w' := by
  have b0 : decide (want < 0) = true := decide_eq_true hw
  go_enter Try.func56, Try.ntmps56
  go_wp2_with (first | (go_at_call 50; refine (rmade_true _ _ _ _ _ _ hm c0).mono ?_; rintro e w' ⟨rfl, rfl⟩))
  go_ret2
  exact ⟨rfl, rfl⟩
theorem rPlan_any (w0 w : World) (F : List HP) (c N : Nat) (s : Nat → Int) (hN : N ≤ 64) (hN0 : 0 < N) (hok : okSt N s) (hs : St w0 (trk 77 c (16 * N) s :: F) w) (want : Int) :
    Calls Try.prog 56 #[.pointer (some ⟨c, 0, none⟩), .int .i64 want] w fun e w' => ∃ a cap, e = .returned (.tuple #[.slice a (planV s N want).length cap, .int .i64 (planE want)]) ∧
      St w0 (runsP (.slice a (planV s N want).length cap) (planV s N want) :: trk 77 c (16 * N) s :: F) w' := by
  unfold planV planE
  by_cases hw : want < 0
  · rw [if_pos hw, if_pos hw]
    obtain ⟨b, off, cap, c0, hcap, _⟩ := TrAt.of (by omega) hs
    refine (rplan_neg w c b off cap (16 * N) (by omega) c0 want hw).mono ?_
    rintro e w' ⟨rfl, rfl⟩
    exact ⟨none, 0, rfl, hs.arr_nil 36 2⟩
  · rw [if_neg hw, if_neg hw]
    exact rplan_in w0 w F c N s hN hN0 hok hs want (by omega)
end Go.Proofs.Ytjignbbdgoadjaa

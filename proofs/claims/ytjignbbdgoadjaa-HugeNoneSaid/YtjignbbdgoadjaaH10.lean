/-
  Plan: its walk.
-/
import Derived.Test.YtjignbbdgoadjaaH9
namespace Go.Proofs.Ytjignbbdgoadjaa
open Go.RowKit

def Rn.cells (x : Rn) : List Value := [.int .i64 (x.a : Int), .int .i64 (x.n : Int)]
def rnCells (l : List Rn) : List Value := l.flatMap Rn.cells
theorem rnCells_append (l m : List Rn) : rnCells (l ++ m) = rnCells l ++ rnCells m := List.flatMap_append
theorem rnCells_one (x : Rn) : rnCells [x] = x.cells := by simp [rnCells]
theorem rnCells_len (l : List Rn) : (rnCells l).length = l.length * 2 := by
  induction l with
  | nil => rfl
  | cons x l ih => rw [rnCells, List.flatMap_cons, List.length_append, ← rnCells, ih, List.length_cons]; simp [Rn.cells]; omega
theorem oneCell_rn (l : List Rn) : ∀ u ∈ rnCells l, u.oneCell' = true := by
  intro u hu
  obtain ⟨x, _, hx⟩ := List.mem_flatMap.1 hu
  simp [Rn.cells] at hx
  rcases hx with rfl | rfl <;> rfl
/-- a list of runs in memory -/
def runsP (v : Value) (l : List Rn) : HP := HP.arr 36 2 v l.length (rnCells l)
theorem info36 : (Try.prog.info? 36).map (fun i => (i.zero, i.size, i.bytes)) = some (some (.agg #[.int .i64 0, .int .i64 0]), 2, 16) := by kernel_rfl

set_option maxRecDepth 10000 in
set_option maxHeartbeats 4000000 in
theorem plan_in (w0 w : World) (F : List HP) (c N : Nat) (s : Nat → Int) (hN : N ≤ 64) (hN0 : 0 < N) (hs : St w0 (trk 61 c (16 * N) s :: F) w) (want : Int) (hw : 0 ≤ want) :
    Calls Try.prog 15 #[.pointer (some ⟨c, 0, none⟩), .int .i64 want] w fun e w' => ∃ a cap, e = .returned (.tuple #[.slice a (planL s N want).length cap, .int .i64 0]) ∧
      St w0 (runsP (.slice a (planL s N want).length cap) (planL s N want) :: trk 61 c (16 * N) s :: F) w' := by
  have hpl0 := Lib.hid (show planL s N want = [] ++ takeW want ((0 : Nat) : Int) (((ordL s N).drop 0).flatMap (runsOf s)) from rfl)
  generalize planL s N want = PL at *
  obtain ⟨i0, hi, hz0, hz1, hz2⟩ := info_parts info3
  obtain ⟨j0, hj, hy0, hy1, hy2⟩ := info_parts info36
  have hb := hs.allocRow #[.pointer (some ⟨c, 0, none⟩)] 25
  have hb1 : St w0 (boxP w.heap.size c :: trk 61 c (16 * N) s :: F) _ := hb
  obtain ⟨b, off, cap, c0, hcap, hro⟩ := TrAt.of (by omega) (hb1.front 1)
  have b0 : decide (want < 0) = false := decide_eq_false (by omega)
  have bxc := hb1.cells1
  clear hb hs
  go_enter Try.func15, Try.ntmps15
  go_wp2_with fail
  go_step3
  go_wp2_with (first | (go_at_call 39; refine (made_true _ _ _ _ _ _ (by omega) c0).mono ?_; rintro e w' ⟨rfl, rfl⟩) | (go_at_call 40; refine (all_any _ _ _ _ _ _ hN c0).mono ?_; rintro e w' ⟨rfl, rfl⟩))
  clear c0 hcap hro bxc
  generalize hbx : w.heap.size = bx at *
  clear hbx
  go_loopw [6, 23] (fun v i' wr => ∃ (k : Nat) (l : List Nat) (a : Option Addr) (cap : Nat), k ≤ N ∧ i' = .int .i64 k ∧ Hid (backN s k = l) ∧ v = .slice a l.length cap ∧ St w0 (natsP v l :: boxP bx c :: trk 61 c (16 * N) s :: F) wr) (fun _ i' _ => N - (intOf i').toNat)
  case atStart => exact ⟨0, [], none, 0, Nat.zero_le _, rfl, Lib.hid rfl, rfl, hb1.arr_nil 3 1⟩
  case round =>
    clear hb1
    obtain ⟨k, l, a, cap, hk, rfl, hl, rfl, hs1⟩ := hrel
    have bxc := (hs1.front 1).cells1
    by_cases hlt : k < N
    · have hll : l.length ≤ k := by have := backN_len s k; rw [hl.out] at this; exact this
      have hstep : Hid (backN s (k + 1) = if 0 < ofS s k 2 then l ++ [k] else l) := Lib.hid (by show (if _ then _ else _) = _; rw [hl.out])
      obtain ⟨b, off, tcap, ht⟩ := TrAt.of (by omega) (hs1.front 2)
      have HO := Lib.hid (of_any wr c b off tcap N hN ht.1 ht.2.1 k hlt)
      have HC := Lib.hid (count_any wr b (off + 16 * k) 16 (tcap - 16 * k) _ (ht.2.2.sub (a := 16 * k) (k := 16) (by omega)) (by omega) 2)
      have hof : ofS s k 2 = cnt 16 fun j => s (16 * k + j) == 2 := rfl
      rw [hof] at hstep
      clear ht hof
      generalize (cnt 16 fun j => s (16 * k + j) == 2) = q at *
      by_cases h0 : 0 < q
      · have d0 : decide (0 < (q : Int)) = true := decide_eq_true (by omega)
        rw [if_pos h0] at hstep
        have h4 := St.newArr hs1 3 1 1 [.int .i64 k] rfl (by decide)
        have r4 := HP.arr_reads h4
        have h5 := h4.swap
        go_wp2_with fail
        refine HO.out.mono ?_
        rintro e w' ⟨rfl, rfl⟩
        go_wp2_with fail
        refine HC.out.mono ?_
        rintro e w' ⟨rfl, rfl⟩
        go_wp2_with (at_builtin; refine wpList_append_st rfl _ _ 33 rfl 3 i0 _ 1 8 Try.underlying33 hi hz0 hz1 hz2 rfl (.slice a l.length cap) _ rfl rfl l.length (l.map fun (h : Nat) => Value.int .i64 (h : Int)) (by exact h5) 1 [.int .i64 k] (by exact r4) (oneCell_ints [(k : Int)]) (by unfold maxLen; omega) (by omega) ?_; intro v5 w5 hs5 hv5; clear hv5; obtain ⟨a5, p5, rfl⟩ := (HP.arr_reads hs5).form)
        go_roundw
        case rel =>
          refine ⟨k + 1, l ++ [k], a5, p5, hlt, by go_num, hstep, by simp, ?_⟩
          unfold natsP
          rw [List.map_append, List.length_append]
          exact hs5.pick 4 [0, 2, 3]
        case measure => simp [intOf]; omega
      · have d0 : decide (0 < (q : Int)) = false := decide_eq_false (by omega)
        rw [if_neg h0] at hstep
        go_wp2_with fail
        refine HO.out.mono ?_
        rintro e w' ⟨rfl, rfl⟩
        go_wp2_with fail
        refine HC.out.mono ?_
        rintro e w' ⟨rfl, rfl⟩
        go_wp2_with fail
        go_roundw
        case rel => exact ⟨k + 1, l, a, cap, hlt, by go_num, hstep, rfl, hs1⟩
        case measure => simp [intOf]; omega
    · obtain rfl : k = N := by omega
      have e := hl.out
      subst e
      go_wp2_with fail
      refine (sort_any w0 wr F bx c k s hN hN0 a cap hs1).mono ?_
      rintro e w6 ⟨rfl, h6⟩
      clear hs1 hlt hk hl bxc
      have HM := Lib.hid fun h (hh : h ∈ ordL s k) => (ordL_mem.1 hh).1
      have hOl := ordL_len s k
      rw [← (ordL_perm s k).length_eq]
      generalize ordL s k = O at *
      go_wp2_with fail
      go_step3
      go_wp2_with fail
      go_loopw [8, 9, 41] (fun v p i' wr => ∃ (q P : Nat) (out : List Rn) (a2 : Option Addr) (cap2 : Nat), q ≤ O.length ∧ i' = .int .i64 q ∧ p = .int .i64 P ∧ P ≤ 16 * q ∧ out.length ≤ P ∧ v = .slice a2 out.length cap2 ∧
        Hid (PL = out ++ takeW want (P : Int) ((O.drop q).flatMap (runsOf s))) ∧ St w0 (runsP v out :: natsP (.slice a O.length cap) O :: boxP bx c :: trk 61 c (16 * k) s :: F) wr) (fun _ _ i' _ => O.length - (intOf i').toNat)
      case atStart => exact ⟨0, 0, [], none, 0, Nat.zero_le _, rfl, rfl, by omega, by simp, rfl, hpl0, h6.arr_nil 36 2⟩
      case round =>
        clear hpl0 h6
        obtain ⟨q, P, out, a2, cap2, hq, rfl, rfl, hP, hol, rfl, hpl, hs2⟩ := hrel
        by_cases hlt : q < O.length
        · obtain ⟨h, hh⟩ : ∃ h, O[q]? = some h := ⟨O[q], List.getElem?_eq_getElem hlt⟩
          have hhk := HM.out h (List.mem_of_getElem? hh)
          have hdrop : (O.drop q).flatMap (runsOf s) = runsM s (16 * h) 16 ++ (O.drop (q + 1)).flatMap (runsOf s) := by
            rw [List.drop_eq_getElem_cons hlt, List.flatMap_cons]
            have : O[q] = h := by rw [List.getElem?_eq_getElem hlt] at hh; exact Option.some.inj hh
            rw [this]; rfl
          have hin : Hid (PL = out ++ takeW want (P : Int) (runsM s (16 * h + 0) (16 - 0) ++ (O.drop (q + 1)).flatMap (runsOf s))) := Lib.hid (by rw [hpl.out, hdrop]; rfl)
          have hcell : ∃ ob ooff, a = some ⟨ob, ooff, none⟩ ∧ wr.cell? ⟨ob, ooff + q, none⟩ = some (.int .i64 h) := by
            obtain ⟨b', off', cap', hv, _, hc⟩ := (HP.arr_reads (hs2.front 1)).lies (by omega)
            injection hv with h1 h2 h3
            exact ⟨b', off', h1, hc q _ (by rw [List.getElem?_map, hh]; rfl)⟩
          obtain ⟨ob, ooff, ha, hoc⟩ := hcell
          subst ha
          have HR := Lib.hid (rfl : (O.drop (q + 1)).flatMap (runsOf s) = (O.drop (q + 1)).flatMap (runsOf s))
          have hiq1 : (0 : Int) ≤ (q : Int) := by omega
          have hiq2 : (q : Int) < (O.length : Int) := by omega
          clear hpl hdrop hh
          go_wp2_with fail
          go_loopw [8, 9, 12] (fun v p i' wr => ∃ (i P : Nat) (out : List Rn) (a2 : Option Addr) (cap2 : Nat), i ≤ 17 ∧ i' = .int .i64 i ∧ p = .int .i64 P ∧ P ≤ 16 * q + i ∧ P ≤ 16 * (q + 1) ∧ out.length ≤ P ∧ v = .slice a2 out.length cap2 ∧
            Hid (PL = out ++ takeW want (P : Int) (runsM s (16 * h + i) (16 - i) ++ (O.drop (q + 1)).flatMap (runsOf s))) ∧ St w0 (runsP v out :: natsP (.slice (some ⟨ob, ooff, none⟩) O.length cap) O :: boxP bx c :: trk 61 c (16 * k) s :: F) wr) (fun _ _ i' _ => 17 - (intOf i').toNat)
          case atStart => exact ⟨0, P, out, a2, cap2, by omega, rfl, rfl, by omega, by omega, hol, rfl, hin, hs2⟩
          case round =>
            clear hs2 hin hP hol hoc
            obtain ⟨i, P, out, a2, cap2, hi17, rfl, rfl, hP, hP2, hol, rfl, hpl, hs2⟩ := hrel
            by_cases hi16 : i < 16
            · by_cases hwp : want ≤ (P : Int)
              · have hpl : PL = out := by rw [hpl.out, takeW_enough hwp, List.append_nil]
                subst hpl
                have bw : decide (want ≤ (P : Int)) = true := decide_eq_true hwp
                go_wp2_with fail
                rw [Exit.noGoto_ret]
                go_ret2
                exact ⟨a2, cap2, rfl, hs2.pick 4 [0, 3]⟩
              · have bw : decide (want ≤ (P : Int)) = false := decide_eq_false hwp
                have HWP := Lib.hid hwp
                have hrl := rl_le s (16 - i) (16 * h + i)
                have HRL := Lib.hid fun n h1 h2 h3 => @rl_is s n (16 * h + i) (16 - i) h1 h2 h3
                have bxc := (hs2.front 2).cells1
                obtain ⟨b, off, tcap, ht⟩ := TrAt.of (by omega) (hs2.front 3)
                have HO := Lib.hid (of_any wr c b off tcap k hN ht.1 ht.2.1 h hhk)
                have HC := Lib.hid (ht.2.2.sub (a := 16 * h) (k := 16) (by omega))
                clear ht
                go_wp2_with fail
                go_loop [13] (fun n' => ∃ n : Nat, i + n ≤ 16 ∧ n' = .int .i64 n ∧ Hid (∀ j, j < n → s (16 * h + i + j) = 2)) (fun n' => 17 - (intOf n').toNat)
                case atStart => exact ⟨0, by omega, rfl, Lib.hid fun j hj => by omega⟩
                case round =>
                  obtain ⟨n, hn16, rfl, hall⟩ := hrel
                  by_cases hnl : i + n < 16
                  · have hcl := HC.out (i + n) hnl
                    have bl : decide ((i : Int) + (n : Int) < 16) = true := decide_eq_true (by omega)
                    have li1 : (0 : Int) ≤ (i : Int) + (n : Int) := by omega
                    by_cases h2 : s (16 * h + (i + n)) = 2
                    · have b2 : (s (16 * h + (i + n)) == 2) = true := by simp [h2]
                      have H2 := Lib.hid h2
                      clear h2
                      go_wp2_with fail
                      refine HO.out.mono ?_
                      rintro e w' ⟨rfl, rfl⟩
                      go_wp2_with fail
                      go_round
                      case rel =>
                        refine ⟨n + 1, by omega, by go_num, Lib.hid fun j hj => ?_⟩
                        by_cases e : j = n
                        · subst e; rw [Nat.add_assoc]; exact H2.out
                        · exact hall.out j (by omega)
                      case measure => simp [intOf]; omega
                    · have b2 : (s (16 * h + (i + n)) == 2) = false := by simp [h2]
                      have E := Lib.hid (HRL.out n (by omega) hall.out (.inr (by rw [Nat.add_assoc]; exact h2)))
                      clear h2
                      rcases Nat.eq_zero_or_pos n with hn0 | hn0
                      · have HN0 := Lib.hid hn0
                        have dn : decide (0 < (n : Int)) = false := decide_eq_false (by omega)
                        have dn' : decide (0 < n) = false := decide_eq_false (by omega)
                        have hpl2 : Hid (PL = out ++ takeW want (P : Int) (runsM s (16 * h + (i + 1)) (16 - (i + 1)) ++ (O.drop (q + 1)).flatMap (runsOf s))) := Lib.hid (by
                          rw [hpl.out, show 16 - i = (16 - (i + 1)) + 1 by omega, runsM_skip (by rw [show 16 - (i + 1) + 1 = 16 - i by omega, E.out]; exact hn0), Nat.add_assoc])
                        clear hn0
                        go_wp2_with fail
                        refine HO.out.mono ?_
                        rintro e w' ⟨rfl, rfl⟩
                        go_wp2_with fail
                        go_roundw
                        case rel => exact ⟨i + 1, P, out, a2, cap2, by omega, by go_num, rfl, by omega, hP2, hol, rfl, hpl2, hs2⟩
                        case measure => simp [intOf]; omega
                      · have hcast : ((16 * h + i : Nat) : Int) = (h : Int) * 16 + (i : Int) := by omega
                        have hpl2 : Hid (PL = (out ++ [⟨16 * h + i, n⟩]) ++ takeW want ((P + n : Nat) : Int) (runsM s (16 * h + (i + n + 1)) (16 - (i + n + 1)) ++ (O.drop (q + 1)).flatMap (runsOf s))) := Lib.hid (by
                          have e1 := E.out
                          have hwp' := HWP.out
                          rw [hpl.out]
                          rw [show 16 - i = (16 - (i + 1)) + 1 by omega] at e1 ⊢
                          rw [runsM_run (by omega), e1, List.cons_append, takeW_more (by omega), List.append_assoc, List.singleton_append]
                          rw [show 16 * h + i + n + 1 = 16 * h + (i + n + 1) by omega, show 16 - (i + 1) - n = 16 - (i + n + 1) by omega]
                          rw [show ((P + n : Nat) : Int) = (P : Int) + (n : Int) by omega])
                        have dn : decide (0 < (n : Int)) = true := decide_eq_true (by omega)
                        have HCA := Lib.hid hcast
                        have h4 := St.newArr hs2 36 2 1 [.int .i64 ((h : Int) * 16 + (i : Int)), .int .i64 n] rfl (by decide)
                        have r4 := HP.arr_reads h4
                        have h5 := h4.swap
                        clear hcast
                        go_wp2_with fail
                        refine HO.out.mono ?_
                        rintro e w' ⟨rfl, rfl⟩
                        go_wp2_with (at_builtin; refine wpList_append_st rfl _ _ 27 rfl 36 j0 _ 2 16 Try.underlying27 hj hy0 hy1 hy2 rfl (.slice a2 out.length cap2) _ rfl rfl out.length (rnCells out) (by exact h5) 1 [.int .i64 ((h : Int) * 16 + (i : Int)), .int .i64 n] (by exact r4) (by intro u hu; simp at hu; rcases hu with rfl | rfl <;> rfl) (by unfold maxLen; omega) (by omega) ?_; intro v5 w5 hs5 hv5; clear hv5; obtain ⟨a5, p5, rfl⟩ := (HP.arr_reads hs5).form)
                        go_roundw
                        case rel =>
                          refine ⟨i + n + 1, P + n, out ++ [⟨16 * h + i, n⟩], a5, p5, by omega, by go_num, by go_num, by omega, by omega, by simp; omega, by simp, hpl2, ?_⟩
                          have e1 : rnCells (out ++ [⟨16 * h + i, n⟩]) = rnCells out ++ [.int .i64 ((h : Int) * 16 + (i : Int)), .int .i64 n] := by rw [rnCells_append, rnCells_one, ← HCA.out]; rfl
                          unfold runsP
                          rw [e1, List.length_append]
                          exact hs5.pick 5 [0, 2, 3, 4]
                        case measure => simp [intOf]; omega
                  · have hn0 : 0 < n := by omega
                    have E := Lib.hid (HRL.out n (by omega) hall.out (.inl (by omega)))
                    have bl : decide ((i : Int) + (n : Int) < 16) = false := decide_eq_false (by omega)
                    have hcast : ((16 * h + i : Nat) : Int) = (h : Int) * 16 + (i : Int) := by omega
                    have hpl2 : Hid (PL = (out ++ [⟨16 * h + i, n⟩]) ++ takeW want ((P + n : Nat) : Int) (runsM s (16 * h + (i + n + 1)) (16 - (i + n + 1)) ++ (O.drop (q + 1)).flatMap (runsOf s))) := Lib.hid (by
                      have e1 := E.out
                      have hwp' := HWP.out
                      rw [hpl.out]
                      rw [show 16 - i = (16 - (i + 1)) + 1 by omega] at e1 ⊢
                      rw [runsM_run (by omega), e1, List.cons_append, takeW_more (by omega), List.append_assoc, List.singleton_append]
                      rw [show 16 * h + i + n + 1 = 16 * h + (i + n + 1) by omega, show 16 - (i + 1) - n = 16 - (i + n + 1) by omega]
                      rw [show ((P + n : Nat) : Int) = (P : Int) + (n : Int) by omega])
                    have dn : decide (0 < (n : Int)) = true := decide_eq_true (by omega)
                    have HCA := Lib.hid hcast
                    have h4 := St.newArr hs2 36 2 1 [.int .i64 ((h : Int) * 16 + (i : Int)), .int .i64 n] rfl (by decide)
                    have r4 := HP.arr_reads h4
                    have h5 := h4.swap
                    clear hcast
                    go_wp2_with (at_builtin; refine wpList_append_st rfl _ _ 27 rfl 36 j0 _ 2 16 Try.underlying27 hj hy0 hy1 hy2 rfl (.slice a2 out.length cap2) _ rfl rfl out.length (rnCells out) (by exact h5) 1 [.int .i64 ((h : Int) * 16 + (i : Int)), .int .i64 n] (by exact r4) (by intro u hu; simp at hu; rcases hu with rfl | rfl <;> rfl) (by unfold maxLen; omega) (by omega) ?_; intro v5 w5 hs5 hv5; clear hv5; obtain ⟨a5, p5, rfl⟩ := (HP.arr_reads hs5).form)
                    go_roundw
                    case rel =>
                      refine ⟨i + n + 1, P + n, out ++ [⟨16 * h + i, n⟩], a5, p5, by omega, by go_num, by go_num, by omega, by omega, by simp; omega, by simp, hpl2, ?_⟩
                      have e1 : rnCells (out ++ [⟨16 * h + i, n⟩]) = rnCells out ++ [.int .i64 ((h : Int) * 16 + (i : Int)), .int .i64 n] := by rw [rnCells_append, rnCells_one, ← HCA.out]; rfl
                      unfold runsP
                      rw [e1, List.length_append]
                      exact hs5.pick 5 [0, 2, 3, 4]
                    case measure => simp [intOf]; omega
            · have e : 16 - i = 0 := by omega
              rw [e, runsM_zero, List.nil_append] at hpl
              have bi : decide ((i : Int) < 16) = false := decide_eq_false (by omega)
              go_wp2_with fail
              go_roundw
              case rel => exact ⟨q + 1, P, out, a2, cap2, hlt, by go_num, rfl, hP2, hol, rfl, hpl, hs2⟩
              case measure => simp [intOf]; omega
        · have e : q = O.length := by omega
          have hpl : PL = out := by rw [hpl.out, e, List.drop_length]; simp [takeW]
          clear hlt
          subst hpl
          have hbq : decide ((q : Int) < (O.length : Int)) = false := decide_eq_false (by omega)
          go_wp2_with fail
          rw [Exit.noGoto_ret]
          go_ret2
          exact ⟨a2, cap2, rfl, hs2.pick 4 [0, 3]⟩
end Go.Proofs.Ytjignbbdgoadjaa

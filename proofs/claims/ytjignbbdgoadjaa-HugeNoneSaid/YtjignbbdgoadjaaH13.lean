/-
  Runs that are compared; the chapter's example.
-/
import Derived.Test.YtjignbbdgoadjaaH12
namespace Go.Proofs.Ytjignbbdgoadjaa
open Go.RowKit

theorem neq_rn (x y : Rn) (w : World) : (binOp .neq 36 (.agg #[.int .i64 (x.a : Int), .int .i64 (x.n : Int)]) (.agg #[.int .i64 (y.a : Int), .int .i64 (y.n : Int)])).run Try.prog w = .ok (.bool (!decide (x = y))) w := by
  have hs : Try.prog.stoodInHeld 36 = false := by kernel_rfl
  have e : ∀ d : Nat, (Op.equalIn (d + 2) 36 (.agg #[.int .i64 (x.a : Int), .int .i64 (x.n : Int)]) (.agg #[.int .i64 (y.a : Int), .int .i64 (y.n : Int)])).run Try.prog w = .ok (decide (x = y)) w := by
    intro d
    obtain ⟨a1, a2⟩ := x
    obtain ⟨b1, b2⟩ := y
    simp only [Op.equalIn, Sem.run_bind, run_underlying Try.underlying36, Result.andThen_ok]
    simp [hs, part, isAgg, run_underlying Try.underlying3]
    by_cases h1 : a1 = b1 <;> by_cases h2 : a2 = b2 <;> simp [h1, h2] <;> omega
  have e2 : (Op.equal 36 (.agg #[.int .i64 (x.a : Int), .int .i64 (x.n : Int)]) (.agg #[.int .i64 (y.a : Int), .int .i64 (y.n : Int)])).run Try.prog w = .ok (decide (x = y)) w := e 9998
  simp [binOp, e2]

set_option maxRecDepth 10000 in
set_option maxHeartbeats 1000000 in
theorem runs_any (w : World) (a b : Option Addr) (ca cb : Nat) (xs ys : List Rn) (hx : RunsAt w (.slice a xs.length ca) xs) (hy : RunsAt w (.slice b ys.length cb) ys) (hn : xs.length ≤ 4096) :
    Calls Try.prog 37 #[.slice a xs.length ca, .slice b ys.length cb] w fun e w' => e = .returned (.bool (decide (xs = ys))) ∧ ∃ n, w' = w.drewN n := by
  by_cases hl : xs.length = ys.length
  · have hne : ((xs.length : Int) != ys.length) = false := by simp [hl]
    have HX := Lib.hid hx
    have HY := Lib.hid hy
    have HL := Lib.hid hl
    clear hx hy hl
    go_enter Try.func37, Try.ntmps37
    go_wp2_with fail
    go_loopw [5] (fun i wr => ∃ k : Nat, k ≤ xs.length ∧ i = .int .i64 k ∧ agree xs ys k ∧ ∃ n, wr = w.drewN n) (fun i _ => xs.length - (intOf i).toNat)
    case atStart => exact ⟨0, Nat.zero_le _, rfl, agree_zero _ _, 0, rfl⟩
    case round =>
      obtain ⟨k, hk, rfl, hag, n, rfl⟩ := hrel
      by_cases hlt : k < xs.length
      · obtain ⟨x, h1⟩ : ∃ x, xs[k]? = some x := ⟨xs[k], List.getElem?_eq_getElem hlt⟩
        obtain ⟨y, h2⟩ : ∃ y, ys[k]? = some y := ⟨ys[k]'(by have := HL.out; omega), List.getElem?_eq_getElem _⟩
        obtain ⟨xb, xo, xc, e1, c1, c11⟩ := HX.out.cell h1
        obtain ⟨yb, yo, yc, e2, c2, c21⟩ := HY.out.cell h2
        injection e1 with e1 e11 e12
        injection e2 with e2 e21 e22
        clear e11 e12 e21 e22
        subst e1 e2
        have hlt2 : k < ys.length := by have := HL.out; omega
        have ik0 : (0 : Int) ≤ (k : Int) := by omega
        have ik1 : (k : Int) < (xs.length : Int) := by omega
        have ik2 : (k : Int) < (ys.length : Int) := by omega
        have H1 := Lib.hid h1
        have H2 := Lib.hid h2
        clear h1 h2
        by_cases hxy : x = y
        · have bq := fun w => neq_rn x y w
          rw [decide_eq_true hxy] at bq
          have HXY := Lib.hid hxy
          clear hxy
          go_wp2_with fail
          go_quiet (fail)
          go_wp2_with fail
          go_roundw
          case rel => exact ⟨k + 1, hlt, by go_num, agree_succ hag H1.out (by rw [HXY.out]; exact H2.out), _, by first | rfl | rw [drewN_drewN]⟩
          case measure => simp [intOf]; omega
        · have bq := fun w => neq_rn x y w
          rw [decide_eq_false hxy] at bq
          have HXY := Lib.hid hxy
          clear hxy
          go_wp2_with fail
          go_quiet (fail)
          go_wp2_with fail
          go_ret
          exact ⟨by rw [decide_eq_false (agree_not H1.out H2.out HXY.out)]; rfl, _, by first | rfl | rw [drewN_drewN]⟩
      · go_wp2_with fail
        go_ret
        exact ⟨by rw [decide_eq_true (agree_all hag (by omega) HL.out)]; rfl, _, rfl⟩
  · have hne : ((xs.length : Int) != ys.length) = true := by simp; omega
    have H : decide (xs = ys) = false := decide_eq_false fun h => hl (by rw [h])
    have HH := Lib.hid H
    clear H hl
    go_enter Try.func37, Try.ntmps37
    go_wp2
    go_ret
    exact ⟨by rw [HH.out]; rfl, 0, rfl⟩


theorem ints_is (w : World) (b : Bool) (a1 a2 : Option Addr) (m ca cb : Nat) (xs ys : List Int) (h1 : xs.length = m) (h2 : ys.length = m) (hb : decide (xs = ys) = b) (hx : IntsAt w (.slice a1 m ca) xs) (hy : IntsAt w (.slice a2 m cb) ys) (hn : m ≤ 1024) :
    Calls Try.prog 36 #[.slice a1 m ca, .slice a2 m cb] w fun e w' => e = .returned (.bool b) ∧ ∃ n, w' = w.drewN n := by
  subst h1 hb
  have h := ints_any w a1 a2 ca cb xs ys hx (by rw [h2]; exact hy) (by omega)
  rw [h2] at h
  exact h
theorem runs_is (w : World) (b : Bool) (a1 a2 : Option Addr) (m ca cb : Nat) (xs ys : List Rn) (h1 : xs.length = m) (h2 : ys.length = m) (hb : decide (xs = ys) = b) (hx : RunsAt w (.slice a1 m ca) xs) (hy : RunsAt w (.slice a2 m cb) ys) (hn : m ≤ 1024) :
    Calls Try.prog 37 #[.slice a1 m ca, .slice a2 m cb] w fun e w' => e = .returned (.bool b) ∧ ∃ n, w' = w.drewN n := by
  subst h1 hb
  have h := runs_any w a1 a2 ca cb xs ys hx (by rw [h2]; exact hy) (by omega)
  rw [h2] at h
  exact h

set_option maxRecDepth 20000 in
set_option maxHeartbeats 8000000 in
theorem alive_any (w0 w : World) (F : List HP) (hs : St w0 F w) : Calls Try.prog 13 #[] w fun e w' => e = .returned (.bool true) ∧ St w0 F w' := by
  go_enter Try.func13, Try.ntmps13
  go_wp2_with fail
  refine (new_in w0 w F hs 2 (by omega) (by omega)).mono ?_
  rintro e w1 ⟨c, rfl, h1⟩
  go_wp2_with fail
  refine (add_any w0 w1 F c 2 _ (by omega) (by omega) h1 0).mono ?_
  rintro e w2 ⟨rfl, h2⟩
  rw [xe1]
  have h2 : St w0 (trk 61 c 32 x1 :: F) w2 := h2
  go_wp2_with fail
  refine (add_any w0 w2 F c 2 _ (by omega) (by omega) h2 1).mono ?_
  rintro e w3 ⟨rfl, h3⟩
  rw [xe2]
  have h3 : St w0 (trk 61 c 32 x2 :: F) w3 := h3
  go_wp2_with fail
  refine (use_any w0 w3 F c 32 _ (by omega) (by omega) h3 0 4).mono ?_
  rintro e w4 ⟨rfl, h4⟩
  rw [xe3]
  have h4 : St w0 (trk 61 c 32 x3 :: F) w4 := h4
  go_wp2_with fail
  refine (unuse_any w0 w4 F c 32 _ (by omega) (by omega) h4 2 2).mono ?_
  rintro e w5 ⟨rfl, h5⟩
  rw [xe4]
  have h5 : St w0 (trk 61 c 32 x4 :: F) w5 := h5
  go_wp2_with fail
  obtain ⟨b, off, cap, ht⟩ := TrAt.of (by omega) h5
  refine (state_in w5 c b off cap 32 x4 ht 2 (by omega)).mono ?_
  rintro e w' ⟨rfl, rfl⟩
  rw [xs4]
  clear ht
  go_wp2_with fail
  refine (brokens_any w0 w5 F c 2 x4 (by omega) (by omega) h5).mono ?_
  rintro e w6 ⟨a6, p6, rfl, h6⟩
  rw [xb4] at h6 ⊢
  go_wp2_with fail
  refine (idles_any w0 w6 _ c 2 x4 (by omega) (by omega) h6.swap).mono ?_
  rintro e w7 ⟨a7, p7, rfl, h7⟩
  rw [xi4] at h7 ⊢
  have h8 := h7.pick 3 [1, 0, 2]
  clear h1 h2 h3 h4 h5 h6 h7
  go_wp2_with fail
  refine (use_any w0 w7 _ c 32 _ (by omega) (by omega) h8 16 16).mono ?_
  rintro e w8 ⟨rfl, h9⟩
  rw [xe5]
  have h9 : St w0 (trk 61 c 32 x5 :: intsP (.slice a7 1 p7) [1] :: intsP (.slice a6 1 p6) [0] :: F) w8 := h9
  go_wp2_with fail
  refine (unuse_any w0 w8 _ c 32 _ (by omega) (by omega) h9 16 16).mono ?_
  rintro e w9 ⟨rfl, h10⟩
  rw [xe6]
  have h10 : St w0 (trk 61 c 32 x6 :: intsP (.slice a7 1 p7) [1] :: intsP (.slice a6 1 p6) [0] :: F) w9 := h10
  clear h8 h9
  go_wp2_with fail
  refine (plan_any w0 w9 _ c 2 x6 (by omega) (by omega) h10 1).mono ?_
  rintro e w10 ⟨a10, p10, rfl, h11⟩
  rw [xp1] at h11 ⊢
  go_wp2_with fail
  refine (plan_any w0 w10 _ c 2 x6 (by omega) (by omega) h11.swap 17).mono ?_
  rintro e w11 ⟨a11, p11, rfl, h12⟩
  rw [xp17] at h12 ⊢
  have h13 : St w0 (trk 61 c 32 x6 :: intsP (.slice a7 1 p7) [1] :: intsP (.slice a6 1 p6) [0] :: runsP (.slice a10 1 p10) [⟨16, 16⟩] :: runsP (.slice a11 2 p11) [⟨16, 16⟩, ⟨2, 2⟩] :: F) w11 := h12.pick 5 [1, 3, 4, 2, 0]
  clear h10 h11 h12
  have h14 := h13.newArr 3 1 1 [.int .i64 0] rfl (by decide)
  have g14 : St w0 (intsP _ [0] :: _) _ := h14
  go_wp2_with fail
  refine (ints_is _ true a6 _ 1 p6 1 [0] [0] rfl rfl rfl (ints_at (g14.front 3)) (ints_at g14) (by omega)).mono ?_
  rintro e w' ⟨rfl, n1, rfl⟩
  have h15 := (g14.drop.drewN n1)
  clear h13 h14 g14
  generalize (World.drewN _ n1) = w15 at *
  have h16 := h15.newArr 3 1 1 [.int .i64 1] rfl (by decide)
  have g16 : St w0 (intsP _ [1] :: _) _ := h16
  go_wp2_with fail
  refine (ints_is _ true a7 _ 1 p7 1 [1] [1] rfl rfl rfl (ints_at (g16.front 2)) (ints_at g16) (by omega)).mono ?_
  rintro e w' ⟨rfl, n2, rfl⟩
  have h17 := (g16.drop.drewN n2)
  clear h15 h16 g16
  generalize (World.drewN _ n2) = w17 at *
  have h18 := h17.newArr 36 2 1 [.int .i64 16, .int .i64 16] rfl (by decide)
  have g18 : St w0 (runsP _ [⟨16, 16⟩] :: _) _ := h18
  go_wp2_with fail
  refine (runs_is _ true a10 _ 1 p10 1 [⟨16, 16⟩] [⟨16, 16⟩] rfl rfl rfl (runs_at (g18.front 4)) (runs_at g18) (by omega)).mono ?_
  rintro e w' ⟨rfl, n3, rfl⟩
  have h19 := (g18.drop.drewN n3)
  clear h17 h18 g18
  generalize (World.drewN _ n3) = w19 at *
  have h20 := h19.newArr 36 2 2 [.int .i64 16, .int .i64 16, .int .i64 2, .int .i64 2] rfl (by decide)
  have g20 : St w0 (runsP _ [⟨16, 16⟩, ⟨2, 2⟩] :: _) _ := h20
  go_wp2_with fail
  refine (runs_is _ true a11 _ 2 p11 2 [⟨16, 16⟩, ⟨2, 2⟩] [⟨16, 16⟩, ⟨2, 2⟩] rfl rfl rfl (runs_at (g20.front 5)) (runs_at g20) (by omega)).mono ?_
  rintro e w' ⟨rfl, n4, rfl⟩
  have h21 := (g20.drop.drewN n4)
  clear h19 h20 g20
  generalize (World.drewN _ n4) = w21 at *
  go_wp2_with fail
  refine (remove_any w0 w21 _ c 2 x6 (by omega) (by omega) h21 1).mono ?_
  rintro e w22 ⟨rfl, h22⟩
  rw [xe7]
  have h22 : St w0 (trk 61 c 32 x7 :: intsP (.slice a7 1 p7) [1] :: intsP (.slice a6 1 p6) [0] :: runsP (.slice a10 1 p10) [⟨16, 16⟩] :: runsP (.slice a11 2 p11) [⟨16, 16⟩, ⟨2, 2⟩] :: F) w22 := h22
  go_wp2_with fail
  refine (remove_any w0 w22 _ c 2 x7 (by omega) (by omega) h22 0).mono ?_
  rintro e w23 ⟨rfl, h23⟩
  rw [xe8]
  go_wp2_with fail
  go_ret
  exact ⟨rfl, h23.drop.drop.drop.drop.drop⟩
end Go.Proofs.Ytjignbbdgoadjaa

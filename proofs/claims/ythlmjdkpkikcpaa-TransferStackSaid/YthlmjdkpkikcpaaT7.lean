/-
  Comparisons of slices: freeholdref01.Ints, freeholdref08.Same.
-/
import Derived.Test.YthlmjdkpkikcpaaT6
namespace Go.Proofs.Ythlmjdkpkikcpaa
open Go.RowKit

theorem IntsAt.cell {w : World} {v : Value} {xs : List Int} (h : IntsAt w v xs) {k : Nat} {x : Int} (hx : xs[k]? = some x) :
    ∃ b off cap, v = .slice (some ⟨b, off, none⟩) xs.length cap ∧ w.cell? ⟨b, off + k, none⟩ = some (.int .i64 x) := by
  have hk := (List.getElem?_eq_some_iff.1 hx).1
  obtain ⟨b, off, cap, hv, _, hc⟩ := Reads.lies h (by omega)
  exact ⟨b, off, cap, hv, hc k _ (by rw [List.getElem?_map, hx]; rfl)⟩
theorem drewN_drewN (w : World) (a b : Nat) : (w.drewN a).drewN b = w.drewN (a + b) := by
  show ({ w with drawn := w.drawn + a + b } : World) = { w with drawn := w.drawn + (a + b) }
  rw [Nat.add_assoc]
theorem drewN_drew (w : World) (a : Nat) : (w.drewN a).drew = w.drewN (a + 1) := rfl
theorem drewN_zero (w : World) : w.drewN 0 = w := rfl

/-- lists that agree so far -/
def agree (xs ys : List Int) (k : Nat) : Prop := xs.take k = ys.take k
theorem agree_zero (xs ys : List Int) : agree xs ys 0 := by simp [agree]
theorem agree_succ {xs ys : List Int} {k : Nat} {x : Int} (h : agree xs ys k) (hx : xs[k]? = some x) (hy : ys[k]? = some x) : agree xs ys (k + 1) := by
  unfold agree at *
  rw [List.take_add_one, List.take_add_one, h, hx, hy]
theorem agree_all {xs ys : List Int} {k : Nat} (h : agree xs ys k) (hk : xs.length ≤ k) (hl : xs.length = ys.length) : xs = ys := by
  unfold agree at h
  rwa [List.take_of_length_le hk, List.take_of_length_le (by omega)] at h
theorem agree_not {xs ys : List Int} {k : Nat} {x y : Int} (hx : xs[k]? = some x) (hy : ys[k]? = some y) (hne : x ≠ y) : xs ≠ ys := by
  intro h
  rw [h, hy] at hx
  exact hne (Option.some.inj hx).symm

set_option maxHeartbeats 1000000 in
theorem Ints_any (w : World) (a b : Option Addr) (ca cb : Nat) (xs ys : List Int) (hx : IntsAt w (.slice a xs.length ca) xs) (hy : IntsAt w (.slice b ys.length cb) ys)
    (hn : xs.length ≤ 9223372036854775807) (_hm : ys.length ≤ 9223372036854775807) :
    Calls Try.prog 14 #[.slice a xs.length ca, .slice b ys.length cb] w fun e w' => e = .returned (.bool (decide (xs = ys))) ∧ ∃ n, w' = w.drewN n := by
  by_cases hl : xs.length = ys.length
  · have hne : ((xs.length : Int) != ys.length) = false := by simp [hl]
    have HX := Lib.hid hx
    have HY := Lib.hid hy
    have HL := Lib.hid hl
    clear hx hy hl
    go_enter Try.func14, Try.ntmps14
    go_wp2
    go_loopw [5] (fun i wr => ∃ k : Nat, k ≤ xs.length ∧ i = .int .i64 k ∧ agree xs ys k ∧ ∃ n, wr = w.drewN n) (fun i _ => xs.length - (intOf i).toNat)
    case atStart => exact ⟨0, Nat.zero_le _, rfl, agree_zero _ _, 0, rfl⟩
    case round =>
      obtain ⟨k, hk, rfl, hag, nd, rfl⟩ := hrel
      by_cases hlt : k < xs.length
      · obtain ⟨x, h1⟩ : ∃ x, xs[k]? = some x := ⟨xs[k], List.getElem?_eq_getElem hlt⟩
        obtain ⟨y, h2⟩ : ∃ y, ys[k]? = some y := ⟨ys[k]'(by have := HL.out; omega), List.getElem?_eq_getElem _⟩
        obtain ⟨b1, o1, p1, e1, c1⟩ := IntsAt.cell HX.out h1
        obtain ⟨b2, o2, p2, e2, c2⟩ := IntsAt.cell HY.out h2
        injection e1 with e1 e1b e1c
        injection e2 with e2 e2b e2c
        clear e1b e1c e2b e2c
        subst e1 e2
        have hlt2 : k < ys.length := by have := HL.out; omega
        have H1 := Lib.hid h1
        have H2 := Lib.hid h2
        clear h1 h2
        have hk0 : (0 : Int) ≤ (k : Int) := Int.natCast_nonneg _
        have hk1 : (k : Int) < (xs.length : Int) := by omega
        have hk2 : (k : Int) < (ys.length : Int) := by omega
        by_cases hxy : x = y
        · subst hxy
          have hb : (x != x) = false := by simp
          go_wp2_with fail
          go_quiet (fail)
          go_wp2
          go_roundw
          case rel => exact ⟨k + 1, hlt, by go_num, agree_succ hag H1.out H2.out, _, rfl⟩
          case measure => simp [intOf]; omega
        · have hb : (x != y) = true := by simp [hxy]
          have HN := Lib.hid hxy
          clear hxy
          go_wp2_with fail
          go_quiet (fail)
          go_wp2
          go_ret
          exact ⟨by rw [decide_eq_false (agree_not H1.out H2.out HN.out)]; rfl, _, drewN_drewN w nd nq⟩
      · go_wp2
        go_ret
        exact ⟨by rw [decide_eq_true (agree_all hag (by omega) HL.out)]; rfl, _, rfl⟩
  · have hne : ((xs.length : Int) != ys.length) = true := by simp; omega
    clear hx hy
    have HL := Lib.hid hl
    clear hl
    go_enter Try.func14, Try.ntmps14
    go_wp2
    go_ret
    exact ⟨by rw [decide_eq_false (fun h => HL.out (congrArg List.length h))]; rfl, 0, rfl⟩

theorem rows_succ {xss yss : List (List Int)} {k : Nat} {x : List Int} (h : xss.take k = yss.take k) (hx : xss[k]? = some x) (hy : yss[k]? = some x) : xss.take (k + 1) = yss.take (k + 1) := by
  rw [List.take_add_one, List.take_add_one, h, hx, hy]
theorem rows_not {xss yss : List (List Int)} {k : Nat} {x y : List Int} (hx : xss[k]? = some x) (hy : yss[k]? = some y) (hne : x ≠ y) : xss ≠ yss := by
  intro h
  rw [h, hy] at hx
  exact hne (Option.some.inj hx).symm
theorem RowsAt.cell {w : World} {v : Value} {n : Nat} {vs : List Value} {bs : List (List Int)} (h : RowsAt w v n vs bs) {k : Nat} {x : List Int} (hx : bs[k]? = some x) :
    ∃ b off cap a c, v = .slice (some ⟨b, off, none⟩) n cap ∧ w.cell? ⟨b, off + k, none⟩ = some (.slice a x.length c) ∧ IntsAt w (.slice a x.length c) x := by
  have hk := (List.getElem?_eq_some_iff.1 hx).1
  obtain ⟨a, c, hv, hi⟩ := h.2.2 k x hx
  obtain ⟨b, off, cap, he, _, hc⟩ := h.1.lies (by have := h.2.1; omega)
  exact ⟨b, off, cap, a, c, he, hc k _ hv, hi⟩

set_option maxHeartbeats 4000000 in
theorem Same_any (w : World) (a b : Option Addr) (ca cb : Nat) (us vs : List Value) (xss yss : List (List Int)) (hx : RowsAt w (.slice a xss.length ca) xss.length us xss) (hy : RowsAt w (.slice b yss.length cb) yss.length vs yss)
    (hn : xss.length ≤ 1000) (_hm : yss.length ≤ 1000) (ha : ∀ x ∈ xss, x.length ≤ 1000) (hb : ∀ x ∈ yss, x.length ≤ 1000) :
    Calls Try.prog 17 #[.slice a xss.length ca, .slice b yss.length cb] w fun e w' => e = .returned (.bool (decide (xss = yss))) ∧ ∃ n, w' = w.drewN n := by
  have HA := Lib.hid ha
  have HB := Lib.hid hb
  clear ha hb
  by_cases hl : xss.length = yss.length
  · have hne : ((xss.length : Int) != yss.length) = false := by simp [hl]
    have HX := Lib.hid hx
    have HY := Lib.hid hy
    have HL := Lib.hid hl
    clear hx hy hl
    go_enter Try.func17, Try.ntmps17
    go_wp2
    go_loopw [5] (fun i wr => ∃ k : Nat, k ≤ xss.length ∧ i = .int .i64 k ∧ Hid (xss.take k = yss.take k) ∧ ∃ n, wr = w.drewN n) (fun i _ => xss.length - (intOf i).toNat)
    case atStart => exact ⟨0, Nat.zero_le _, rfl, by unfold Hid; simp, 0, rfl⟩
    case round =>
      obtain ⟨k, hk, rfl, hag, nd, rfl⟩ := hrel
      by_cases hlt : k < xss.length
      · obtain ⟨x, h1⟩ : ∃ x, xss[k]? = some x := ⟨xss[k], List.getElem?_eq_getElem hlt⟩
        obtain ⟨y, h2⟩ : ∃ y, yss[k]? = some y := ⟨yss[k]'(by have := HL.out; omega), List.getElem?_eq_getElem _⟩
        obtain ⟨b1, o1, p1, a1, q1, e1, c1, i1⟩ := HX.out.cell h1
        obtain ⟨b2, o2, p2, a2, q2, e2, c2, i2⟩ := HY.out.cell h2
        injection e1 with e1 e1b e1c
        injection e2 with e2 e2b e2c
        clear e1b e1c e2b e2c
        subst e1 e2
        have hlt2 : k < yss.length := by have := HL.out; omega
        have hxl : x.length ≤ 1000 := HA.out x (List.mem_of_getElem? h1)
        have hyl : y.length ≤ 1000 := HB.out y (List.mem_of_getElem? h2)
        have H1 := Lib.hid h1
        have H2 := Lib.hid h2
        have I1 := Lib.hid i1
        have I2 := Lib.hid i2
        clear h1 h2 i1 i2
        have hk0 : (0 : Int) ≤ (k : Int) := Int.natCast_nonneg _
        have hk1 : (k : Int) < (xss.length : Int) := by omega
        have hk2 : (k : Int) < (yss.length : Int) := by omega
        by_cases hxy : x.length = y.length
        · have hb : ((x.length : Int) != (y.length : Int)) = false := by simp [hxy]
          have HE := Lib.hid hxy
          clear hxy
          go_wp2_with fail
          go_quiet (fail)
          go_wp2
          go_loopw [6] (fun i wr => ∃ j : Nat, j ≤ x.length ∧ i = .int .i64 j ∧ agree x y j ∧ ∃ n, wr = w.drewN n) (fun i _ => x.length - (intOf i).toNat)
          case atStart => exact ⟨0, Nat.zero_le _, rfl, agree_zero _ _, _, drewN_drewN w nd nq⟩
          case round =>
            clear hb
            obtain ⟨j, hj, rfl, hagj, nj, rfl⟩ := hrel
            by_cases hjl : j < x.length
            · obtain ⟨z, h1⟩ : ∃ z, x[j]? = some z := ⟨x[j], List.getElem?_eq_getElem hjl⟩
              obtain ⟨t, h2⟩ : ∃ t, y[j]? = some t := ⟨y[j]'(by have := HE.out; omega), List.getElem?_eq_getElem _⟩
              obtain ⟨b3, o3, p3, e3, c3⟩ := IntsAt.cell I1.out h1
              obtain ⟨b4, o4, p4, e4, c4⟩ := IntsAt.cell I2.out h2
              injection e3 with e3 e3b e3c
              injection e4 with e4 e4b e4c
              clear e3b e3c e4b e4c
              subst e3 e4
              have hjl2 : j < y.length := by have := HE.out; omega
              have G1 := Lib.hid h1
              have G2 := Lib.hid h2
              clear h1 h2
              have hj0 : (0 : Int) ≤ (j : Int) := Int.natCast_nonneg _
              have hj1 : (j : Int) < (x.length : Int) := by omega
              have hj2 : (j : Int) < (y.length : Int) := by omega
              by_cases hzt : z = t
              · subst hzt
                have hb : (z != z) = false := by simp
                go_wp2_with fail
                go_quiet (fail)
                go_wp2
                go_roundw
                case rel => exact ⟨j + 1, hjl, by go_num, agree_succ hagj G1.out G2.out, _, rfl⟩
                case measure => simp [intOf]; omega
              · have hb : (z != t) = true := by simp [hzt]
                have HN := Lib.hid hzt
                clear hzt
                go_wp2_with fail
                go_quiet (fail)
                go_wp2
                go_ret
                exact ⟨by rw [decide_eq_false (rows_not H1.out H2.out (agree_not G1.out G2.out HN.out))]; rfl, _, drewN_drewN _ _ _⟩
            · have HXY := Lib.hid (agree_all hagj (by omega) HE.out)
              go_wp2
              go_roundw
              case rel => exact ⟨k + 1, hlt, by go_num, rows_succ hag.out H1.out (by rw [HXY.out]; exact H2.out), nj, rfl⟩
              case measure => simp [intOf]; omega
        · have hb : ((x.length : Int) != (y.length : Int)) = true := by simp; omega
          have HN := Lib.hid hxy
          clear hxy
          go_wp2_with fail
          go_quiet (fail)
          go_wp2
          go_ret
          exact ⟨by rw [decide_eq_false (rows_not H1.out H2.out fun h => HN.out (congrArg List.length h))]; rfl, _, drewN_drewN _ _ _⟩
      · have HXY : Hid (xss = yss) := by
          have h := hag.out
          rwa [List.take_of_length_le (by omega), List.take_of_length_le (by have := HL.out; omega)] at h
        go_wp2
        go_ret
        exact ⟨by rw [decide_eq_true HXY.out]; rfl, _, rfl⟩
  · have hne : ((xss.length : Int) != yss.length) = true := by simp; omega
    clear hx hy
    have HL := Lib.hid hl
    clear hl
    go_enter Try.func17, Try.ntmps17
    go_wp2
    go_ret
    exact ⟨by rw [decide_eq_false (fun h => HL.out (congrArg List.length h))]; rfl, 0, rfl⟩
end Go.Proofs.Ythlmjdkpkikcpaa

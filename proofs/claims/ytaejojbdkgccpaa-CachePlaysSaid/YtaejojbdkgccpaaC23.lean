/-
  Same of batches.
-/
import Derived.Test.YtaejojbdkgccpaaC22
namespace Go.Proofs.Ytaejojbdkgccpaa
open Go.RowKit Go.Maps Go.ChangeMaps

theorem keys_succ {xs ys : List BO} {k : Nat} {x y : BO} (h : (xs.take k).map BO.key = (ys.take k).map BO.key) (hx : xs[k]? = some x) (hy : ys[k]? = some y) (e : x.key = y.key) : (xs.take (k + 1)).map BO.key = (ys.take (k + 1)).map BO.key := by
  rw [List.take_add_one, List.take_add_one, List.map_append, List.map_append, h, hx, hy]
  simp [e]
theorem keys_not {xs ys : List BO} {k : Nat} {x y : BO} (hx : xs[k]? = some x) (hy : ys[k]? = some y) (hne : x.key ≠ y.key) : xs.map BO.key ≠ ys.map BO.key := by
  intro h
  have h1 : (xs.map BO.key)[k]? = some x.key := by rw [List.getElem?_map, hx]; rfl
  have h2 : (ys.map BO.key)[k]? = some y.key := by rw [List.getElem?_map, hy]; rfl
  rw [h, h2] at h1
  exact hne (Option.some.inj h1).symm
set_option maxRecDepth 10000 in
set_option maxHeartbeats 4000000 in
theorem same_any (w0 w : World) (F : List HP) (a b : Option Addr) (ca cb : Nat) (bs cs : List (Nat × List Int)) (hn : bs.length ≤ 1000) (hm : cs.length ≤ 1000) (ho1 : ∀ x ∈ bs, x.2.length ≤ 1000) (ho2 : ∀ x ∈ cs, x.2.length ≤ 1000)
    (hs : St w0 (batsP (.slice a bs.length ca) bs :: batsP (.slice b cs.length cb) cs :: F) w) :
    Calls Try.prog 30 #[.slice a bs.length ca, .slice b cs.length cb] w fun e w' => e = .returned (.bool (decide (bs = cs))) ∧ St w0 (batsP (.slice a bs.length ca) bs :: batsP (.slice b cs.length cb) cs :: F) w' := by
  have HS0 := Lib.hid hs
  obtain ⟨⟨xs, rfl⟩, h⟩ := St.ex.1 hs
  obtain ⟨⟨ys, rfl⟩, h⟩ := St.ex.1 h.swap
  dsimp only at h
  have L1 := Lib.hid (show (xs.map BO.key).length = xs.length from List.length_map _)
  have L2 := Lib.hid (show (ys.map BO.key).length = ys.length from List.length_map _)
  rw [L1.out] at h hn HS0 ⊢
  rw [L2.out] at h hm HS0 ⊢
  have hback : ∀ w', St w0 (batsZ (.slice a xs.length ca) xs :: batsZ (.slice b ys.length cb) ys :: F) w' → St w0 (batsP (.slice a xs.length ca) (xs.map BO.key) :: batsP (.slice b ys.length cb) (ys.map BO.key) :: F) w' := fun w' g =>
    St.ex.2 ⟨⟨xs, rfl⟩, St.swap (St.ex.2 ⟨⟨ys, rfl⟩, g.swap⟩)⟩
  have BK := Lib.hid hback
  have O1 := Lib.hid (show ∀ z ∈ xs, z.o.length ≤ 1000 from fun z hz => ho1 z.key (List.mem_map_of_mem hz))
  have O2 := Lib.hid (show ∀ z ∈ ys, z.o.length ≤ 1000 from fun z hz => ho2 z.key (List.mem_map_of_mem hz))
  have H := Lib.hid h.swap
  clear hs h hback ho1 ho2
  by_cases hl : xs.length = ys.length
  rotate_left
  · have hne : ((xs.length : Int) != (ys.length : Int)) = true := by rw [bne_iff_ne]; omega
    have D := Lib.hid (decide_eq_false (show ¬ (xs.map BO.key = ys.map BO.key) from fun e => hl (by rw [← L1.out, ← L2.out, e])))
    clear hl
    go_enter Try.func30, Try.ntmps30
    go_wp2_with fail
    go_ret
    exact ⟨by rw [D.out]; rfl, HS0.out⟩
  have hne : ((xs.length : Int) != (ys.length : Int)) = false := by rw [bne_eq_false_iff_eq]; omega
  have HL := Lib.hid hl
  clear hl HS0
  go_enter Try.func30, Try.ntmps30
  go_wp2_with fail
  go_loopw [5] (fun i wr => ∃ k : Nat, k ≤ xs.length ∧ i = .int .i64 k ∧ Hid ((xs.take k).map BO.key = (ys.take k).map BO.key) ∧ Hid (St w0 (batsZ (.slice a xs.length ca) xs :: batsZ (.slice b ys.length cb) ys :: F) wr)) (fun i _ => xs.length - (intOf i).toNat)
  case atStart => exact ⟨0, Nat.zero_le _, rfl, Lib.hid rfl, H⟩
  case round =>
    clear H
    obtain ⟨k, hk, rfl, HK, HS⟩ := hrel
    by_cases hlt : k < xs.length
    · obtain ⟨x, hx⟩ : ∃ x, xs[k]? = some x := ⟨xs[k], List.getElem?_eq_getElem hlt⟩
      obtain ⟨y, hy⟩ : ∃ y, ys[k]? = some y := ⟨ys[k]'(by have := HL.out; omega), List.getElem?_eq_getElem _⟩
      obtain ⟨b1, o1, p1, xa, xc, e1, g0, g1, xv, _⟩ := bats_at HS.out hx
      obtain ⟨b2, o2, p2, ya, yc, e2, q0, q1, yv, _⟩ := bats_at (HS.out.front 1) hy
      injection e1 with e1 _ e1c
      injection e2 with e2 _ e2c
      subst e1 e2
      have hlt2 : k < ys.length := by have := HL.out; omega
      have i0 : (0 : Int) ≤ (k : Int) := by omega
      have i1 : (k : Int) < (xs.length : Int) := by omega
      have i2 : (k : Int) < (ys.length : Int) := by omega
      have CX : Hid (∀ w1, St w0 (batsZ (.slice (some ⟨b1, o1, none⟩) xs.length ca) xs :: batsZ (.slice (some ⟨b2, o2, none⟩) ys.length cb) ys :: F) w1 → w1.cell? ⟨b1, o1 + k * 2, none⟩ = some (.int .i64 (x.c : Int)) ∧ w1.cell? ⟨b1, o1 + k * 2 + 1, none⟩ = some (.slice xa x.o.length xc) ∧
          w1.cell? ⟨b2, o2 + k * 2, none⟩ = some (.int .i64 (y.c : Int)) ∧ w1.cell? ⟨b2, o2 + k * 2 + 1, none⟩ = some (.slice ya y.o.length yc) ∧ IntsAt w1 (.slice xa x.o.length xc) x.o ∧ IntsAt w1 (.slice ya y.o.length yc) y.o) := Lib.hid fun w1 h1 => by
        obtain ⟨b1', o1', p1', xa', xc', e1, g0, g1, xv', r1⟩ := bats_at h1 hx
        obtain ⟨b2', o2', p2', ya', yc', e2, q0, q1, yv', r2⟩ := bats_at (h1.front 1) hy
        cases e1
        cases e2
        rw [xv] at xv'
        rw [yv] at yv'
        cases xv'
        cases yv'
        exact ⟨g0, g1, q0, q1, r1, r2⟩
      have IN : Hid (∀ w1, St w0 (batsZ (.slice (some ⟨b1, o1, none⟩) xs.length ca) xs :: batsZ (.slice (some ⟨b2, o2, none⟩) ys.length cb) ys :: F) w1 → Calls Try.prog 19 #[.slice xa x.o.length xc, .slice ya y.o.length yc] w1 fun e w' => e = .returned (.bool (decide (x.o = y.o))) ∧ St w0 (batsZ (.slice (some ⟨b1, o1, none⟩) xs.length ca) xs :: batsZ (.slice (some ⟨b2, o2, none⟩) ys.length cb) ys :: F) w') := Lib.hid fun w1 h1 => by
        obtain ⟨_, _, _, _, r1, r2⟩ := CX.out w1 h1
        refine (Ints_any w1 xa ya xc yc x.o y.o r1 r2 (by have := O1.out x (List.mem_of_getElem? hx); omega) (by have := O2.out y (List.mem_of_getElem? hy); omega)).mono ?_
        rintro e w' ⟨rfl, n, rfl⟩
        exact ⟨rfl, h1.drewN n⟩
      have HX := Lib.hid hx
      have HY := Lib.hid hy
      clear hx hy g0 g1 q0 q1 xv yv e1c e2c
      by_cases hc : x.c = y.c
      · have j0 : ((x.c : Int) != (y.c : Int)) = false := by rw [bne_eq_false_iff_eq]; omega
        by_cases hoo : x.o = y.o
        · have E := Lib.hid (decide_eq_true hoo)
          rw [E.out] at IN
          have KN := Lib.hid (keys_succ HK.out HX.out HY.out (show x.key = y.key from by unfold BO.key; rw [hc, hoo]))
          clear hc hoo
          go_wp2_with fail
          refine wp_region_qst (fun w' => St w0 (batsZ (.slice (some ⟨b1, o1, none⟩) xs.length ca) xs :: batsZ (.slice (some ⟨b2, o2, none⟩) ys.length cb) ys :: F) w') (by kernel_rfl) (by kernel_rfl) HS.out.drew ?_
          repeat (
            with_reducible refine wpQuiet_step (fun K hK => ?_)
            go_simp
            first
              | (refine hK _ ?_; clear hK K)
              | (apply Exists.intro
                 refine ⟨fun w1 h1 => ?_, hK _ ?_⟩
                 (first
                  | (with_reducible rfl)
                  | (go_at_call 19; refine (IN.out _ h1).mono ?_; rintro e w' ⟨rfl, h2⟩; exact ⟨rfl, h2⟩)
                  | (obtain ⟨z0, z1, z2, z3, _, _⟩ := CX.out _ h1; go_simp; with_reducible rfl))
                 clear hK K))
          refine wpQuiet_nil ?_
          intro w2 h2
          go_wp2_with fail
          go_roundw
          case rel => exact ⟨k + 1, hlt, by go_num, KN, h2⟩
          case measure => simp [intOf]; omega
        · have E := Lib.hid (decide_eq_false hoo)
          rw [E.out] at IN
          have D := Lib.hid (decide_eq_false (keys_not HX.out HY.out (show x.key ≠ y.key from fun e => hoo (congrArg Prod.snd e))))
          clear hc hoo
          go_wp2_with fail
          refine wp_region_qst (fun w' => St w0 (batsZ (.slice (some ⟨b1, o1, none⟩) xs.length ca) xs :: batsZ (.slice (some ⟨b2, o2, none⟩) ys.length cb) ys :: F) w') (by kernel_rfl) (by kernel_rfl) HS.out.drew ?_
          repeat (
            with_reducible refine wpQuiet_step (fun K hK => ?_)
            go_simp
            first
              | (refine hK _ ?_; clear hK K)
              | (apply Exists.intro
                 refine ⟨fun w1 h1 => ?_, hK _ ?_⟩
                 (first
                  | (with_reducible rfl)
                  | (go_at_call 19; refine (IN.out _ h1).mono ?_; rintro e w' ⟨rfl, h2⟩; exact ⟨rfl, h2⟩)
                  | (obtain ⟨z0, z1, z2, z3, _, _⟩ := CX.out _ h1; go_simp; with_reducible rfl))
                 clear hK K))
          refine wpQuiet_nil ?_
          intro w2 h2
          go_wp2_with fail
          go_ret
          exact ⟨by rw [D.out]; rfl, BK.out _ h2⟩
      · have j0 : ((x.c : Int) != (y.c : Int)) = true := by rw [bne_iff_ne]; omega
        have D := Lib.hid (decide_eq_false (keys_not HX.out HY.out (show x.key ≠ y.key from fun e => hc (congrArg Prod.fst e))))
        clear hc
        go_wp2_with fail
        refine wp_region_qst (fun w' => St w0 (batsZ (.slice (some ⟨b1, o1, none⟩) xs.length ca) xs :: batsZ (.slice (some ⟨b2, o2, none⟩) ys.length cb) ys :: F) w') (by kernel_rfl) (by kernel_rfl) HS.out.drew ?_
        repeat (
          with_reducible refine wpQuiet_step (fun K hK => ?_)
          go_simp
          first
            | (refine hK _ ?_; clear hK K)
            | (apply Exists.intro
               refine ⟨fun w1 h1 => ?_, hK _ ?_⟩
               (first
                | (with_reducible rfl)
                | (go_at_call 19; refine (IN.out _ h1).mono ?_; rintro e w' ⟨rfl, h2⟩; exact ⟨rfl, h2⟩)
                | (obtain ⟨z0, z1, z2, z3, _, _⟩ := CX.out _ h1; go_simp; with_reducible rfl))
               clear hK K))
        refine wpQuiet_nil ?_
        intro w2 h2
        go_wp2_with fail
        go_ret
        exact ⟨by rw [D.out]; rfl, BK.out _ h2⟩
    · have D := Lib.hid (decide_eq_true (show xs.map BO.key = ys.map BO.key from by
        have h1 := HK.out
        rwa [List.take_of_length_le (by omega), List.take_of_length_le (by have := HL.out; omega)] at h1))
      go_wp2_with fail
      go_ret
      exact ⟨by rw [D.out]; rfl, BK.out _ HS.out⟩
end Go.Proofs.Ytaejojbdkgccpaa

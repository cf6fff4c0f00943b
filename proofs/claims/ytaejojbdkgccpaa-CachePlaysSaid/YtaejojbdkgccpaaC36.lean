/-
  Same on a cache and a reference with the same lists. (Printed by mkC36.py.)
-/
import Derived.Test.YtaejojbdkgccpaaC35
namespace Go.Proofs.Ytaejojbdkgccpaa
open Go.RowKit Go.Maps Go.ChangeMaps

set_option maxRecDepth 10000 in
set_option maxHeartbeats 4000000 in
theorem Same_any (w0 w : World) (F : List HP) (c c2 : Nat) (tb : List Cls) (bud : Int) (s : Nat → CL) (ht : tbOk tb) (hok : ∀ k, (s k).ok) (hs : St w0 (cacheP c tb bud s :: refP c2 tb bud s :: F) w) :
    Calls Try.prog 36 #[.pointer (some ⟨c, 0, none⟩), .pointer (some ⟨c2, 0, none⟩), .int .i64 tb.length] w fun e w' => e = .returned (.bool true) ∧ St w0 (cacheP c tb bud s :: refP c2 tb bud s :: F) w' := by
  have H1 := Lib.hid hs
  have OK := Lib.hid hok
  have T := Lib.hid ht
  have ht1 := ht.1
  have hN := ht.2.1
  clear hs hok ht
  go_enter Try.func36, Try.ntmps36
  go_wp2_with fail
  go_loopw [7] (fun i wr => ∃ k : Int, -1 ≤ k ∧ k ≤ tb.length + 1 ∧ i = .int .i64 k ∧ Hid (St w0 (cacheP c tb bud s :: refP c2 tb bud s :: F) wr)) (fun i _ => (tb.length + 1 - intOf i).toNat)
  case atStart => exact ⟨-1, by omega, by omega, rfl, H1⟩
  case round =>
    clear H1
    obtain ⟨k, k1, k2, rfl, HS⟩ := hrel
    by_cases hlt : k ≤ tb.length
    · have d0 : decide (k ≤ (tb.length : Int)) = true := decide_eq_true hlt
      have q0 : IntKind.i64.wrap (k + 1) = k + 1 := by rw [IntWalk.i64_in _ (by omega)]
      by_cases hin : inC tb.length k
      · obtain ⟨e1, hn⟩ := inC_nat hin
        generalize k.toNat = n at *
        subst e1
        have nl : (((s n).objs.length : Int) != ((s n).objs.length : Int)) = false := by simp
        have nm : (((s n).lim : Int) != ((s n).lim : Int)) = false := by simp
        have nw : (((s n).low : Int) != ((s n).low : Int)) = false := by simp
        clear hin
        go_wp2_with fail
        refine (len_in w0 _ _ c tb bud s n hN (OK.out n) HS.out hn).mono ?_
        rintro e w' ⟨rfl, g⟩
        have HS := Lib.hid g
        clear g
        go_wp2_with fail
        refine (rlen_in ht1 HS.out.swap hn).mono ?_
        rintro e w' ⟨rfl, rfl⟩
        go_wp2_with fail
        refine (limit_in w0 _ _ c tb bud s hN HS.out n hn).mono ?_
        rintro e w' ⟨rfl, g⟩
        have HS := Lib.hid g
        clear g
        go_wp2_with fail
        refine (rlimit_in ht1 HS.out.swap hn).mono ?_
        rintro e w' ⟨rfl, rfl⟩
        go_wp2_with fail
        refine (low_in w0 _ _ c tb bud s hN HS.out n hn).mono ?_
        rintro e w' ⟨rfl, g⟩
        have HS := Lib.hid g
        clear g
        go_wp2_with fail
        refine (rlow_in ht1 HS.out.swap hn).mono ?_
        rintro e w' ⟨rfl, rfl⟩
        go_wp2_with fail
        refine (objects_in w0 _ _ c tb bud s n hN (OK.out n) HS.out hn).mono ?_
        rintro e w5 ⟨a5, c5, rfl, g⟩
        have HA := Lib.hid (g.perm (L' := refP c2 tb bud s :: cacheP c tb bud s :: intsP (.slice a5 (s n).objs.length c5) (s n).objs :: F) (by simp only [HP.big]; ac_rfl))
        clear g HS
        go_wp2_with fail
        refine (robjects_in ht1 HA.out hn (OK.out n)).mono ?_
        rintro e w6 ⟨a6, c6, rfl, g⟩
        have G := Lib.hid g
        have I := Lib.hid (Ints_any w6 a5 a6 c5 c6 (s n).objs (s n).objs (HP.arr_reads (g.front 3)) (HP.arr_reads g) (by have := (OK.out n).2.2.2; omega) (by have := (OK.out n).2.2.2; omega))
        rw [decide_eq_true rfl] at I
        clear g HA
        go_wp2_with fail
        refine I.out.mono ?_
        rintro e w7 ⟨rfl, j, rfl⟩
        have HZ := Lib.hid ((G.out.drewN j).perm (L' := intsP (.slice a6 (s n).objs.length c6) (s n).objs :: intsP (.slice a5 (s n).objs.length c5) (s n).objs :: cacheP c tb bud s :: refP c2 tb bud s :: F) (by simp only [HP.big]; ac_rfl)).drop.drop
        clear G I
        go_wp2_with fail
        go_roundw
        case rel => exact ⟨(n : Int) + 1, by omega, by omega, rfl, Lib.hid HZ.out⟩
        case measure => simp [intOf]; omega
      · go_wp2_with fail
        refine (len_out w0 _ _ c tb bud s HS.out k hin).mono ?_
        rintro e w' ⟨rfl, rfl⟩
        go_wp2_with fail
        refine (rlen_out ht1 HS.out.swap hin).mono ?_
        rintro e w' ⟨rfl, rfl⟩
        go_wp2_with fail
        refine (limit_out w0 _ _ c tb bud s HS.out k hin).mono ?_
        rintro e w' ⟨rfl, rfl⟩
        go_wp2_with fail
        refine (rlimit_out ht1 HS.out.swap hin).mono ?_
        rintro e w' ⟨rfl, rfl⟩
        go_wp2_with fail
        refine (low_out w0 _ _ c tb bud s HS.out k hin).mono ?_
        rintro e w' ⟨rfl, rfl⟩
        go_wp2_with fail
        refine (rlow_out ht1 HS.out.swap hin).mono ?_
        rintro e w' ⟨rfl, rfl⟩
        go_wp2_with fail
        refine (objects_out w0 _ _ c tb bud s HS.out k hin).mono ?_
        rintro e w' ⟨rfl, rfl⟩
        go_wp2_with fail
        refine (robjects_out ht1 HS.out.swap hin).mono ?_
        rintro e w' ⟨rfl, rfl⟩
        go_wp2_with fail
        refine (ints_none HS.out).mono ?_
        rintro e w7 ⟨rfl, g⟩
        have HZ := Lib.hid g
        clear g
        go_wp2_with fail
        go_roundw
        case rel => exact ⟨k + 1, by omega, by omega, rfl, HZ⟩
        case measure => simp [intOf]; omega
    · have d0 : decide (k ≤ (tb.length : Int)) = false := decide_eq_false hlt
      have nb : (bytesN tb s tb.length == bytesN tb s tb.length) = true := by simp
      have nv : ∀ v : Bool, (v == v) = true := fun v => by simp
      go_wp2_with fail
      refine (bytes_any w0 _ _ c tb bud s T.out OK.out HS.out).mono ?_
      rintro e w' ⟨rfl, g⟩
      have HS := Lib.hid g
      clear g
      go_wp2_with fail
      refine (rbytes_in T.out OK.out HS.out.swap).mono ?_
      rintro e w3 ⟨rfl, g⟩
      have HS := Lib.hid g.swap
      clear g
      go_wp2_with fail
      refine (over_any w0 _ _ c tb bud s T.out OK.out HS.out).mono ?_
      rintro e w' ⟨rfl, g⟩
      have HS := Lib.hid g
      clear g
      go_wp2_with fail
      refine (rover_in T.out OK.out HS.out.swap).mono ?_
      rintro e w3 ⟨rfl, g⟩
      have HS := Lib.hid g.swap
      clear g
      go_wp2_with fail
      go_ret
      exact ⟨rfl, HS.out⟩
end Go.Proofs.Ytaejojbdkgccpaa

/-
  Plan's own comparison.
-/
import Derived.Test.YtjignbbdgoadjaaH5
import Derived.Test.YtjignbbdgoadjaaH7
namespace Go.Proofs.Ytjignbbdgoadjaa
open Go.RowKit

theorem kindG_range (g : Nat → Int) : 0 ≤ kindG g ∧ kindG g ≤ 2 := by
  unfold kindG
  split
  · omega
  · split <;> omega
theorem RowAt.drewN {w : World} {b off n : Nat} {g : Nat → Int} (h : RowAt w b off n g) (q : Nat) : RowAt (w.drewN q) b off n g := h
theorem TrAt.drewN {w : World} {c b off cap m : Nat} {g : Nat → Int} (h : TrAt w c b off cap m g) (q : Nat) : TrAt (w.drewN q) c b off cap m g := h

theorem quiet_same {P : Program} {f : FuncId} {args : Array Value} {w : World} {n : Nat} {v : Value} (h : Calls P f args (w.drewN n) fun e w' => e = .returned v ∧ w.drewN n = w') :
    Calls P f args (w.drewN n) fun e w'' => e = .returned v ∧ ∃ m, w'' = w.drewN m := h.mono fun _ _ ⟨he, hm⟩ => ⟨he, n, hm.symm⟩
set_option maxRecDepth 10000 in
set_option maxHeartbeats 2000000 in
theorem plan1_any (w : World) (bx c b off cap N : Nat) (s : Nat → Int) (hN : N ≤ 64) (hb : w.cell? ⟨bx, 0, none⟩ = some (.pointer (some ⟨c, 0, none⟩))) (ht : TrAt w c b off cap (16 * N) s) (x y : Nat) (hx : x < N) (hy : y < N) :
    Calls Try.prog 44 #[.int .i64 x, .int .i64 y, .pointer (some ⟨bx, 0, none⟩)] w fun e w' => e = .returned (.int .i64 (cfS s x y)) ∧ ∃ q, w' = w.drewN q := by
  have HX := Lib.hid fun w1 (h1 : TrAt w1 c b off cap (16 * N) s) => of_any w1 c b off cap N hN h1.1 h1.2.1 x hx
  have HY := Lib.hid fun w1 (h1 : TrAt w1 c b off cap (16 * N) s) => of_any w1 c b off cap N hN h1.1 h1.2.1 y hy
  have KX := Lib.hid fun w1 (h1 : TrAt w1 c b off cap (16 * N) s) => kind_any w1 b (off + 16 * x) (cap - 16 * x) _ (h1.2.2.sub (a := 16 * x) (k := 16) (by omega))
  have KY := Lib.hid fun w1 (h1 : TrAt w1 c b off cap (16 * N) s) => kind_any w1 b (off + 16 * y) (cap - 16 * y) _ (h1.2.2.sub (a := 16 * y) (k := 16) (by omega))
  have CX := Lib.hid fun w1 (h1 : TrAt w1 c b off cap (16 * N) s) => count_any w1 b (off + 16 * x) 16 (cap - 16 * x) _ (h1.2.2.sub (a := 16 * x) (k := 16) (by omega)) (by omega) 1
  have CY := Lib.hid fun w1 (h1 : TrAt w1 c b off cap (16 * N) s) => count_any w1 b (off + 16 * y) 16 (cap - 16 * y) _ (h1.2.2.sub (a := 16 * y) (k := 16) (by omega)) (by omega) 1
  have lx := cnt_le 16 fun j => s (16 * x + j) == 1
  have ly := cnt_le 16 fun j => s (16 * y + j) == 1
  have rx := kindG_range fun j => s (16 * x + j)
  have ry := kindG_range fun j => s (16 * y + j)
  have hcf : cfS s x y = if (kindG fun j => s (16 * x + j)) - (kindG fun j => s (16 * y + j)) ≠ 0 then (kindG fun j => s (16 * x + j)) - (kindG fun j => s (16 * y + j)) else
    if ((cnt 16 fun j => s (16 * x + j) == 1 : Nat) : Int) - ((cnt 16 fun j => s (16 * y + j) == 1 : Nat) : Int) ≠ 0 then ((cnt 16 fun j => s (16 * x + j) == 1 : Nat) : Int) - ((cnt 16 fun j => s (16 * y + j) == 1 : Nat) : Int) else (y : Int) - (x : Int) := rfl
  rw [hcf]
  clear hcf
  generalize (kindG fun j => s (16 * x + j)) = kx at *
  generalize (kindG fun j => s (16 * y + j)) = ky at *
  generalize (cnt 16 fun j => s (16 * x + j) == 1) = ux at *
  generalize (cnt 16 fun j => s (16 * y + j) == 1) = uy at *
  have HT := Lib.hid ht
  clear ht
  have w1 : IntKind.i64.wrap (kx - ky) = kx - ky := IntWalk.i64_in _ (by omega)
  by_cases h1 : kx - ky ≠ 0
  · rw [if_pos h1]
    have b1 : (kx - ky != 0) = true := by rw [bne_iff_ne]; exact h1
    clear h1
    go_enter Try.func44, Try.ntmps44
    go_wp2_with fail
    go_quiet (first | (go_at_call_of 42 (Value.int .i64 x); exact quiet_same (HX.out _ (HT.out.drewN _))) | (go_at_call_of 42 (Value.int .i64 y); exact quiet_same (HY.out _ (HT.out.drewN _))))
    go_wp2_with fail
    refine (KX.out _ (HT.out.drewN nq)).mono ?_
    rintro e w' ⟨rfl, rfl⟩
    go_wp2_with fail
    refine (KY.out _ (HT.out.drewN nq)).mono ?_
    rintro e w' ⟨rfl, rfl⟩
    go_wp2_with fail
    go_ret
    exact ⟨rfl, nq, rfl⟩
  rw [if_neg h1]
  have b1 : (kx - ky != 0) = false := by rw [bne_eq_false_iff_eq]; omega
  by_cases h2 : (ux : Int) - (uy : Int) ≠ 0
  · rw [if_pos h2]
    have b2 : ((ux : Int) - (uy : Int) != 0) = true := by rw [bne_iff_ne]; exact h2
    clear h1 h2
    go_enter Try.func44, Try.ntmps44
    go_wp2_with fail
    go_quiet (first | (go_at_call_of 42 (Value.int .i64 x); exact quiet_same (HX.out _ (HT.out.drewN _))) | (go_at_call_of 42 (Value.int .i64 y); exact quiet_same (HY.out _ (HT.out.drewN _))))
    go_wp2_with fail
    refine (KX.out _ (HT.out.drewN nq)).mono ?_
    rintro e w' ⟨rfl, rfl⟩
    go_wp2_with fail
    refine (KY.out _ (HT.out.drewN nq)).mono ?_
    rintro e w' ⟨rfl, rfl⟩
    go_wp2_with fail
    refine (CX.out _ (HT.out.drewN nq)).mono ?_
    rintro e w' ⟨rfl, rfl⟩
    go_wp2_with fail
    refine (CY.out _ (HT.out.drewN nq)).mono ?_
    rintro e w' ⟨rfl, rfl⟩
    go_wp2_with fail
    go_ret
    exact ⟨rfl, nq, rfl⟩
  · rw [if_neg h2]
    have b2 : ((ux : Int) - (uy : Int) != 0) = false := by rw [bne_eq_false_iff_eq]; omega
    clear h1 h2
    go_enter Try.func44, Try.ntmps44
    go_wp2_with fail
    go_quiet (first | (go_at_call_of 42 (Value.int .i64 x); exact quiet_same (HX.out _ (HT.out.drewN _))) | (go_at_call_of 42 (Value.int .i64 y); exact quiet_same (HY.out _ (HT.out.drewN _))))
    go_wp2_with fail
    refine (KX.out _ (HT.out.drewN nq)).mono ?_
    rintro e w' ⟨rfl, rfl⟩
    go_wp2_with fail
    refine (KY.out _ (HT.out.drewN nq)).mono ?_
    rintro e w' ⟨rfl, rfl⟩
    go_wp2_with fail
    refine (CX.out _ (HT.out.drewN nq)).mono ?_
    rintro e w' ⟨rfl, rfl⟩
    go_wp2_with fail
    refine (CY.out _ (HT.out.drewN nq)).mono ?_
    rintro e w' ⟨rfl, rfl⟩
    go_wp2_with fail
    go_ret
    exact ⟨rfl, nq, rfl⟩
end Go.Proofs.Ytjignbbdgoadjaa

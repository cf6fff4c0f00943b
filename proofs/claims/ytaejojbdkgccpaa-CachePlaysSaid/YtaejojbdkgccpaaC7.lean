/-
  Objects, Len, Limit, Low.
-/
import Derived.Test.YtaejojbdkgccpaaC6
namespace Go.Proofs.Ytaejojbdkgccpaa
open Go.RowKit Go.Maps Go.ChangeMaps

theorem updC_self (s : Nat → CL) (k : Nat) : updC s k (s k) = s := by
  funext i
  unfold updC
  split
  · rename_i h; rw [h]
  · rfl
/-- of where there is no such class -/
theorem of_out (w0 w : World) (F : List HP) (c : Nat) (tb : List Cls) (bud : Int) (s : Nat → CL) (hs : St w0 (cacheP c tb bud s :: F) w) (k : Int) (hk : ¬ inC tb.length k) :
    Calls Try.prog 39 #[.pointer (some ⟨c, 0, none⟩), .int .i64 k] w fun e w' => e = .returned (.pointer none) ∧ w = w' := by
  obtain ⟨D, _, h⟩ := cache_open hs
  obtain ⟨c0, _, c2⟩ := St.cells3 h
  exact of_none w c D.bm tb.length D.tcap D.ta c0 c2 k hk
theorem cache_map {w0 w : World} {F : List HP} {c : Nat} {tb : List Cls} {bud : Int} {s : Nat → CL} (hs : St w0 (cacheP c tb bud s :: F) w) : ∃ bm, w.cell? ⟨c, 2, none⟩ = some (.map (some bm)) := by
  obtain ⟨D, _, h⟩ := cache_open hs
  exact ⟨D.bm, (St.cells3 h).2.2⟩

theorem limit_in (w0 w : World) (F : List HP) (c : Nat) (tb : List Cls) (bud : Int) (s : Nat → CL) (hN : tb.length ≤ 40) (hs : St w0 (cacheP c tb bud s :: F) w) (k : Nat) (hk : k < tb.length) :
    Calls Try.prog 23 #[.pointer (some ⟨c, 0, none⟩), .int .i64 k] w fun e w' => e = .returned (.int .i64 (s k).lim) ∧ St w0 (cacheP c tb bud s :: F) w' := by
  have H := Lib.hid (of_in w0 w F c tb bud s hN hs k hk)
  clear hs
  go_enter Try.func23, Try.ntmps23
  go_wp2_with fail
  refine H.out.mono ?_
  rintro e w' ⟨b, D, R, rfl, g, back⟩
  have B := Lib.hid (back (s k) F w' g)
  rw [updC_self] at B
  obtain ⟨a, cap, g1⟩ := lst_open g
  obtain ⟨c0, c1, c2⟩ := g1.cells3
  clear back
  go_wp2_with fail
  go_ret
  exact ⟨rfl, B.out⟩
theorem low_in (w0 w : World) (F : List HP) (c : Nat) (tb : List Cls) (bud : Int) (s : Nat → CL) (hN : tb.length ≤ 40) (hs : St w0 (cacheP c tb bud s :: F) w) (k : Nat) (hk : k < tb.length) :
    Calls Try.prog 24 #[.pointer (some ⟨c, 0, none⟩), .int .i64 k] w fun e w' => e = .returned (.int .i64 (s k).low) ∧ St w0 (cacheP c tb bud s :: F) w' := by
  have H := Lib.hid (of_in w0 w F c tb bud s hN hs k hk)
  clear hs
  go_enter Try.func24, Try.ntmps24
  go_wp2_with fail
  refine H.out.mono ?_
  rintro e w' ⟨b, D, R, rfl, g, back⟩
  have B := Lib.hid (back (s k) F w' g)
  rw [updC_self] at B
  obtain ⟨a, cap, g1⟩ := lst_open g
  obtain ⟨c0, c1, c2⟩ := g1.cells3
  clear back
  go_wp2_with fail
  go_ret
  exact ⟨rfl, B.out⟩
theorem objects_in (w0 w : World) (F : List HP) (c : Nat) (tb : List Cls) (bud : Int) (s : Nat → CL) (k : Nat) (hN : tb.length ≤ 40) (hok : (s k).ok) (hs : St w0 (cacheP c tb bud s :: F) w) (hk : k < tb.length) :
    Calls Try.prog 17 #[.pointer (some ⟨c, 0, none⟩), .int .i64 (k : Nat)] w fun e w' => ∃ a cap, e = .returned (.slice a (s k).objs.length cap) ∧ St w0 (intsP (.slice a (s k).objs.length cap) (s k).objs :: cacheP c tb bud s :: F) w' := by
  have H := Lib.hid (of_in w0 w F c tb bud s hN hs k hk)
  have hl := hok.2.2.2
  clear hs hok
  go_enter Try.func17, Try.ntmps17
  go_wp2_with fail
  refine H.out.mono ?_
  rintro e w' ⟨b, D, R, rfl, g, back⟩
  have B := Lib.hid (back (s k))
  rw [updC_self] at B
  obtain ⟨a, cap, g1⟩ := lst_open g
  obtain ⟨c0, c1, c2⟩ := g1.cells3
  have hr := HP.arr_reads (g1.front 1)
  clear back
  go_wp2_with fail
  refine (sclone_any w0 w' _ a _ cap _ g1 hr (intsC_one _) (by omega)).mono ?_
  rintro e w2 ⟨a2, cap2, rfl, g2⟩
  go_wp2_with fail
  go_ret
  refine ⟨a2, cap2, rfl, ?_⟩
  have g3 : St w0 (HP.blk b #[.slice a (s k).objs.length cap, .int .i64 (s k).lim, .int .i64 (s k).low] 72 :: intsP (.slice a (s k).objs.length cap) (s k).objs :: headP c tb.length bud D :: HP.arr 43 3 (.slice D.ta tb.length D.tcap) tb.length (clsC tb) :: (R ++ (intsP (.slice a2 (s k).objs.length cap2) (s k).objs :: F))) w2 :=
    g2.perm (by simp only [HP.big, HP.big_append, intsP]; ac_rfl)
  exact (B.out _ _ (lst_shut g3)).swap
theorem limit_out (w0 w : World) (F : List HP) (c : Nat) (tb : List Cls) (bud : Int) (s : Nat → CL) (hs : St w0 (cacheP c tb bud s :: F) w) (k : Int) (hk : ¬ inC tb.length k) :
    Calls Try.prog 23 #[.pointer (some ⟨c, 0, none⟩), .int .i64 k] w fun e w' => e = .returned (.int .i64 0) ∧ w = w' := by
  have H := Lib.hid (of_out w0 w F c tb bud s hs k hk)
  clear hs hk
  go_enter Try.func23, Try.ntmps23
  go_wp2_with fail
  refine H.out.mono ?_
  rintro e w' ⟨rfl, rfl⟩
  go_wp2_with fail
  go_ret
  exact ⟨rfl, rfl⟩
theorem low_out (w0 w : World) (F : List HP) (c : Nat) (tb : List Cls) (bud : Int) (s : Nat → CL) (hs : St w0 (cacheP c tb bud s :: F) w) (k : Int) (hk : ¬ inC tb.length k) :
    Calls Try.prog 24 #[.pointer (some ⟨c, 0, none⟩), .int .i64 k] w fun e w' => e = .returned (.int .i64 0) ∧ w = w' := by
  have H := Lib.hid (of_out w0 w F c tb bud s hs k hk)
  clear hs hk
  go_enter Try.func24, Try.ntmps24
  go_wp2_with fail
  refine H.out.mono ?_
  rintro e w' ⟨rfl, rfl⟩
  go_wp2_with fail
  go_ret
  exact ⟨rfl, rfl⟩
theorem objects_out (w0 w : World) (F : List HP) (c : Nat) (tb : List Cls) (bud : Int) (s : Nat → CL) (hs : St w0 (cacheP c tb bud s :: F) w) (k : Int) (hk : ¬ inC tb.length k) :
    Calls Try.prog 17 #[.pointer (some ⟨c, 0, none⟩), .int .i64 k] w fun e w' => e = .returned (.slice none 0 0) ∧ w = w' := by
  have H := Lib.hid (of_out w0 w F c tb bud s hs k hk)
  clear hs hk
  go_enter Try.func17, Try.ntmps17
  go_wp2_with fail
  refine H.out.mono ?_
  rintro e w' ⟨rfl, rfl⟩
  go_wp2_with fail
  go_ret
  exact ⟨rfl, rfl⟩
end Go.Proofs.Ytaejojbdkgccpaa

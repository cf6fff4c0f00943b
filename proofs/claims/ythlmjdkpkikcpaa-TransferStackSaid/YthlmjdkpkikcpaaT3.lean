/-
  The other calls of a cache of package transfer.
-/
import Derived.Test.YthlmjdkpkikcpaaT2
namespace Go.Proofs.Ythlmjdkpkikcpaa
open Go.RowKit

theorem insert_arg (w0 w : World) (F : List HP) (c : Nat) (x : TC) (hx : x.ok) (hs : St w0 (tcache c x :: F) w) (a : Option Addr) (cap : Nat) (n : Nat)
    (hl : ¬ (n : Int) = x.batch) (_hn : (n : Int) ≤ 9223372036854775807) :
    Calls Try.prog 12 #[.pointer (some ⟨c, 0, none⟩), .slice a n cap] w fun e w' => e = .returned (.tuple #[.bool false, .int .i64 1]) ∧ St w0 (tcache c x :: F) w' := by
  have HS := Lib.hid hs
  obtain ⟨x1, x2, x3, x4, x5, x6, x7, x8⟩ := hx
  obtain ⟨a2, cap2, vs, hvl, hs⟩ := tcache_open hs
  obtain ⟨c0, c1, c2, c3⟩ := hs.cells4
  have hb : ((n : Int) != x.batch) = true := by simp [hl]
  clear hl
  go_enter Try.func12, Try.ntmps12
  go_wp2_with (go_at_call 29; refine (made_true _ _ _ c0 x1).mono ?_; rintro e w' ⟨rfl, rfl⟩)
  go_ret2
  exact ⟨rfl, HS.out⟩
theorem insert_full (w0 w : World) (F : List HP) (c : Nat) (x : TC) (hx : x.ok) (hs : St w0 (tcache c x :: F) w) (a : Option Addr) (cap : Nat) (n : Nat)
    (hl : (n : Int) = x.batch) (hroom : ¬ (x.bs.length : Int) < x.room) :
    Calls Try.prog 12 #[.pointer (some ⟨c, 0, none⟩), .slice a n cap] w fun e w' => e = .returned (.tuple #[.bool false, .int .i64 0]) ∧ St w0 (tcache c x :: F) w' := by
  have HS := Lib.hid hs
  obtain ⟨x1, x2, x3, x4, x5, x6, x7, x8⟩ := hx
  obtain ⟨a2, cap2, vs, hvl, hs⟩ := tcache_open hs
  obtain ⟨c0, c1, c2, c3⟩ := hs.cells4
  have hb : ((n : Int) != x.batch) = false := by simp [hl]
  have hd : decide (x.room ≤ (x.bs.length : Int)) = true := by simp; omega
  clear hl hroom
  go_enter Try.func12, Try.ntmps12
  go_wp2_with (go_at_call 29; refine (made_true _ _ _ c0 x1).mono ?_; rintro e w' ⟨rfl, rfl⟩)
  go_quiet (fail)
  go_wp2
  go_ret2
  exact ⟨rfl, HS.out.drewN _⟩

/-- Insert of a cache that was made -/
theorem insert_any (w0 w : World) (F : List HP) (c : Nat) (x : TC) (hx : x.ok) (hs : St w0 (tcache c x :: F) w) (a : Option Addr) (cap : Nat) (ys : List Int)
    (hr : IntsAt w (.slice a ys.length cap) ys) (hn : (ys.length : Int) ≤ 9223372036854775807) :
    Calls Try.prog 12 #[.pointer (some ⟨c, 0, none⟩), .slice a ys.length cap] w fun e w' => e = .returned (.tuple #[.bool (x.insB ys), .int .i64 (x.insE ys)]) ∧ St w0 (tcache c (x.ins ys) :: F) w' := by
  by_cases hl : (ys.length : Int) = x.batch
  · by_cases hroom : (x.bs.length : Int) < x.room
    · refine (insert_some w0 w F c x hx hs a cap ys hr hl hroom).mono fun e w' h => ?_
      simpa [TC.insB, TC.insE, hl, hroom] using h
    · refine (insert_full w0 w F c x hx hs a cap _ hl hroom).mono fun e w' h => ?_
      simpa [TC.insB, TC.insE, TC.ins, hl, hroom] using h
  · refine (insert_arg w0 w F c x hx hs a cap _ hl hn).mono fun e w' h => ?_
    simpa [TC.insB, TC.insE, TC.ins, hl] using h

theorem remove_none (w0 w : World) (F : List HP) (c : Nat) (x : TC) (hx : x.ok) (hs : St w0 (tcache c x :: F) w) (h0 : x.bs = []) :
    Calls Try.prog 13 #[.pointer (some ⟨c, 0, none⟩)] w fun e w' => e = .returned (.tuple #[.slice none 0 0, .int .i64 4]) ∧ St w0 (tcache c x :: F) w' := by
  have HS := Lib.hid hs
  obtain ⟨x1, x2, x3, x4, x5, x6, x7, x8⟩ := hx
  obtain ⟨a2, cap2, vs, hvl, hs⟩ := tcache_open hs
  obtain ⟨c0, c1, c2, c3⟩ := hs.cells4
  have hb : ((x.bs.length : Int) == 0) = true := by simp [h0]
  clear h0
  go_enter Try.func13, Try.ntmps13
  go_wp2_with (go_at_call 29; refine (made_true _ _ _ c0 x1).mono ?_; rintro e w' ⟨rfl, rfl⟩)
  go_ret2
  exact ⟨rfl, HS.out⟩
theorem HP.arr_some {w0 w : World} {F : List HP} {t : TypeId} {v : Value} {n : Nat} {xs : List Value} (h : St w0 (HP.arr t 1 v n xs :: F) w) (hn : 0 < n) :
    ∃ b off cap, v = .slice (some ⟨b, off, none⟩) n cap ∧ n ≤ cap ∧ ∀ i x, xs[i]? = some x → w.cell? ⟨b, off + i, none⟩ = some x := (HP.arr_reads h).lies hn
theorem remove_end {w0 w : World} {F : List HP} {c : Nat} {batch room low m : Int} {bi : List (List Int)} {b1 : List Int} {u v1 : Value} {vi : List Value} {a : Addr} {cap : Nat} (hvi : vi.length = bi.length) (hm : m = min low bi.length) (hcap : bi.length + 1 ≤ cap)
    (h : St w0 (HP.blk c #[.int .i64 batch, .int .i64 room, .int .i64 low, u] 56 :: HP.arr 27 1 (.slice (some a) (bi.length + 1) cap) (bi.length + 1) (vi ++ [v1]) :: rowsC vi bi :: ints v1 b1 :: F) w) :
    St w0 (ints v1 b1 :: tcache c ⟨batch, room, min low bi.length, bi⟩ :: F) ((w.setCell ⟨c, 3, none⟩ (.slice (some a) bi.length cap)).setCell ⟨c, 2, none⟩ (.int .i64 m)) := by
  subst hm
  have h1 : St w0 (HP.blk c #[.int .i64 batch, .int .i64 room, .int .i64 (min low bi.length), .slice (some a) bi.length cap] 56 :: _) _ := (h.set 3 _).set 2 _
  have h2 := h1.swap.mono (HP.arr_take (k := bi.length) (by omega) hcap)
  rw [show (vi ++ [v1]).take (bi.length * 1) = vi by rw [Nat.mul_one, ← hvi]; exact List.take_left] at h2
  exact (tcache_shut h2.swap).swap
set_option maxHeartbeats 1000000 in
theorem remove_some (w0 w : World) (F : List HP) (c : Nat) (batch room low : Int) (bi : List (List Int)) (b1 : List Int) (h1 : 1 ≤ batch) (h2 : bi.length ≤ 8) (_h3 : 0 ≤ low) (h4 : low ≤ bi.length + 1) (hs : St w0 (tcache c ⟨batch, room, low, bi ++ [b1]⟩ :: F) w) :
    Calls Try.prog 13 #[.pointer (some ⟨c, 0, none⟩)] w fun e w' => ∃ a cap, e = .returned (.tuple #[.slice a b1.length cap, .int .i64 0]) ∧ St w0 (ints (.slice a b1.length cap) b1 :: tcache c ⟨batch, room, min low bi.length, bi⟩ :: F) w' := by
  obtain ⟨a2, cap2, vs, hvl, hs⟩ := tcache_open hs
  simp only [List.length_append, List.length_cons, List.length_nil, Nat.zero_add] at hvl hs
  obtain ⟨vi, v1, rfl⟩ : ∃ vi v1, vs = vi ++ [v1] := by
    rcases List.eq_nil_or_concat vs with h | ⟨vi, v1, h⟩
    · subst h; simp at hvl
    · exact ⟨vi, v1, by simpa using h⟩
  have hvi : vi.length = bi.length := by simpa using hvl
  clear hvl
  rw [rowsC_snoc _ _ _ _ hvi] at hs
  have hs := (St.two.1 (hs.pick 3 [2, 0, 1])).pick 4 [2, 3, 0, 1]
  obtain ⟨a1, p1, rfl⟩ := (HP.arr_reads (hs.front 3)).form
  obtain ⟨b, off, cap, hv, hcap, hcells⟩ := HP.arr_some (hs.front 1) (by omega)
  cases hv
  have cl := hcells bi.length (.slice a1 b1.length p1) (by rw [List.getElem?_append_right (by omega)]; simp [hvi])
  clear hcells
  obtain ⟨c0, c1, c2, c3⟩ := hs.cells4
  have f3 := hs.frozen 3
  have f2 := hs.frozen 2
  have hb : (((bi.length + 1 : Nat) : Int) == 0) = false := by simp; omega
  go_enter Try.func13, Try.ntmps13
  go_wp2_with (go_at_call 29; refine (made_true _ _ _ c0 h1).mono ?_; rintro e w' ⟨rfl, rfl⟩)
  all_goals go_ret2
  all_goals refine ⟨_, _, rfl, remove_end hvi ?_ hcap hs⟩
  all_goals omega
end Go.Proofs.Ythlmjdkpkikcpaa

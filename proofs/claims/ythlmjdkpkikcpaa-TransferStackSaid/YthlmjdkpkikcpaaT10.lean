/-
  A call of a cache of package transfer, as the laws make it: do, made.
-/
import Derived.Test.YthlmjdkpkikcpaaT9
namespace Go.Proofs.Ythlmjdkpkikcpaa
open Go.RowKit

def TC.rem (x : TC) : TC := if x.bs = [] then x else ⟨x.batch, x.room, min x.low ((x.bs.length - 1 : Nat) : Int), x.bs.dropLast⟩
def TC.tickN (x : TC) : Nat := ((x.low + 1) / 2).toNat
def TC.tick (x : TC) : TC := ⟨x.batch, x.room, ((x.bs.length - x.tickN : Nat) : Int), x.bs.drop x.tickN⟩
def TC.drain (x : TC) : TC := ⟨x.batch, x.room, 0, []⟩
def TC.act (x : TC) (k : Int) (l : List Int) : TC := if k = 0 then x.ins l else if k = 1 then x.rem else if k = 2 then x.tick else if k = 3 then x.drain else x
def TC.acts (x : TC) : List ActV → TC
  | [] => x
  | a :: l => (x.act a.kind a.l).acts l

theorem TC.ok.ins {x : TC} (h : x.ok) (l : List Int) : (x.ins l).ok := by
  obtain ⟨x1, x2, x3, x4, x5, x6, x7, x8⟩ := h
  unfold TC.ins
  split
  · rename_i hc
    refine ⟨x1, x2, x3, x4, x5, ?_, ?_, fun b hb => ?_⟩
    · simp; omega
    · simp; omega
    · rcases List.mem_append.1 hb with h | h
      · exact x8 b h
      · simp at h; subst h; exact hc.1
  · exact ⟨x1, x2, x3, x4, x5, x6, x7, x8⟩
theorem TC.ok.rem {x : TC} (h : x.ok) : x.rem.ok := by
  have hx := h
  obtain ⟨x1, x2, x3, x4, x5, x6, x7, x8⟩ := h
  unfold TC.rem
  split
  · exact hx
  · rename_i hne
    have hp : 0 < x.bs.length := List.length_pos_iff.2 hne
    refine ⟨x1, x2, x3, x4, ?_, ?_, ?_, fun b hb => x8 b (List.dropLast_subset _ hb)⟩
    · show 0 ≤ min x.low ((x.bs.length - 1 : Nat) : Int); omega
    · show min x.low ((x.bs.length - 1 : Nat) : Int) ≤ (x.bs.dropLast.length : Int); rw [List.length_dropLast]; omega
    · show (x.bs.dropLast.length : Int) ≤ x.room; rw [List.length_dropLast]; omega
theorem TC.ok.tickN {x : TC} (h : x.ok) : (x.tickN : Int) = (x.low + 1) / 2 ∧ x.tickN ≤ x.bs.length := by
  obtain ⟨x1, x2, x3, x4, x5, x6, x7, x8⟩ := h
  unfold TC.tickN
  omega
theorem TC.ok.tick {x : TC} (h : x.ok) : x.tick.ok := by
  have hn := h.tickN.2
  obtain ⟨x1, x2, x3, x4, x5, x6, x7, x8⟩ := h
  refine ⟨x1, x2, x3, x4, ?_, ?_, ?_, fun b hb => x8 b (List.mem_of_mem_drop hb)⟩
  · show (0 : Int) ≤ ((x.bs.length - x.tickN : Nat) : Int); omega
  · show ((x.bs.length - x.tickN : Nat) : Int) ≤ ((x.bs.drop x.tickN).length : Int); rw [List.length_drop]; omega
  · show ((x.bs.drop x.tickN).length : Int) ≤ x.room; rw [List.length_drop]; omega
theorem TC.ok.drain {x : TC} (h : x.ok) : x.drain.ok := by
  obtain ⟨x1, x2, x3, x4, x5, x6, x7, x8⟩ := h
  exact ⟨x1, x2, x3, x4, Int.le_refl 0, Int.le_refl 0, x3, fun b hb => by cases hb⟩
theorem TC.ok.act {x : TC} (h : x.ok) (k : Int) (l : List Int) : (x.act k l).ok := by
  unfold TC.act
  split
  · exact h.ins l
  · split
    · exact h.rem
    · split
      · exact h.tick
      · split
        · exact h.drain
        · exact h

theorem tick_x (w0 w : World) (F : List HP) (c : Nat) (x : TC) (hx : x.ok) (hs : St w0 (tcache c x :: F) w) :
    Calls Try.prog 15 #[.pointer (some ⟨c, 0, none⟩)] w fun e w' => ∃ a cap, e = .returned (.slice a x.tickN cap) ∧ St w0 (rows (.slice a x.tickN cap) (x.bs.take x.tickN) :: tcache c x.tick :: F) w' :=
  tick_any w0 w F c x hx x.tickN hx.tickN.1 hs
theorem remove_x (w0 w : World) (F : List HP) (c : Nat) (x : TC) (hx : x.ok) (hs : St w0 (tcache c x :: F) w) :
    Calls Try.prog 13 #[.pointer (some ⟨c, 0, none⟩)] w fun e w' => ∃ v n, e = .returned (.tuple #[v, .int .i64 n]) ∧ St w0 (tcache c x.rem :: F) w' := by
  by_cases h0 : x.bs = []
  · refine (remove_none w0 w F c x hx hs h0).mono ?_
    rintro e w' ⟨rfl, h⟩
    exact ⟨_, _, rfl, by rw [show x.rem = x by simp [TC.rem, h0]]; exact h⟩
  · rcases List.eq_nil_or_concat x.bs with h | ⟨bi, b1, h⟩
    · exact absurd h h0
    · have h : x.bs = bi ++ [b1] := by simpa using h
      have e : x = ⟨x.batch, x.room, x.low, bi ++ [b1]⟩ := by cases x; simp only at h; rw [h]
      obtain ⟨x1, x2, x3, x4, x5, x6, x7, x8⟩ := hx
      rw [h, List.length_append, List.length_singleton] at x6 x7
      rw [e] at hs
      refine (remove_some w0 w F c x.batch x.room x.low bi b1 x1 (by omega) x5 (by omega) hs).mono ?_
      rintro e1 w' ⟨a, cap, rfl, h1⟩
      refine ⟨_, _, rfl, ?_⟩
      have e2 : x.rem = ⟨x.batch, x.room, min x.low bi.length, bi⟩ := by simp [TC.rem, h]
      rw [e2]
      exact h1.drop

set_option maxHeartbeats 1000000 in
theorem do_any (w0 w : World) (F : List HP) (c : Nat) (x : TC) (hx : x.ok) (hs : St w0 (tcache c x :: F) w) (k : Int) (a : Option Addr) (cap : Nat) (l : List Int) (hl : IntsAt w (.slice a l.length cap) l) (hn : l.length ≤ 9223372036854775807) :
    Calls Try.prog 20 #[.pointer (some ⟨c, 0, none⟩), .agg #[.int .i64 k, .slice a l.length cap]] w fun e w' => e = .returned (.tuple #[]) ∧ St w0 (tcache c (x.act k l) :: F) w' := by
  have hs1 := (hs.allocRow #[.int .i64 k, .slice a l.length cap] 42).swap
  have hl1 := hl.alloc (.cells #[.int .i64 k, .slice a l.length cap] 42)
  have HL := Lib.hid hl1
  clear hl hl1
  by_cases h0 : k = 0
  · subst h0
    go_enter Try.func20, Try.ntmps20
    go_wp2_with fail
    refine (insert_any w0 _ _ c x hx hs1 a cap l HL.out (by omega)).mono ?_
    rintro e w1 ⟨rfl, h1⟩
    go_wp2_with fail
    go_end0
    exact ⟨rfl, h1.pick 2 [0]⟩
  by_cases h1 : k = 1
  · subst h1
    clear h0
    go_enter Try.func20, Try.ntmps20
    go_wp2_with fail
    refine (remove_x w0 _ _ c x hx hs1).mono ?_
    rintro e w1 ⟨v, n, rfl, h1⟩
    go_wp2_with fail
    go_end0
    exact ⟨rfl, h1.pick 2 [0]⟩
  by_cases h2 : k = 2
  · subst h2
    clear h0 h1
    go_enter Try.func20, Try.ntmps20
    go_wp2_with fail
    refine (tick_x w0 _ _ c x hx hs1).mono ?_
    rintro e w1 ⟨v, n, rfl, h1⟩
    go_wp2_with fail
    go_end0
    exact ⟨rfl, h1.pick 3 [1]⟩
  by_cases h3 : k = 3
  · subst h3
    clear h0 h1 h2
    go_enter Try.func20, Try.ntmps20
    go_wp2_with fail
    refine (drain_any w0 _ _ c x hx hs1).mono ?_
    rintro e w1 ⟨v, n, rfl, h1⟩
    go_wp2_with fail
    go_end0
    exact ⟨rfl, h1.pick 3 [1]⟩
  have b0 : (k == 0) = false := by simpa using h0
  have b1 : (k == 1) = false := by simpa using h1
  have b2 : (k == 2) = false := by simpa using h2
  have b3 : (k == 3) = false := by simpa using h3
  have e : x.act k l = x := by simp [TC.act, h0, h1, h2, h3]
  have HE := Lib.hid e
  clear h0 h1 h2 h3 e
  go_enter Try.func20, Try.ntmps20
  go_wp2_with fail
  go_end0
  exact ⟨rfl, by rw [HE.out]; exact hs1.pick 2 [0]⟩
end Go.Proofs.Ythlmjdkpkikcpaa

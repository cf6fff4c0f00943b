/-
  The reference's cache: Tick, Drain, Len, Low, Objects, New, Clone.
-/
import Derived.Test.YthlmjdkpkikcpaaT12
namespace Go.Proofs.Ythlmjdkpkikcpaa
open Go.RowKit

/-- the low of a reference's cache is stored -/
theorem rcache_low {w0 w : World} {F : List HP} {c : Nat} {x : TC} {low : Int} (h : St w0 (rcache c x :: F) w) : St w0 (rcache c ⟨x.batch, x.room, low, x.bs⟩ :: F) (w.setCell ⟨c, 3, none⟩ (.int .i64 low)) := by
  obtain ⟨a, cap, vs, hvl, h⟩ := rcache_open h
  exact rcache_shut (h.set 3 (.int .i64 low))

set_option maxHeartbeats 1000000 in
theorem rtick_x (w0 w : World) (F : List HP) (c : Nat) (x : TC) (hx : x.ok) (hs : St w0 (rcache c x :: F) w) :
    Calls Try.prog 38 #[.pointer (some ⟨c, 0, none⟩)] w fun e w' => ∃ a cap, e = .returned (.slice a x.tickN cap) ∧ St w0 (rows (.slice a x.tickN cap) (x.bs.take x.tickN) :: rcache c x.tick :: F) w' := by
  have hn := hx.tickN
  have HF := Lib.hid (first_any w0 w F c x hx x.tickN hn.2 hs)
  have HT := Lib.hid hn.1
  have hok := Lib.hid hx.tick
  obtain ⟨x1, x2, x3, x4, x5, x6, x7, x8⟩ := hx
  obtain ⟨a2, cap2, vs, hvl, hs⟩ := rcache_open hs
  obtain ⟨c0, c1, c2, c3⟩ := hs.cells4
  have hle := hn.2
  have hlb : x.low ≤ 8 := by omega
  clear hn
  go_enter Try.func38, Try.ntmps38
  go_wp2_with (go_at_call 35; refine (rmade_true _ _ _ c0 x1).mono ?_; rintro e w' ⟨rfl, rfl⟩)
  rw [← HT.out]
  refine HF.out.mono ?_
  rintro e w1 ⟨a, cap, rfl, h1⟩
  have hs2 := Lib.hid h1
  obtain ⟨a3, cap3, us, hul, h2⟩ := rcache_open (h1.swap)
  have hlen : (x.bs.drop x.tickN).length = x.bs.length - x.tickN := List.length_drop
  simp only [hlen] at h2
  obtain ⟨d0, d1, d2, d3⟩ := h2.cells4
  have f3 := h2.frozen 3
  clear h1 h2 hul hlen
  go_wp2
  go_ret
  have h3 := rcache_low (low := ((x.bs.length - x.tickN : Nat) : Int)) (hs2.out.swap)
  exact ⟨_, _, rfl, h3.swap⟩
set_option maxHeartbeats 1000000 in
theorem rdrain_x (w0 w : World) (F : List HP) (c : Nat) (x : TC) (hx : x.ok) (hs : St w0 (rcache c x :: F) w) :
    Calls Try.prog 39 #[.pointer (some ⟨c, 0, none⟩)] w fun e w' => ∃ a cap, e = .returned (.slice a x.bs.length cap) ∧ St w0 (rows (.slice a x.bs.length cap) x.bs :: rcache c x.drain :: F) w' := by
  have HF := first_any w0 w F c x hx x.bs.length (Nat.le_refl _) hs
  rw [List.take_length, List.drop_length] at HF
  have HF := Lib.hid HF
  obtain ⟨x1, x2, x3, x4, x5, x6, x7, x8⟩ := hx
  obtain ⟨a2, cap2, vs, hvl, hs⟩ := rcache_open hs
  obtain ⟨c0, c1, c2, c3⟩ := hs.cells4
  go_enter Try.func39, Try.ntmps39
  go_wp2_with (go_at_call 35; refine (rmade_true _ _ _ c0 x1).mono ?_; rintro e w' ⟨rfl, rfl⟩)
  refine HF.out.mono ?_
  rintro e w1 ⟨a, cap, rfl, h1⟩
  have hs2 := Lib.hid h1
  obtain ⟨a3, cap3, us, hul, h2⟩ := rcache_open (h1.swap)
  obtain ⟨d0, d1, d2, d3⟩ := h2.cells4
  have f3 := h2.frozen 3
  clear h1 h2 hul
  go_wp2
  go_ret
  exact ⟨_, _, rfl, (rcache_low (low := 0) (hs2.out.swap)).swap⟩
theorem rlen_any (w0 w : World) (F : List HP) (c : Nat) (x : TC) (hx : x.ok) (hs : St w0 (rcache c x :: F) w) :
    Calls Try.prog 40 #[.pointer (some ⟨c, 0, none⟩)] w fun e w' => e = .returned (.int .i64 x.bs.length) ∧ w = w' := by
  obtain ⟨x1, x2, x3, x4, x5, x6, x7, x8⟩ := hx
  obtain ⟨a2, cap2, vs, hvl, hs⟩ := rcache_open hs
  obtain ⟨c0, c1, c2, c3⟩ := hs.cells4
  go_enter Try.func40, Try.ntmps40
  go_wp2_with (go_at_call 35; refine (rmade_true _ _ _ c0 x1).mono ?_; rintro e w' ⟨rfl, rfl⟩)
  go_ret
  exact ⟨rfl, rfl⟩
theorem rlow_any (w0 w : World) (F : List HP) (c : Nat) (x : TC) (hx : x.ok) (hs : St w0 (rcache c x :: F) w) :
    Calls Try.prog 41 #[.pointer (some ⟨c, 0, none⟩)] w fun e w' => e = .returned (.int .i64 x.low) ∧ w = w' := by
  obtain ⟨x1, x2, x3, x4, x5, x6, x7, x8⟩ := hx
  obtain ⟨a2, cap2, vs, hvl, hs⟩ := rcache_open hs
  obtain ⟨c0, c1, c2, c3⟩ := hs.cells4
  go_enter Try.func41, Try.ntmps41
  go_wp2_with (go_at_call 35; refine (rmade_true _ _ _ c0 x1).mono ?_; rintro e w' ⟨rfl, rfl⟩)
  go_ret
  exact ⟨rfl, rfl⟩
theorem rnew_bad (w : World) (batch room : Int) (h : ¬ (1 ≤ batch ∧ batch ≤ 32 ∧ 0 ≤ room ∧ room ≤ 8)) :
    Calls Try.prog 24 #[.int .i64 batch, .int .i64 room] w fun e w' => e = .returned (.tuple #[.pointer none, .int .i64 1]) ∧ w = w' := by
  have HH := Lib.hid h
  clear h
  go_enter Try.func24, Try.ntmps24
  go_wp2
  all_goals first | (go_ret2; exact ⟨rfl, rfl⟩) | (exfalso; have := HH.out; simp at *; omega)
theorem rnew_good (w0 w : World) (F : List HP) (batch room : Int) (h1 : 1 ≤ batch) (h2 : batch ≤ 32) (h3 : 0 ≤ room) (h4 : room ≤ 8) (hs : St w0 F w) :
    Calls Try.prog 24 #[.int .i64 batch, .int .i64 room] w fun e w' => ∃ c, e = .returned (.tuple #[.pointer (some ⟨c, 0, none⟩), .int .i64 0]) ∧ St w0 (rcache c ⟨batch, room, 0, []⟩ :: F) w' := by
  have hs1 := hs.allocRow #[.int .i64 batch, .int .i64 room, .slice none 0 0, .int .i64 0] 66
  have hs2 := rcache_shut (bs := []) (vs := []) ((St.emp.2 (hs1.arr_nil 27 1).swap).rot')
  go_enter Try.func24, Try.ntmps24
  go_wp2
  go_ret2
  exact ⟨_, rfl, hs2⟩

set_option maxHeartbeats 1000000 in
theorem robjects_any (w0 w : World) (F : List HP) (c : Nat) (x : TC) (hx : x.ok) (hs : St w0 (rcache c x :: F) w) :
    Calls Try.prog 42 #[.pointer (some ⟨c, 0, none⟩)] w fun e w' => ∃ a cap, e = .returned (.slice a (flat x.bs).length cap) ∧ St w0 (ints (.slice a (flat x.bs).length cap) (flat x.bs) :: rcache c x :: F) w' := by
  have hsum := hx.sum
  obtain ⟨x1, x2, x3, x4, x5, x6, x7, x8⟩ := hx
  obtain ⟨a2, cap2, vs, hvl, hs⟩ := rcache_open hs
  obtain ⟨i0, hi, hz0, hz1, hz2⟩ := info_parts info3
  have hl8 : x.bs.length ≤ 8 := by omega
  obtain ⟨c0, c1, c2, c3⟩ := hs.cells4
  go_enter Try.func42, Try.ntmps42
  go_wp2_with (go_at_call 35; refine (rmade_true _ _ _ c0 x1).mono ?_; rintro e w' ⟨rfl, rfl⟩)
  go_loopw [3, 4] (fun v i wr => ∃ k : Nat, k ≤ x.bs.length ∧ i = .int .i64 k ∧ ∃ a3 p3, v = .slice a3 (flat (x.bs.take k)).length p3 ∧ St w0 (ints v (flat (x.bs.take k)) :: HP.blk c #[.int .i64 x.batch, .int .i64 x.room, .slice a2 x.bs.length cap2, .int .i64 x.low] 66 ::
      HP.arr 27 1 (.slice a2 x.bs.length cap2) x.bs.length vs :: rowsC vs x.bs :: F) wr) (fun _ i _ => x.bs.length - (intOf i).toNat)
  case atStart => exact ⟨0, Nat.zero_le _, rfl, none, 0, rfl, hs.arr_nil 3 1⟩
  case round =>
    clear c0 c1 c2 c3
    obtain ⟨k, hk, rfl, a3, p3, rfl, hs1⟩ := hrel
    obtain ⟨c0, c1, c2, c3⟩ := (hs1.front 1).cells4
    have hfl := flatten_length (x.bs.take k)
    have hle := sumLen_take_le x.bs k
    by_cases hlt : k < x.bs.length
    · obtain ⟨b, hb⟩ : ∃ b, x.bs[k]? = some b := ⟨x.bs[k], List.getElem?_eq_getElem hlt⟩
      obtain ⟨b0, off, cp, ak, ck, he, hcell, hib⟩ := (rows_read hvl (hs1.pick 4 [2, 3])).cell hb
      have hle2 := sumLen_take_le x.bs (k + 1)
      have hts := sumLen_take_succ x.bs k b hb
      have hbb : (flat (x.bs.take k)).length + b.length ≤ 1000000 := by omega
      have HF := Lib.hid (flatten_take_succ x.bs k b hb)
      injection he with he1 he2 he3
      subst he1
      clear hb hts hfl he2 he3
      go_wp2_with (at_builtin; refine wpList_append_st rfl _ _ 27 rfl 3 i0 _ 1 8 Try.underlying27 hi hz0 hz1 hz2 rfl _ _ rfl rfl (flat (x.bs.take k)).length ((flat (x.bs.take k)).map (Value.int .i64)) hs1 b.length (b.map (Value.int .i64)) hib (oneCell_ints b) (by unfold maxLen; omega) (by omega) ?_; intro v3 w3 hs3 hv3; clear hv3; obtain ⟨a5, p5, rfl⟩ := (HP.arr_reads hs3).form)
      go_roundw
      case rel =>
        refine ⟨k + 1, hlt, by go_num, a5, p5, ?_, ?_⟩
        · rw [HF.out, List.length_append]
        · unfold ints
          rw [HF.out, List.length_append, List.map_append]
          exact hs3
      case measure => simp [intOf]; omega
    · have e : x.bs.take k = x.bs := List.take_of_length_le (by omega)
      rw [e] at hs1 ⊢
      clear e hfl
      go_wp2
      go_ret
      exact ⟨_, _, rfl, (rcache_shut hs1.rotl).swap⟩
end Go.Proofs.Ythlmjdkpkikcpaa

/-
  strings.Builder.String.
-/
import Derived.Test.YtcihbmifogfdpaaGreatDoorT6
namespace Go.Proofs.YtcihbmifogfdpaaGreatDoor
open Go.RowKit

theorem arr_blk {w0 w : World} {F : List HP} {t : TypeId} {g off n cap : Nat} {xs : List Value} (h : St w0 (HP.arr t 1 (.slice (some ⟨g, off, none⟩) n cap) n xs :: F) w) :
    ∃ c : Array Value, off + cap ≤ c.size ∧ n ≤ cap ∧ (∀ i x, xs[i]? = some x → c[off + i]? = some x) ∧ St w0 (HP.blk g c t :: F) w := by
  obtain ⟨hb, m, ⟨m1, m2, ha, em, hA, hF⟩, hc⟩ := h
  rcases hA.2 with ⟨hv, hn, _⟩ | ⟨b, off', cap', c, hv, hn, hcm, hcs, hx, hm⟩
  · cases hv
  · cases hv
    exact ⟨c, by omega, hn, hx, hb, m, ⟨m1, m2, ha, em, hm, hF⟩, hc⟩
set_option maxRecDepth 10000 in
set_option maxHeartbeats 1000000 in
theorem string_any (w0 w : World) (F : List HP) (b : Nat) (l : List UInt8) (hlen : l.length ≤ 9223372036854775807) (hs : St w0 (bldP b l :: F) w) :
    Calls Tryz.prog 93 #[.pointer (some ⟨b, 0, none⟩)] w fun e w' => e = .returned (.string ⟨l.toArray⟩) ∧ Below w0.heap.size w0 w' := by
  obtain ⟨p, v, hp, hv, h⟩ := bld_open hs
  obtain ⟨c0, c1⟩ := St.cells2 h
  have HB := Lib.hid h.below
  rcases (HP.arr_form h.swap) with ⟨rfl, hn⟩ | ⟨g, off, cap, rfl, hcap⟩
  · have hl : l = [] := List.eq_nil_of_length_eq_zero hn
    subst hl
    clear hs h hv hp hn
    have hSD : ∀ ts ty W, (Builtin.unsafeSliceData_ ts ty #[.slice none 0 0]).run Tryz.prog W = .ok (.pointer none) W := fun ts ty W => rfl
    have hUS : ∀ ty W, (Builtin.unsafeString_ #[211, 3] ty #[.pointer none, .int .i64 0]).run Tryz.prog W = .ok (.string .empty) W := fun ty W => Lib.run_unsafeString_none _ _ _ _ _
    go_enter Tryz.func93, Tryz.ntmps93
    go_wp2_with fail
    refine wp_region_tail_drew 10 (by kernel_rfl) (by kernel_rfl) ?_
    simp only [List.take_succ_cons, List.take_zero, List.drop_succ_cons, List.drop_zero]
    repeat still_step
    refine wpStill_nil ?_
    go_wp2_with fail
    go_ret
    exact ⟨rfl, HB.out.drew⟩
  · have hz : off = 0 := hv.1 _ _ _ rfl
    subst hz
    have hne : l ≠ [] := fun h9 => by have := hv.2 h9; cases this
    have hl1 : 1 ≤ l.length := by cases l with | nil => exact absurd rfl hne | cons => simp
    have hc0 : cap ≠ 0 := by omega
    obtain ⟨c, hcs, _, hcx, hst⟩ := arr_blk h.swap
    have hsh : w.drew.shape? g = some (5, c.size) := by
      have := St.row hst
      show w.shape? g = _
      simp [World.shape?, this]
    have hcell : ∀ j x, l[j]? = some x → w.drew.cell? ((⟨g, 0, none⟩ : Addr).add j) = some (.int .u8 x.toNat) := by
      intro j x hx
      have h1 : c[0 + j]? = some (.int .u8 x.toNat) := hcx j _ (by simp [Lib.byteCells, hx])
      show w.cell? _ = _
      have h2 := St.cell hst h1
      simpa [Addr.add_lit] using h2
    have hUS := Lib.run_unsafeString_row (P := Tryz.prog) w.drew 211 3 9 5 Tryz.underlying211 (by kernel_rfl) g c.size hsh l hne (by omega) hlen hcell
    have hSD : ∀ ts ty W, (Builtin.unsafeSliceData_ ts ty #[.slice (some ⟨g, 0, none⟩) l.length cap]).run Tryz.prog W = .ok (.pointer (some ⟨g, 0, none⟩)) W := fun ts ty W => Lib.run_unsafeSliceData_row W ts ty ⟨g, 0, none⟩ l.length cap hc0
    have HG : Hid (w0.heap.size ≤ g) := Lib.hid (St.old hst)
    clear hs h hv hp hsh hcell hst hcx hcs hl1 hc0
    go_enter Tryz.func93, Tryz.ntmps93
    go_wp2_with fail
    refine wp_region_tail_drew 10 (by kernel_rfl) (by kernel_rfl) ?_
    simp only [List.take_succ_cons, List.take_zero, List.drop_succ_cons, List.drop_zero]
    repeat still_step
    refine wpStill_nil ?_
    go_wp2_with fail
    go_ret
    exact ⟨rfl, Lib.below_freeze HB.out.drew HG.out _⟩
end Go.Proofs.YtcihbmifogfdpaaGreatDoor

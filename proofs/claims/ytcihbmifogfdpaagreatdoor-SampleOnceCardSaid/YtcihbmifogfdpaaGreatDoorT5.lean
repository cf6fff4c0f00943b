/-
  strings.Builder: copyCheck, WriteString, String.
-/
import Derived.Test.YtcihbmifogfdpaaGreatDoorT4
namespace Go.Proofs.YtcihbmifogfdpaaGreatDoor
open Go.RowKit

theorem info_builder : ∃ j, Tryz.prog.info? 156 = some j ∧ j.size = 2 := Option.map_eq_some_iff.1 (show (Tryz.prog.info? 156).map (·.size) = some 2 by kernel_rfl)
set_option maxRecDepth 10000 in
set_option maxHeartbeats 1000000 in
theorem copyCheck_any (w0 w : World) (F : List HP) (b : Nat) (p : Option Addr) (v : Value) (hp : p = none ∨ p = some ⟨b, 0, none⟩) (hs : St w0 (HP.blk b #[.pointer p, v] 156 :: F) w) :
    Calls Tryz.prog 137 #[.pointer (some ⟨b, 0, none⟩)] w fun e w' => e = .returned (.tuple #[]) ∧ St w0 (HP.blk b #[.pointer (some ⟨b, 0, none⟩), v] 156 :: F) w' := by
  obtain ⟨c0, c1⟩ := St.cells2 hs
  have hf := St.frozen hs 0
  have hset := St.set hs 0 (.pointer (some ⟨b, 0, none⟩))
  simp at hset
  have hsh : w.shape? b = some (156, 2) := by simp [World.shape?, St.row hs]
  obtain ⟨j, hj, hjs⟩ := info_builder
  rcases hp with rfl | rfl
  · have H := Lib.hid hset
    clear hset hs
    go_enter Tryz.func137, Tryz.ntmps137
    go_wp2
    rw [Lib.run_to_unsafe w ⟨b, 0, none⟩ Tryz.underlying154 Tryz.underlying302 hj (by rw [hjs]; decide) hsh (Nat.zero_lt_succ 1)]
    refine (?_ : Oper.upon _ _ _ _ _ (.ok (.value _) _))
    rw [Oper.upon_value]
    go_wp2
    rw [Cl.noEscape_call]
    refine (?_ : Oper.upon _ _ _ _ _ (.ok (.value _) _))
    rw [Oper.upon_value]
    go_wp2
    rw [Lib.run_from_unsafe w ⟨b, 0, none⟩ Tryz.underlying302 Tryz.underlying154 hj hsh (by kernel_rfl)]
    refine (?_ : Oper.upon _ _ _ _ _ (.ok (.value _) _))
    rw [Oper.upon_value]
    go_wp2
    go_end0
    exact ⟨rfl, H.out⟩
  · have H := Lib.hid hs
    clear hset hs
    go_enter Tryz.func137, Tryz.ntmps137
    go_wp2
    rw [Lib.run_neq_ptr_same w _ Tryz.underlying154 hj]
    go_wp2
    go_end0
    exact ⟨rfl, H.out⟩

end Go.Proofs.YtcihbmifogfdpaaGreatDoor

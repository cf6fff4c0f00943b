/-
  A cache that nobody made: nil, or a zero value.
-/
import Derived.Test.YthlmjdkpkikcpaaT14
namespace Go.Proofs.Ythlmjdkpkikcpaa
open Go.RowKit

def NotMade (w : World) (p : Option Addr) : Prop := p = none ∨ ∃ c, p = some ⟨c, 0, none⟩ ∧ w.cell? ⟨c, 0, none⟩ = some (.int .i64 0)
theorem NotMade.same {w w' : World} {p : Option Addr} (h : NotMade w p) (he : w'.heap = w.heap) : NotMade w' p :=
  h.imp id fun ⟨c, hp, hc⟩ => ⟨c, hp, by simpa [World.cell?, he] using hc⟩
theorem NotMade.alloc {w : World} {p : Option Addr} (h : NotMade w p) (o : Obj) : NotMade (w.alloc o) p :=
  h.imp id fun ⟨c, hp, hc⟩ => ⟨c, hp, by rw [World.cell?_of_block (heap_alloc_old w o (World.block_lt_of_cell? w _ hc))]; exact hc⟩
theorem made_not (w : World) (p : Option Addr) (h : NotMade w p) : Calls Try.prog 29 #[.pointer p] w fun e w' => e = .returned (.bool false) ∧ w = w' := by
  rcases h with rfl | ⟨c, rfl, hc⟩
  · exact made_nil w
  · exact made_zero w c hc
theorem insert_not (w : World) (p : Option Addr) (v : Value) (h : NotMade w p) : Calls Try.prog 12 #[.pointer p, v] w fun e w' => e = .returned (.tuple #[.bool false, .int .i64 5]) ∧ w = w' := by
  have H := Lib.hid (made_not w p h)
  clear h
  go_enter Try.func12, Try.ntmps12
  go_wp2_with (go_at_call 29; refine H.out.mono ?_; rintro e w' ⟨rfl, rfl⟩)
  go_ret2
  exact ⟨rfl, rfl⟩
theorem remove_not (w : World) (p : Option Addr) (h : NotMade w p) : Calls Try.prog 13 #[.pointer p] w fun e w' => e = .returned (.tuple #[.slice none 0 0, .int .i64 5]) ∧ w = w' := by
  have H := Lib.hid (made_not w p h)
  clear h
  go_enter Try.func13, Try.ntmps13
  go_wp2_with (go_at_call 29; refine H.out.mono ?_; rintro e w' ⟨rfl, rfl⟩)
  go_ret2
  exact ⟨rfl, rfl⟩
theorem evict_not (w : World) (p : Option Addr) (v : Value) (h : NotMade w p) : Calls Try.prog 31 #[.pointer p, .agg #[v]] w fun e w' => e = .returned (.slice none 0 0) ∧ w.alloc (.cells #[v] 63) = w' := by
  have H := Lib.hid (made_not _ p (h.alloc (.cells #[v] 63)))
  clear h
  go_enter Try.func31, Try.ntmps31
  go_wp2_with (go_at_call 29; refine H.out.mono ?_; rintro e w' ⟨rfl, rfl⟩)
  go_ret
  exact ⟨rfl, rfl⟩
theorem tick_not (w : World) (p : Option Addr) (h : NotMade w p) : Calls Try.prog 15 #[.pointer p] w fun e w' => e = .returned (.slice none 0 0) ∧ ∃ o, w.alloc o = w' := by
  have H := Lib.hid (evict_not w p (.func (.func 32) #[] #[]) h)
  clear h
  go_enter Try.func15, Try.ntmps15
  go_wp2_with fail
  refine H.out.mono ?_
  rintro e w1 ⟨rfl, rfl⟩
  go_wp2
  go_ret
  exact ⟨rfl, _, rfl⟩
theorem drain_not (w : World) (p : Option Addr) (h : NotMade w p) : Calls Try.prog 16 #[.pointer p] w fun e w' => e = .returned (.slice none 0 0) ∧ ∃ o, w.alloc o = w' := by
  have H := Lib.hid (evict_not w p (.func (.func 33) #[] #[]) h)
  clear h
  go_enter Try.func16, Try.ntmps16
  go_wp2_with fail
  refine H.out.mono ?_
  rintro e w1 ⟨rfl, rfl⟩
  go_wp2
  go_ret
  exact ⟨rfl, _, rfl⟩
theorem len_not (w : World) (p : Option Addr) (h : NotMade w p) : Calls Try.prog 18 #[.pointer p] w fun e w' => e = .returned (.int .i64 0) ∧ w = w' := by
  have H := Lib.hid (made_not w p h)
  clear h
  go_enter Try.func18, Try.ntmps18
  go_wp2_with (go_at_call 29; refine H.out.mono ?_; rintro e w' ⟨rfl, rfl⟩)
  go_ret
  exact ⟨rfl, rfl⟩
theorem low_not (w : World) (p : Option Addr) (h : NotMade w p) : Calls Try.prog 21 #[.pointer p] w fun e w' => e = .returned (.int .i64 0) ∧ w = w' := by
  have H := Lib.hid (made_not w p h)
  clear h
  go_enter Try.func21, Try.ntmps21
  go_wp2_with (go_at_call 29; refine H.out.mono ?_; rintro e w' ⟨rfl, rfl⟩)
  go_ret
  exact ⟨rfl, rfl⟩
theorem objects_not (w : World) (p : Option Addr) (h : NotMade w p) : Calls Try.prog 22 #[.pointer p] w fun e w' => e = .returned (.slice none 0 0) ∧ w = w' := by
  have H := Lib.hid (made_not w p h)
  clear h
  go_enter Try.func22, Try.ntmps22
  go_wp2_with (go_at_call 29; refine H.out.mono ?_; rintro e w' ⟨rfl, rfl⟩)
  go_ret
  exact ⟨rfl, rfl⟩
theorem tclone_not (w : World) (p : Option Addr) (h : NotMade w p) : Calls Try.prog 25 #[.pointer p] w fun e w' => e = .returned (.pointer none) ∧ w = w' := by
  have H := Lib.hid (made_not w p h)
  clear h
  go_enter Try.func25, Try.ntmps25
  go_wp2_with (go_at_call 29; refine H.out.mono ?_; rintro e w' ⟨rfl, rfl⟩)
  go_ret
  exact ⟨rfl, rfl⟩
/-! the reference, nil -/
theorem rinsert_nil (w : World) (v : Value) : Calls Try.prog 36 #[.pointer none, v] w fun e w' => e = .returned (.tuple #[.bool false, .int .i64 5]) ∧ w = w' := by
  go_enter Try.func36, Try.ntmps36
  go_wp2_with (go_at_call 35; refine (rmade_nil _).mono ?_; rintro e w' ⟨rfl, rfl⟩)
  go_ret2
  exact ⟨rfl, rfl⟩
theorem rremove_nil (w : World) : Calls Try.prog 37 #[.pointer none] w fun e w' => e = .returned (.tuple #[.slice none 0 0, .int .i64 5]) ∧ w = w' := by
  go_enter Try.func37, Try.ntmps37
  go_wp2_with (go_at_call 35; refine (rmade_nil _).mono ?_; rintro e w' ⟨rfl, rfl⟩)
  go_ret2
  exact ⟨rfl, rfl⟩
theorem rtick_nil (w : World) : Calls Try.prog 38 #[.pointer none] w fun e w' => e = .returned (.slice none 0 0) ∧ w = w' := by
  go_enter Try.func38, Try.ntmps38
  go_wp2_with (go_at_call 35; refine (rmade_nil _).mono ?_; rintro e w' ⟨rfl, rfl⟩)
  go_ret
  exact ⟨rfl, rfl⟩
theorem rdrain_nil (w : World) : Calls Try.prog 39 #[.pointer none] w fun e w' => e = .returned (.slice none 0 0) ∧ w = w' := by
  go_enter Try.func39, Try.ntmps39
  go_wp2_with (go_at_call 35; refine (rmade_nil _).mono ?_; rintro e w' ⟨rfl, rfl⟩)
  go_ret
  exact ⟨rfl, rfl⟩
theorem rlen_nil (w : World) : Calls Try.prog 40 #[.pointer none] w fun e w' => e = .returned (.int .i64 0) ∧ w = w' := by
  go_enter Try.func40, Try.ntmps40
  go_wp2_with (go_at_call 35; refine (rmade_nil _).mono ?_; rintro e w' ⟨rfl, rfl⟩)
  go_ret
  exact ⟨rfl, rfl⟩
theorem rlow_nil (w : World) : Calls Try.prog 41 #[.pointer none] w fun e w' => e = .returned (.int .i64 0) ∧ w = w' := by
  go_enter Try.func41, Try.ntmps41
  go_wp2_with (go_at_call 35; refine (rmade_nil _).mono ?_; rintro e w' ⟨rfl, rfl⟩)
  go_ret
  exact ⟨rfl, rfl⟩
theorem robjects_nil (w : World) : Calls Try.prog 42 #[.pointer none] w fun e w' => e = .returned (.slice none 0 0) ∧ w = w' := by
  go_enter Try.func42, Try.ntmps42
  go_wp2_with (go_at_call 35; refine (rmade_nil _).mono ?_; rintro e w' ⟨rfl, rfl⟩)
  go_ret
  exact ⟨rfl, rfl⟩
theorem rclone_nil (w : World) : Calls Try.prog 26 #[.pointer none] w fun e w' => e = .returned (.pointer none) ∧ w = w' := by
  go_enter Try.func26, Try.ntmps26
  go_wp2_with (go_at_call 35; refine (rmade_nil _).mono ?_; rintro e w' ⟨rfl, rfl⟩)
  go_ret
  exact ⟨rfl, rfl⟩
theorem Ints_nil (w : World) : Calls Try.prog 14 #[.slice none 0 0, .slice none 0 0] w fun e w' => e = .returned (.bool true) ∧ ∃ n, w' = w.drewN n :=
  Ints_is w true none none 0 0 0 [] [] rfl rfl rfl (Reads.nil w 1) (Reads.nil w 1) (by decide)
theorem Same_nil (w : World) : Calls Try.prog 17 #[.slice none 0 0, .slice none 0 0] w fun e w' => e = .returned (.bool true) ∧ ∃ n, w' = w.drewN n :=
  Same_is w true none none 0 0 0 [] [] [] [] rfl rfl rfl ⟨Reads.nil w 1, rfl, fun k b h => by simp at h⟩ ⟨Reads.nil w 1, rfl, fun k b h => by simp at h⟩ (by decide) (by simp) (by simp)
end Go.Proofs.Ythlmjdkpkikcpaa

/-
  Caches that were not made (nil or the zero value), and the reference that is nil. (Printed by mkC27.py.)
-/
import Derived.Test.YtaejojbdkgccpaaC26
namespace Go.Proofs.Ytaejojbdkgccpaa
open Go.RowKit Go.Maps Go.ChangeMaps

/-- a cache that was not made -/
def Bare (p : Value) (w : World) : Prop := p = .pointer none ∨ ∃ c, p = .pointer (some ⟨c, 0, none⟩) ∧ w.cell? ⟨c, 2, none⟩ = some (.map none)
/-- only the order tape was drawn from -/
def Drawn (w w' : World) : Prop := ∃ n, w' = w.drewN n
theorem Bare.drewN {p : Value} {w : World} (h : Bare p w) (n : Nat) : Bare p (w.drewN n) := h
theorem made_bare {p : Value} {w : World} (h : Bare p w) : Calls Try.prog 47 #[p] w fun e w' => e = .returned (.bool false) ∧ w = w' := by
  obtain rfl | ⟨c, rfl, hc⟩ := h
  · exact cmade_nil w
  · exact cmade_zero w c hc
theorem find_bare {p : Value} {w : World} (h : Bare p w) (k : Int) : Calls Try.prog 41 #[p, .int .i64 k] w fun e w' => e = .returned (.tuple #[.pointer none, .int .i64 5]) ∧ w = w' := by
  obtain rfl | ⟨c, rfl, hc⟩ := h
  · exact find_nil w k
  · exact find_zero w c hc k
theorem of_bare {p : Value} {w : World} (h : Bare p w) (k : Int) : Calls Try.prog 39 #[p, .int .i64 k] w fun e w' => e = .returned (.pointer none) ∧ w = w' := by
  obtain rfl | ⟨c, rfl, hc⟩ := h
  · exact of_nil w k
  · exact of_zero w c hc k
theorem objects_bare {p : Value} {w : World} (h : Bare p w) (k : Int) : Calls Try.prog 17 #[p, .int .i64 k] w fun e w' => e = .returned (.slice none 0 0) ∧ w = w' := by
  have H := Lib.hid (of_bare h k)
  clear h
  go_enter Try.func17, Try.ntmps17
  go_wp2_with fail
  refine H.out.mono ?_
  rintro e w' ⟨rfl, rfl⟩
  go_wp2_with fail
  go_ret
  exact ⟨rfl, rfl⟩
theorem len_bare {p : Value} {w : World} (h : Bare p w) (k : Int) : Calls Try.prog 22 #[p, .int .i64 k] w fun e w' => e = .returned (.int .i64 0) ∧ w = w' := by
  have H := Lib.hid (objects_bare h k)
  clear h
  go_enter Try.func22, Try.ntmps22
  go_wp2_with fail
  refine H.out.mono ?_
  rintro e w' ⟨rfl, rfl⟩
  go_wp2_with fail
  go_ret
  exact ⟨rfl, rfl⟩
theorem limit_bare {p : Value} {w : World} (h : Bare p w) (k : Int) : Calls Try.prog 23 #[p, .int .i64 k] w fun e w' => e = .returned (.int .i64 0) ∧ w = w' := by
  have H := Lib.hid (of_bare h k)
  clear h
  go_enter Try.func23, Try.ntmps23
  go_wp2_with fail
  refine H.out.mono ?_
  rintro e w' ⟨rfl, rfl⟩
  go_wp2_with fail
  go_ret
  exact ⟨rfl, rfl⟩
theorem low_bare {p : Value} {w : World} (h : Bare p w) (k : Int) : Calls Try.prog 24 #[p, .int .i64 k] w fun e w' => e = .returned (.int .i64 0) ∧ w = w' := by
  have H := Lib.hid (of_bare h k)
  clear h
  go_enter Try.func24, Try.ntmps24
  go_wp2_with fail
  refine H.out.mono ?_
  rintro e w' ⟨rfl, rfl⟩
  go_wp2_with fail
  go_ret
  exact ⟨rfl, rfl⟩
theorem take_bare {p : Value} {w : World} (h : Bare p w) (k : Int) : Calls Try.prog 18 #[p, .int .i64 k] w fun e w' => e = .returned (.tuple #[.int .i64 0, .int .i64 5]) ∧ w = w' := by
  have H := Lib.hid (find_bare h k)
  clear h
  go_enter Try.func18, Try.ntmps18
  go_wp2_with fail
  refine H.out.mono ?_
  rintro e w' ⟨rfl, rfl⟩
  go_wp2_with fail
  go_ret2
  exact ⟨rfl, rfl⟩
theorem want_bare {p : Value} {w : World} (h : Bare p w) (k : Int) : Calls Try.prog 37 #[p, .int .i64 k] w fun e w' => e = .returned (.tuple #[.int .i64 0, .int .i64 5]) ∧ w = w' := by
  have H := Lib.hid (find_bare h k)
  clear h
  go_enter Try.func37, Try.ntmps37
  go_wp2_with fail
  refine H.out.mono ?_
  rintro e w' ⟨rfl, rfl⟩
  go_wp2_with fail
  go_ret2
  exact ⟨rfl, rfl⟩
theorem fill_bare {p : Value} {w : World} (h : Bare p w) (k : Int) (v : Value) : Calls Try.prog 20 #[p, .int .i64 k, v] w fun e w' => e = .returned (.int .i64 5) ∧ w = w' := by
  have H := Lib.hid (find_bare h k)
  clear h
  go_enter Try.func20, Try.ntmps20
  go_wp2_with fail
  refine H.out.mono ?_
  rintro e w' ⟨rfl, rfl⟩
  go_wp2_with fail
  go_ret
  exact ⟨rfl, rfl⟩
theorem put_bare {p : Value} {w : World} (h : Bare p w) (k : Int) (o : Int) : Calls Try.prog 38 #[p, .int .i64 k, .int .i64 o] w fun e w' => e = .returned (.tuple #[.slice none 0 0, .int .i64 5]) ∧ w = w' := by
  have H := Lib.hid (find_bare h k)
  clear h
  go_enter Try.func38, Try.ntmps38
  go_wp2_with fail
  refine H.out.mono ?_
  rintro e w' ⟨rfl, rfl⟩
  go_wp2_with fail
  go_ret2
  exact ⟨rfl, rfl⟩
theorem batches_bare {p : Value} {w : World} (h : Bare p w) (f : Value) : Calls Try.prog 44 #[p, f] w fun e w' => e = .returned (.slice none 0 0) ∧ w = w' := by
  have H := Lib.hid (made_bare h)
  clear h
  go_enter Try.func44, Try.ntmps44
  go_wp2_with fail
  refine H.out.mono ?_
  rintro e w' ⟨rfl, rfl⟩
  go_wp2_with fail
  go_ret
  exact ⟨rfl, rfl⟩
theorem scavenge_bare {p : Value} {w : World} (h : Bare p w) : Calls Try.prog 25 #[p] w fun e w' => e = .returned (.slice none 0 0) ∧ w = w' := by
  have H := Lib.hid (fun f => batches_bare h f)
  clear h
  go_enter Try.func25, Try.ntmps25
  go_wp2_with fail
  refine (H.out _).mono ?_
  rintro e w' ⟨rfl, rfl⟩
  go_wp2_with fail
  go_ret
  exact ⟨rfl, rfl⟩
theorem drain_bare {p : Value} {w : World} (h : Bare p w) : Calls Try.prog 29 #[p] w fun e w' => e = .returned (.slice none 0 0) ∧ w = w' := by
  have H := Lib.hid (fun f => batches_bare h f)
  clear h
  go_enter Try.func29, Try.ntmps29
  go_wp2_with fail
  refine (H.out _).mono ?_
  rintro e w' ⟨rfl, rfl⟩
  go_wp2_with fail
  go_ret
  exact ⟨rfl, rfl⟩
theorem bytes_bare {p : Value} {w : World} (h : Bare p w) : Calls Try.prog 27 #[p] w fun e w' => e = .returned (.int .i64 0) ∧ w = w' := by
  have H := Lib.hid (made_bare h)
  clear h
  go_enter Try.func27, Try.ntmps27
  go_wp2_with fail
  refine H.out.mono ?_
  rintro e w' ⟨rfl, rfl⟩
  go_wp2_with fail
  go_ret
  exact ⟨rfl, rfl⟩
theorem clone_bare {p : Value} {w : World} (h : Bare p w) : Calls Try.prog 31 #[p] w fun e w' => e = .returned (.pointer none) ∧ w = w' := by
  have H := Lib.hid (made_bare h)
  clear h
  go_enter Try.func31, Try.ntmps31
  go_wp2_with fail
  refine H.out.mono ?_
  rintro e w' ⟨rfl, rfl⟩
  go_wp2_with fail
  go_ret
  exact ⟨rfl, rfl⟩
theorem rmade_nil (w : World) : Calls Try.prog 52 #[.pointer none] w fun e w' => e = .returned (.bool false) ∧ w = w' := by
  go_enter Try.func52, Try.ntmps52
  go_wp2_with fail
  go_ret
  exact ⟨rfl, rfl⟩
theorem rhas_nil (w : World) (k : Int) : Calls Try.prog 72 #[.pointer none, .int .i64 k] w fun e w' => e = .returned (.bool false) ∧ w = w' := by
  have H := Lib.hid (rmade_nil w)
  go_enter Try.func72, Try.ntmps72
  go_wp2_with fail
  refine H.out.mono ?_
  rintro e w' ⟨rfl, rfl⟩
  go_wp2_with fail
  go_ret
  exact ⟨rfl, rfl⟩
theorem rwrong_nil (w : World) (k : Int) : Calls Try.prog 70 #[.pointer none, .int .i64 k] w fun e w' => e = .returned (.int .i64 5) ∧ w = w' := by
  have H := Lib.hid (rmade_nil w)
  go_enter Try.func70, Try.ntmps70
  go_wp2_with fail
  refine H.out.mono ?_
  rintro e w' ⟨rfl, rfl⟩
  go_wp2_with fail
  go_ret
  exact ⟨rfl, rfl⟩
theorem rtake_nil (w : World) (k : Int) : Calls Try.prog 53 #[.pointer none, .int .i64 k] w fun e w' => e = .returned (.tuple #[.int .i64 0, .int .i64 5]) ∧ w = w' := by
  have H := Lib.hid (rwrong_nil w k)
  go_enter Try.func53, Try.ntmps53
  go_wp2_with fail
  refine H.out.mono ?_
  rintro e w' ⟨rfl, rfl⟩
  go_wp2_with fail
  go_ret2
  exact ⟨rfl, rfl⟩
theorem rwant_nil (w : World) (k : Int) : Calls Try.prog 54 #[.pointer none, .int .i64 k] w fun e w' => e = .returned (.tuple #[.int .i64 0, .int .i64 5]) ∧ w = w' := by
  have H := Lib.hid (rwrong_nil w k)
  go_enter Try.func54, Try.ntmps54
  go_wp2_with fail
  refine H.out.mono ?_
  rintro e w' ⟨rfl, rfl⟩
  go_wp2_with fail
  go_ret2
  exact ⟨rfl, rfl⟩
theorem rfill_nil (w : World) (k : Int) (v : Value) : Calls Try.prog 55 #[.pointer none, .int .i64 k, v] w fun e w' => e = .returned (.int .i64 5) ∧ w = w' := by
  have H := Lib.hid (rwrong_nil w k)
  go_enter Try.func55, Try.ntmps55
  go_wp2_with fail
  refine H.out.mono ?_
  rintro e w' ⟨rfl, rfl⟩
  go_wp2_with fail
  go_ret
  exact ⟨rfl, rfl⟩
theorem rput_nil (w : World) (k : Int) (o : Int) : Calls Try.prog 56 #[.pointer none, .int .i64 k, .int .i64 o] w fun e w' => e = .returned (.tuple #[.slice none 0 0, .int .i64 5]) ∧ w = w' := by
  have H := Lib.hid (rwrong_nil w k)
  go_enter Try.func56, Try.ntmps56
  go_wp2_with fail
  refine H.out.mono ?_
  rintro e w' ⟨rfl, rfl⟩
  go_wp2_with fail
  go_ret2
  exact ⟨rfl, rfl⟩
theorem rscavenge_nil (w : World) : Calls Try.prog 57 #[.pointer none] w fun e w' => e = .returned (.slice none 0 0) ∧ w = w' := by
  have H := Lib.hid (rmade_nil w)
  go_enter Try.func57, Try.ntmps57
  go_wp2_with fail
  refine H.out.mono ?_
  rintro e w' ⟨rfl, rfl⟩
  go_wp2_with fail
  go_ret
  exact ⟨rfl, rfl⟩
theorem rdrain_nil (w : World) : Calls Try.prog 58 #[.pointer none] w fun e w' => e = .returned (.slice none 0 0) ∧ w = w' := by
  have H := Lib.hid (rmade_nil w)
  go_enter Try.func58, Try.ntmps58
  go_wp2_with fail
  refine H.out.mono ?_
  rintro e w' ⟨rfl, rfl⟩
  go_wp2_with fail
  go_ret
  exact ⟨rfl, rfl⟩
theorem rlen_nil (w : World) (k : Int) : Calls Try.prog 59 #[.pointer none, .int .i64 k] w fun e w' => e = .returned (.int .i64 0) ∧ w = w' := by
  have H := Lib.hid (rhas_nil w k)
  go_enter Try.func59, Try.ntmps59
  go_wp2_with fail
  refine H.out.mono ?_
  rintro e w' ⟨rfl, rfl⟩
  go_wp2_with fail
  go_ret
  exact ⟨rfl, rfl⟩
theorem rlimit_nil (w : World) (k : Int) : Calls Try.prog 60 #[.pointer none, .int .i64 k] w fun e w' => e = .returned (.int .i64 0) ∧ w = w' := by
  have H := Lib.hid (rhas_nil w k)
  go_enter Try.func60, Try.ntmps60
  go_wp2_with fail
  refine H.out.mono ?_
  rintro e w' ⟨rfl, rfl⟩
  go_wp2_with fail
  go_ret
  exact ⟨rfl, rfl⟩
theorem rlow_nil (w : World) (k : Int) : Calls Try.prog 61 #[.pointer none, .int .i64 k] w fun e w' => e = .returned (.int .i64 0) ∧ w = w' := by
  have H := Lib.hid (rhas_nil w k)
  go_enter Try.func61, Try.ntmps61
  go_wp2_with fail
  refine H.out.mono ?_
  rintro e w' ⟨rfl, rfl⟩
  go_wp2_with fail
  go_ret
  exact ⟨rfl, rfl⟩
theorem robjects_nil (w : World) (k : Int) : Calls Try.prog 62 #[.pointer none, .int .i64 k] w fun e w' => e = .returned (.slice none 0 0) ∧ w = w' := by
  have H := Lib.hid (rhas_nil w k)
  go_enter Try.func62, Try.ntmps62
  go_wp2_with fail
  refine H.out.mono ?_
  rintro e w' ⟨rfl, rfl⟩
  go_wp2_with fail
  go_ret
  exact ⟨rfl, rfl⟩
theorem rbytes_nil (w : World) : Calls Try.prog 63 #[.pointer none] w fun e w' => e = .returned (.int .i64 0) ∧ w = w' := by
  have H := Lib.hid (rmade_nil w)
  go_enter Try.func63, Try.ntmps63
  go_wp2_with fail
  refine H.out.mono ?_
  rintro e w' ⟨rfl, rfl⟩
  go_wp2_with fail
  go_ret
  exact ⟨rfl, rfl⟩
theorem over_bare {p : Value} {w : World} (h : Bare p w) : Calls Try.prog 28 #[p] w fun e w' => e = .returned (.bool false) ∧ Drawn w w' := by
  have H := Lib.hid fun w1 (h1 : Drawn w w1) => show Calls Try.prog 47 #[p] w1 fun e w' => e = .returned (.bool false) ∧ Drawn w w' from by
    obtain ⟨n, rfl⟩ := h1
    refine (made_bare (h.drewN n)).mono ?_
    rintro e w' ⟨rfl, rfl⟩
    exact ⟨rfl, n, rfl⟩
  clear h
  go_enter Try.func28, Try.ntmps28
  go_wp2_with fail
  refine wp_region_qst (fun w' => Drawn w w') (by kernel_rfl) (by kernel_rfl) ⟨1, rfl⟩ ?_
  repeat (
    with_reducible refine wpQuiet_step (fun K hK => ?_)
    go_simp
    first
      | (refine hK _ ?_; clear hK K)
      | (apply Exists.intro
         refine ⟨fun w1 h1 => ?_, hK _ ?_⟩
         (first
          | (with_reducible rfl)
          | (go_at_call 47; refine (H.out _ h1).mono ?_; rintro e w' ⟨rfl, h9⟩; exact ⟨rfl, h9⟩))
         clear hK K))
  refine wpQuiet_nil ?_
  intro w2 h2
  go_wp2_with fail
  go_ret
  exact ⟨rfl, h2⟩
theorem rover_nil (w : World) : Calls Try.prog 64 #[.pointer none] w fun e w' => e = .returned (.bool false) ∧ Drawn w w' := by
  have H := Lib.hid fun w1 (h1 : Drawn w w1) => show Calls Try.prog 52 #[.pointer none] w1 fun e w' => e = .returned (.bool false) ∧ Drawn w w' from by
    obtain ⟨n, rfl⟩ := h1
    refine (rmade_nil _).mono ?_
    rintro e w' ⟨rfl, rfl⟩
    exact ⟨rfl, n, rfl⟩
  go_enter Try.func64, Try.ntmps64
  go_wp2_with fail
  refine wp_region_qst (fun w' => Drawn w w') (by kernel_rfl) (by kernel_rfl) ⟨1, rfl⟩ ?_
  repeat (
    with_reducible refine wpQuiet_step (fun K hK => ?_)
    go_simp
    first
      | (refine hK _ ?_; clear hK K)
      | (apply Exists.intro
         refine ⟨fun w1 h1 => ?_, hK _ ?_⟩
         (first
          | (with_reducible rfl)
          | (go_at_call 52; refine (H.out _ h1).mono ?_; rintro e w' ⟨rfl, h9⟩; exact ⟨rfl, h9⟩))
         clear hK K))
  refine wpQuiet_nil ?_
  intro w2 h2
  go_wp2_with fail
  go_ret
  exact ⟨rfl, h2⟩
end Go.Proofs.Ytaejojbdkgccpaa

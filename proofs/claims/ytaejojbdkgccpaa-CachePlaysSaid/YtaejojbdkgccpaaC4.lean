/-
  Clone of slices; find.
-/
import Derived.Test.YtaejojbdkgccpaaC3
import Derived.Lib.SliceRun
namespace Go.Proofs.Ytaejojbdkgccpaa
open Go.RowKit Go.Maps Go.ChangeMaps

theorem info3 : (Try.prog.info? 3).map (fun i => (i.zero, i.size, i.bytes)) = some (some (.int .i64 0), 1, 8) := by kernel_rfl
theorem info43 : (Try.prog.info? 43).map (fun i => (i.zero, i.size, i.bytes)) = some (some (.agg #[.int .i64 0, .int .i64 0, .int .i64 0]), 3, 24) := by kernel_rfl

/-- a copy of a slice of integers -/
theorem sclone_any (w0 w : World) (F : List HP) (a : Option Addr) (n cap : Nat) (ys : List Value) (hs : St w0 F w) (hr : Reads w 1 (.slice a n cap) n ys) (h1 : ∀ u ∈ ys, u.oneCell' = true) (hn : n ≤ 1000000) :
    Calls Try.prog 40 #[.slice a n cap] w fun e w' => ∃ a' c', e = .returned (.slice a' n c') ∧ St w0 (HP.arr 3 1 (.slice a' n c') n ys :: F) w' := by
  obtain ⟨i0, hi, hz0, hz1, hz2⟩ := info_parts info3
  have hq := fun (w : World) (a : Option Addr) (n c : Nat) => Lib.run_eql_slice_nil (P := Try.prog) w 28 3 a n c 0 0 Try.underlying28
  cases a with
  | none =>
    go_enter Try.func40, Try.ntmps40
    go_wp2_with fail
    go_ret
    obtain ⟨hl, h | ⟨b, off, sp, cap', h, _⟩⟩ := hr
    · cases h.1
      have : ys = [] := List.eq_nil_of_length_eq_zero (by simpa using hl)
      subst this
      exact ⟨_, _, rfl, hs.arr_nil 3 1⟩
    · cases h
  | some a =>
    have hnew := hs.newArr 3 1 0 [] rfl (by decide)
    have hrn := hr.alloc (.cells #[] 3)
    go_enter Try.func40, Try.ntmps40
    go_wp2_with (at_builtin; refine wpList_append_st rfl _ _ 28 rfl 3 i0 _ 1 8 Try.underlying28 hi hz0 hz1 hz2 rfl _ _ rfl rfl 0 [] hnew n ys hrn h1 (by unfold maxLen; omega) (by omega) ?_; intro v' w' hs' hv')
    simp only [Nat.zero_add, List.nil_append] at hs'
    obtain ⟨a', c', rfl⟩ := (HP.arr_reads hs').form
    go_ret
    exact ⟨_, _, rfl, hs'⟩
/-- a copy of a table -/
theorem tclone_any (w0 w : World) (F : List HP) (a : Option Addr) (n cap : Nat) (ys : List Value) (hs : St w0 F w) (hr : Reads w 3 (.slice a n cap) n ys) (h1 : ∀ u ∈ ys, u.oneCell' = true) (hn : n ≤ 1000000) :
    Calls Try.prog 49 #[.slice a n cap] w fun e w' => ∃ a' c', e = .returned (.slice a' n c') ∧ St w0 (HP.arr 43 3 (.slice a' n c') n ys :: F) w' := by
  obtain ⟨i0, hi, hz0, hz1, hz2⟩ := info_parts info43
  have hq := fun (w : World) (a : Option Addr) (n c : Nat) => Lib.run_eql_slice_nil (P := Try.prog) w 22 43 a n c 0 0 Try.underlying22
  cases a with
  | none =>
    go_enter Try.func49, Try.ntmps49
    go_wp2_with fail
    go_ret
    obtain ⟨hl, h | ⟨b, off, sp, cap', h, _⟩⟩ := hr
    · cases h.1
      have : ys = [] := List.eq_nil_of_length_eq_zero (by simpa using hl)
      subst this
      exact ⟨_, _, rfl, hs.arr_nil 43 3⟩
    · cases h
  | some a =>
    have hnew := hs.newArr 43 3 0 [] rfl (by decide)
    have hrn := hr.alloc (.cells #[] 43)
    go_enter Try.func49, Try.ntmps49
    go_wp2_with (at_builtin; refine wpList_append_st rfl _ _ 22 rfl 43 i0 _ 3 24 Try.underlying22 hi hz0 hz1 hz2 rfl _ _ rfl rfl 0 [] hnew n ys hrn h1 (by unfold maxLen; omega) (by omega) ?_; intro v' w' hs' hv')
    simp only [Nat.zero_add, List.nil_append] at hs'
    obtain ⟨a', c', rfl⟩ := (HP.arr_reads hs').form
    go_ret
    exact ⟨_, _, rfl, hs'⟩

/-- find is of, with what is wrong -/
theorem find_of (w : World) (c bm : Nat) (c2 : w.cell? ⟨c, 2, none⟩ = some (.map (some bm))) (k : Int) (Q : Option Addr → World → Prop)
    (h : Calls Try.prog 39 #[.pointer (some ⟨c, 0, none⟩), .int .i64 k] w fun e w' => ∃ q, e = .returned (.pointer q) ∧ Q q w') :
    Calls Try.prog 41 #[.pointer (some ⟨c, 0, none⟩), .int .i64 k] w fun e w' => ∃ q, e = .returned (.tuple #[.pointer q, .int .i64 (if q = none then 1 else 0)]) ∧ Q q w' := by
  have H := Lib.hid h
  clear h
  go_enter Try.func41, Try.ntmps41
  go_wp2_with (first | (go_at_call 47; refine (cmade_true _ _ _ c2).mono ?_; rintro e w' ⟨rfl, rfl⟩))
  refine H.out.mono ?_
  rintro e w' ⟨q, rfl, hQ⟩
  cases q with
  | none =>
    go_wp2_with fail
    go_ret2
    exact ⟨none, rfl, hQ⟩
  | some q =>
    go_wp2_with fail
    go_ret2
    exact ⟨some q, rfl, hQ⟩
theorem find_nil (w : World) (k : Int) : Calls Try.prog 41 #[.pointer none, .int .i64 k] w fun e w' => e = .returned (.tuple #[.pointer none, .int .i64 5]) ∧ w = w' := by
  go_enter Try.func41, Try.ntmps41
  go_wp2_with (first | (go_at_call 47; refine (cmade_nil _).mono ?_; rintro e w' ⟨rfl, rfl⟩))
  go_ret2
  exact ⟨rfl, rfl⟩
theorem find_zero (w : World) (c : Nat) (c2 : w.cell? ⟨c, 2, none⟩ = some (.map none)) (k : Int) : Calls Try.prog 41 #[.pointer (some ⟨c, 0, none⟩), .int .i64 k] w fun e w' => e = .returned (.tuple #[.pointer none, .int .i64 5]) ∧ w = w' := by
  go_enter Try.func41, Try.ntmps41
  go_wp2_with (first | (go_at_call 47; refine (cmade_zero _ _ c2).mono ?_; rintro e w' ⟨rfl, rfl⟩))
  go_ret2
  exact ⟨rfl, rfl⟩
theorem of_zero (w : World) (c : Nat) (c2 : w.cell? ⟨c, 2, none⟩ = some (.map none)) (k : Int) : Calls Try.prog 39 #[.pointer (some ⟨c, 0, none⟩), .int .i64 k] w fun e w' => e = .returned (.pointer none) ∧ w = w' := by
  go_enter Try.func39, Try.ntmps39
  go_wp2_with (first | (go_at_call 47; refine (cmade_zero _ _ c2).mono ?_; rintro e w' ⟨rfl, rfl⟩))
  go_ret
  exact ⟨rfl, rfl⟩
end Go.Proofs.Ytaejojbdkgccpaa

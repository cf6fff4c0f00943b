/-
  The caches of package transfer and of its reference: what they are in memory; slices.Clone.
-/
import Derived.Test.YthlmjdkpkikcpaaProg
import Derived.Test.YthlmjdkpkikcpaaArr
namespace Go.Proofs.Ythlmjdkpkikcpaa
open Go.RowKit

theorem info3 : (Try.prog.info? 3).map (fun i => (i.zero, i.size, i.bytes)) = some (some (.int .i64 0), 1, 8) := by kernel_rfl
theorem info27 : (Try.prog.info? 27).map (fun i => (i.zero, i.size, i.bytes)) = some (some (.slice none 0 0), 1, 24) := by kernel_rfl

/-- the answer of 'made' -/
theorem made_true (w : World) (c : Nat) (n : Int) (c0 : w.cell? ⟨c, 0, none⟩ = some (.int .i64 n)) (hn : 1 ≤ n) :
    Calls Try.prog 29 #[.pointer (some ⟨c, 0, none⟩)] w fun e w' => e = .returned (.bool true) ∧ w = w' := by
  have hn' : decide (0 < n) = true := by simp; omega
  go_enter Try.func29, Try.ntmps29
  go_wp2
  go_ret
  exact ⟨rfl, rfl⟩
theorem made_zero (w : World) (c : Nat) (c0 : w.cell? ⟨c, 0, none⟩ = some (.int .i64 0)) :
    Calls Try.prog 29 #[.pointer (some ⟨c, 0, none⟩)] w fun e w' => e = .returned (.bool false) ∧ w = w' := by
  go_enter Try.func29, Try.ntmps29
  go_wp2
  go_ret
  exact ⟨rfl, rfl⟩
theorem made_nil (w : World) : Calls Try.prog 29 #[.pointer none] w fun e w' => e = .returned (.bool false) ∧ w = w' := by
  go_enter Try.func29, Try.ntmps29
  go_wp2
  go_ret
  exact ⟨rfl, rfl⟩
theorem rmade_true (w : World) (c : Nat) (n : Int) (c0 : w.cell? ⟨c, 0, none⟩ = some (.int .i64 n)) (hn : 1 ≤ n) :
    Calls Try.prog 35 #[.pointer (some ⟨c, 0, none⟩)] w fun e w' => e = .returned (.bool true) ∧ w = w' := by
  have hn' : decide (0 < n) = true := by simp; omega
  go_enter Try.func35, Try.ntmps35
  go_wp2
  go_ret
  exact ⟨rfl, rfl⟩
theorem rmade_nil (w : World) : Calls Try.prog 35 #[.pointer none] w fun e w' => e = .returned (.bool false) ∧ w = w' := by
  go_enter Try.func35, Try.ntmps35
  go_wp2
  go_ret
  exact ⟨rfl, rfl⟩

set_option maxHeartbeats 400000 in
theorem clone_any (w0 w : World) (F : List HP) (a : Option Addr) (n cap : Nat) (ys : List Value) (hs : St w0 F w) (hr : Reads w 1 (.slice a n cap) n ys) (h1 : ∀ u ∈ ys, u.oneCell' = true) (hn : n ≤ 1000000) :
    Calls Try.prog 30 #[.slice a n cap] w fun e w' => ∃ a' c', e = .returned (.slice a' n c') ∧ St w0 (HP.arr 3 1 (.slice a' n c') n ys :: F) w' := by
  obtain ⟨i0, hi, hz0, hz1, hz2⟩ := info_parts info3
  have hq := fun (w : World) (a : Option Addr) (n c : Nat) => Lib.run_eql_slice_nil (P := Try.prog) w 27 3 a n c 0 0 Try.underlying27
  cases a with
  | none =>
    go_enter Try.func30, Try.ntmps30
    go_wp2_with fail
    go_ret
    obtain ⟨hl, h | ⟨b, off, sp, cap', h, _⟩⟩ := hr
    · cases h.1
      have : ys = [] := List.eq_nil_of_length_eq_zero (by simpa using hl)
      subst this
      exact ⟨_, _, rfl, hs.arr_nil 3 1⟩
    · cases h
  | some a =>
    have hnew := hs.newArr 3 1 0 [] rfl (by decide)
    have hrn := hr.alloc (.cells #[] 3)
    go_enter Try.func30, Try.ntmps30
    go_wp2_with (at_builtin; refine wpList_append_st rfl _ _ 27 rfl 3 i0 _ 1 8 Try.underlying27 hi hz0 hz1 hz2 rfl _ _ rfl rfl 0 [] hnew n ys hrn h1 (by unfold maxLen; omega) (by omega) ?_; intro v' w' hs' hv')
    simp only [Nat.zero_add, List.nil_append] at hs'
    obtain ⟨a', c', rfl⟩ := (HP.arr_reads hs').form
    go_ret
    exact ⟨_, _, rfl, hs'⟩
end Go.Proofs.Ythlmjdkpkikcpaa

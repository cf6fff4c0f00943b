/-
  The reference's map: New, made, Get, put, Set, Clear.
-/
import Derived.Test.YthknghkiogiajaaP16
import Derived.Laws.MakeOwn
namespace Go.Proofs.Ythknghkiogiajaa
open Go.RowKit

def numsL (f : Nat → Int) : List Value := (List.range 1024).map fun p => .int .i64 (f p)
theorem numsL_len (f : Nat → Int) : (numsL f).length = 1024 := by simp [numsL]
theorem numsL_get {f : Nat → Int} {p : Nat} (h : p < 1024) : (numsL f)[p]? = some (.int .i64 (f p)) := by simp [numsL, h]
theorem numsL_set {f : Nat → Int} {p : Nat} (no : Int) (h : p < 1024) : (numsL f).set p (.int .i64 no) = numsL (upd f p no) := by
  apply List.ext_getElem?
  intro j
  by_cases hj : j < 1024
  · rw [numsL_get hj, List.getElem?_set]
    unfold upd
    by_cases e : p = j
    · subst e; simp [numsL_len, hj]
    · rw [if_neg e, numsL_get hj, if_neg (by omega)]
  · rw [List.getElem?_eq_none (by rw [List.length_set, numsL_len]; omega), List.getElem?_eq_none (by rw [numsL_len]; omega)]
def refV (c : Nat) (v : Value) (f : Nat → Int) : HP := HP.blk c #[v] 62 * HP.arr 3 1 v 1024 (numsL f)
def refP (c : Nat) (f : Nat → Int) : HP := HP.ex fun v => refV c v f

section
variable {w0 w : World} {F : List HP}
theorem refP_open {c : Nat} {f : Nat → Int} (h : St w0 (refP c f :: F) w) : ∃ b off cap, 1024 ≤ cap ∧ St w0 (HP.blk c #[.slice (some ⟨b, off, none⟩) 1024 cap] 62 :: HP.arr 3 1 (.slice (some ⟨b, off, none⟩) 1024 cap) 1024 (numsL f) :: F) w := by
  obtain ⟨v, h⟩ := St.ex.1 h
  have h := St.two.1 h
  rcases HP.arr_form h.swap with ⟨_, h0⟩ | ⟨b, off, cap, rfl, hc⟩
  · omega
  · exact ⟨b, off, cap, hc, h⟩
theorem refP_shut {c : Nat} {f : Nat → Int} {v : Value} (h : St w0 (HP.blk c #[v] 62 :: HP.arr 3 1 v 1024 (numsL f) :: F) w) : St w0 (refP c f :: F) w := St.ex.2 ⟨v, St.two.2 h⟩
/-- what can be read of it -/
def RefAt (w : World) (c : Nat) (b off cap : Nat) (f : Nat → Int) : Prop := w.cell? ⟨c, 0, none⟩ = some (.slice (some ⟨b, off, none⟩) 1024 cap) ∧ ∀ p, p < 1024 → w.cell? ⟨b, off + p, none⟩ = some (.int .i64 (f p))
theorem RefAt.of {c : Nat} {f : Nat → Int} (h : St w0 (refP c f :: F) w) : ∃ b off cap, RefAt w c b off cap f := by
  obtain ⟨b, off, cap, _, h⟩ := refP_open h
  obtain ⟨b', off', cap', hv, _, hc⟩ := (HP.arr_reads h.swap).lies (by omega)
  cases hv
  exact ⟨b, off, cap, h.cells1, fun p hp => hc p _ (numsL_get hp)⟩
end

theorem rmade_true (w : World) (c b off cap : Nat) (c0 : w.cell? ⟨c, 0, none⟩ = some (.slice (some ⟨b, off, none⟩) 1024 cap)) :
    Calls Try.prog 35 #[.pointer (some ⟨c, 0, none⟩)] w fun e w' => e = .returned (.bool true) ∧ w = w' := by
  go_enter Try.func35, Try.ntmps35
  go_wp2
  go_ret
  exact ⟨rfl, rfl⟩
theorem rmade_nil (w : World) : Calls Try.prog 35 #[.pointer none] w fun e w' => e = .returned (.bool false) ∧ w = w' := by
  go_enter Try.func35, Try.ntmps35
  go_wp2
  go_ret
  exact ⟨rfl, rfl⟩
theorem rget_nil (w : World) (p : Int) : Calls Try.prog 30 #[.pointer none, .int .i64 p] w fun e w' => e = .returned (.int .i64 0) ∧ w = w' := by
  go_enter Try.func30, Try.ntmps30
  go_wp2_with (go_at_call 35; refine (rmade_nil _).mono ?_; rintro e w' ⟨rfl, rfl⟩)
  go_ret
  exact ⟨rfl, rfl⟩
theorem rset_nil (w : World) (s n no : Int) : Calls Try.prog 36 #[.pointer none, .int .i64 s, .int .i64 n, .int .i64 no] w fun e w' => e = .returned (.int .i64 5) ∧ w = w' := by
  go_enter Try.func36, Try.ntmps36
  go_wp2_with (go_at_call 35; refine (rmade_nil _).mono ?_; rintro e w' ⟨rfl, rfl⟩)
  go_ret
  exact ⟨rfl, rfl⟩
theorem rclear_nil (w : World) (s n : Int) : Calls Try.prog 37 #[.pointer none, .int .i64 s, .int .i64 n] w fun e w' => e = .returned (.int .i64 5) ∧ w = w' := by
  go_enter Try.func37, Try.ntmps37
  go_wp2_with (go_at_call 35; refine (rmade_nil _).mono ?_; rintro e w' ⟨rfl, rfl⟩)
  go_ret
  exact ⟨rfl, rfl⟩
theorem rnodes_nil (w : World) : Calls Try.prog 38 #[.pointer none] w fun e w' => e = .returned (.tuple #[.int .i64 0, .int .i64 0]) ∧ w = w' := by
  go_enter Try.func38, Try.ntmps38
  go_wp2_with (go_at_call 35; refine (rmade_nil _).mono ?_; rintro e w' ⟨rfl, rfl⟩)
  go_ret2
  exact ⟨rfl, rfl⟩
theorem rmarks_nil (w : World) : Calls Try.prog 31 #[.pointer none] w fun e w' => e = .returned (.slice none 0 0) ∧ w = w' := by
  go_enter Try.func31, Try.ntmps31
  go_wp2_with (go_at_call 35; refine (rmade_nil _).mono ?_; rintro e w' ⟨rfl, rfl⟩)
  go_ret
  exact ⟨rfl, rfl⟩

theorem rget_in (w : World) (c b off cap : Nat) (f : Nat → Int) (hr : RefAt w c b off cap f) (p : Nat) (hp : p < 1024) :
    Calls Try.prog 30 #[.pointer (some ⟨c, 0, none⟩), .int .i64 p] w fun e w' => e = .returned (.int .i64 (f p)) ∧ w = w' := by
  obtain ⟨c0, hc⟩ := hr
  have c1 := hc p hp
  clear hc
  have b0 : decide ((p : Int) < 0) = false := by simp
  have b1 : decide ((1024 : Int) ≤ (p : Int)) = false := by simp; omega
  go_enter Try.func30, Try.ntmps30
  go_wp2_with (go_at_call 35; refine (rmade_true _ _ _ _ _ c0).mono ?_; rintro e w' ⟨rfl, rfl⟩)
  go_ret
  exact ⟨rfl, rfl⟩
theorem rget_any (w : World) (c b off cap : Nat) (f : Nat → Int) (hr : RefAt w c b off cap f) (p : Int) :
    Calls Try.prog 30 #[.pointer (some ⟨c, 0, none⟩), .int .i64 p] w fun e w' => e = .returned (.int .i64 (mget f p)) ∧ w = w' := by
  have c0 := hr.1
  unfold mget
  by_cases h0 : p < 0
  · rw [if_neg (by omega)]
    have b0 : decide (p < 0) = true := by simp; omega
    clear hr
    go_enter Try.func30, Try.ntmps30
    go_wp2_with (go_at_call 35; refine (rmade_true _ _ _ _ _ c0).mono ?_; rintro e w' ⟨rfl, rfl⟩)
    go_ret
    exact ⟨rfl, rfl⟩
  by_cases h1 : 1024 ≤ p
  · rw [if_neg (by omega)]
    have b0 : decide (p < 0) = false := by simp; omega
    have b1 : decide (1024 ≤ p) = true := by simp; omega
    clear hr
    go_enter Try.func30, Try.ntmps30
    go_wp2_with (go_at_call 35; refine (rmade_true _ _ _ _ _ c0).mono ?_; rintro e w' ⟨rfl, rfl⟩)
    go_ret
    exact ⟨rfl, rfl⟩
  rw [if_pos (by omega)]
  have e : p = ((p.toNat : Nat) : Int) := by omega
  have h := rget_in w c b off cap f hr p.toNat (by omega)
  rw [← e] at h
  exact h

theorem zeros_made : madeCells (Value.int .i64 0).cells (Int.toNat 1024 * 1) = (numsL fun _ => 0).toArray := by
  apply Array.ext_getElem?
  intro j
  by_cases hj : j < 1024
  · rw [List.getElem?_toArray (xs := numsL fun _ => 0), numsL_get hj]
    simp [madeCells, Value.cells, hj, Nat.mod_one]
  · rw [Array.getElem?_eq_none (by simp [madeCells]; omega), Array.getElem?_eq_none (by simp [numsL_len]; omega)]
theorem rnew_any (w0 w : World) (F : List HP) (hs : St w0 F w) : Calls Try.prog 24 #[] w fun e w' => ∃ c, e = .returned (.pointer (some ⟨c, 0, none⟩)) ∧ St w0 (refP c (fun _ => 0) :: F) w' := by
  obtain ⟨j0, hj, hy0, hy1, hy2⟩ := info_parts info3
  have hm : ∀ w : World, (Instr.makeSlice 60 (.int .i64 1024) (.int .i64 1024)).run Try.prog w = .ok (.slice (some ⟨w.heap.size, 0, none⟩) 1024 1024) (w.alloc (.cells (numsL fun _ => 0).toArray 3)) := by
    intro w
    have h := run_makeSlice (P := Try.prog) w 60 3 j0 _ Try.underlying60 hj hy0 .i64 .i64 1024 1024 (by omega) (by omega) (by rw [hy1]; decide) (by rw [hy2]; decide) (by omega)
    rw [h, hy1, zeros_made]
    rfl
  have h1 := hs.newArr 3 1 1024 (numsL fun _ => 0) (by rw [numsL_len]) (by decide)
  have h2 := (h1.allocRow #[.slice (some ⟨w.heap.size, 0, none⟩) 1024 1024] 62)
  have h3 := refP_shut h2
  rw [show (w.alloc (.cells (numsL fun _ => 0).toArray 3)).heap.size = w.heap.size + 1 by simp] at h3
  clear h1 h2
  go_enter Try.func24, Try.ntmps24
  go_wp2
  go_ret
  exact ⟨_, rfl, h3⟩

set_option maxHeartbeats 1000000 in
theorem rput_in (w0 w : World) (F : List HP) (c : Nat) (f : Nat → Int) (hs : St w0 (refP c f :: F) w) (s n : Nat) (h1 : 1 ≤ n) (h2 : s + n ≤ 1024) (no : Int) :
    Calls Try.prog 40 #[.pointer (some ⟨c, 0, none⟩), .int .i64 s, .int .i64 n, .int .i64 no] w fun e w' => e = .returned (.int .i64 0) ∧ St w0 (refP c (fill f s n no) :: F) w' := by
  have b0 : decide ((s : Int) < 0) = false := by simp
  have b1 : decide ((n : Int) < 1) = false := by simp; omega
  have b2 : decide ((1024 : Int) ≤ (s : Int)) = false := by simp; omega
  have b3 : decide ((1024 : Int) - (s : Int) < (n : Int)) = false := by simp; omega
  go_enter Try.func40, Try.ntmps40
  go_wp2_with fail
  go_loopw [9] (fun i wr => ∃ k : Nat, k ≤ n ∧ i = .int .i64 ((s + k : Nat) : Int) ∧ St w0 (refP c (fill f s k no) :: F) wr) (fun i _ => s + n - (intOf i).toNat)
  case atStart => exact ⟨0, Nat.zero_le _, rfl, by rw [fill_zero]; exact hs⟩
  case round =>
    obtain ⟨k, hk, rfl, hs1⟩ := hrel
    by_cases hlt : k < n
    · obtain ⟨b, off, cap, hcap, h⟩ := refP_open hs1
      have c0 := h.cells1
      obtain ⟨hset, hfz⟩ := HP.arr_set (s + k) (.int .i64 no) (by omega) h.swap
      have c1 : wr.cell? ⟨b, off + (s + k), none⟩ = some (.int .i64 (fill f s k no (s + k))) := by
        obtain ⟨b', off', cap', hv, _, hc⟩ := (HP.arr_reads h.swap).lies (by omega)
        cases hv
        exact hc _ _ (numsL_get (by omega))
      rw [numsL_set _ (by omega), fill_succ] at hset
      have h3 := refP_shut hset.swap
      clear h hset hs1
      go_wp2_with fail
      go_roundw
      case rel => exact ⟨k + 1, hlt, by go_num, h3⟩
      case measure => simp [intOf]; omega
    · have e : k = n := by omega
      subst e
      go_wp2_with fail
      go_ret
      exact ⟨rfl, hs1⟩
theorem rput_bad (w : World) (c : Nat) (s n no : Int) (h : ¬ okRun s n) :
    Calls Try.prog 40 #[.pointer (some ⟨c, 0, none⟩), .int .i64 s, .int .i64 n, .int .i64 no] w fun e w' => e = .returned (.int .i64 1) ∧ w = w' := by
  unfold okRun at h
  by_cases h0 : s < 0
  · have b0 : decide (s < 0) = true := by simp; omega
    clear h
    go_enter Try.func40, Try.ntmps40
    go_wp2_with fail
    go_ret
    exact ⟨rfl, rfl⟩
  have b0 : decide (s < 0) = false := by simp; omega
  by_cases h1 : n < 1
  · have b1 : decide (n < 1) = true := by simp; omega
    clear h
    go_enter Try.func40, Try.ntmps40
    go_wp2_with fail
    go_ret
    exact ⟨rfl, rfl⟩
  have b1 : decide (n < 1) = false := by simp; omega
  by_cases h2 : 1024 ≤ s
  · have b2 : decide (1024 ≤ s) = true := by simp; omega
    clear h
    go_enter Try.func40, Try.ntmps40
    go_wp2_with fail
    go_ret
    exact ⟨rfl, rfl⟩
  have b2 : decide (1024 ≤ s) = false := by simp; omega
  have b3 : decide (1024 - s < n) = true := by simp; omega
  clear h
  go_enter Try.func40, Try.ntmps40
  go_wp2_with fail
  go_ret
  exact ⟨rfl, rfl⟩
theorem rput_x (w0 w : World) (F : List HP) (c : Nat) (f : Nat → Int) (hs : St w0 (refP c f :: F) w) (s n no : Int) :
    Calls Try.prog 40 #[.pointer (some ⟨c, 0, none⟩), .int .i64 s, .int .i64 n, .int .i64 no] w fun e w' => e = .returned (.int .i64 (setE s n)) ∧ St w0 (refP c (mset f s n no) :: F) w' := by
  unfold setE mset
  by_cases h : okRun s n
  · rw [if_pos h, if_pos h]
    have h' := h
    unfold okRun at h'
    have e1 : s = ((s.toNat : Nat) : Int) := by omega
    have e2 : n = ((n.toNat : Nat) : Int) := by omega
    have hc := rput_in w0 w F c f hs s.toNat n.toNat (by omega) (by omega) no
    rw [← e1, ← e2] at hc
    exact hc
  · rw [if_neg h, if_neg h]
    refine (rput_bad w c s n no h).mono ?_
    rintro e w' ⟨rfl, rfl⟩
    exact ⟨rfl, hs⟩
theorem rSet_x (w0 w : World) (F : List HP) (c : Nat) (f : Nat → Int) (hs : St w0 (refP c f :: F) w) (s n no : Int) :
    Calls Try.prog 36 #[.pointer (some ⟨c, 0, none⟩), .int .i64 s, .int .i64 n, .int .i64 no] w fun e w' => e = .returned (.int .i64 (SetE s n no)) ∧ St w0 (refP c (Mset f s n no) :: F) w' := by
  obtain ⟨b, off, cap, c0, _⟩ := RefAt.of hs
  by_cases h1 : no < 1
  · have hn : ¬ okSet s n no := fun h => by have := h.1.1; omega
    rw [show SetE s n no = 1 from if_neg hn, show Mset f s n no = f from if_neg hn]
    clear hn
    have b1 : decide (no < 1) = true := by simp; omega
    go_enter Try.func36, Try.ntmps36
    go_wp2_with (go_at_call 35; refine (rmade_true _ _ _ _ _ c0).mono ?_; rintro e w' ⟨rfl, rfl⟩)
    go_ret
    exact ⟨rfl, hs⟩
  have b1 : decide (no < 1) = false := by simp; omega
  by_cases h2 : 1073741824 < no
  · have hn : ¬ okSet s n no := fun h => by have := h.1.2; omega
    rw [show SetE s n no = 1 from if_neg hn, show Mset f s n no = f from if_neg hn]
    clear hn
    have b2 : decide (1073741824 < no) = true := by simp; omega
    go_enter Try.func36, Try.ntmps36
    go_wp2_with (go_at_call 35; refine (rmade_true _ _ _ _ _ c0).mono ?_; rintro e w' ⟨rfl, rfl⟩)
    go_ret
    exact ⟨rfl, hs⟩
  have b2 : decide (1073741824 < no) = false := by simp; omega
  have e : okSet s n no ↔ okRun s n := ⟨fun h => h.2, fun h => ⟨⟨by omega, by omega⟩, h⟩⟩
  have hx := Lib.hid (rput_x w0 w F c f hs s n no)
  rw [show SetE s n no = setE s n by unfold SetE setE; simp only [e], show Mset f s n no = mset f s n no by unfold Mset mset; simp only [e]]
  clear e
  go_enter Try.func36, Try.ntmps36
  go_wp2_with (go_at_call 35; refine (rmade_true _ _ _ _ _ c0).mono ?_; rintro e w' ⟨rfl, rfl⟩)
  refine hx.out.mono ?_
  rintro e w' ⟨rfl, h⟩
  go_wp2_with fail
  go_ret
  exact ⟨rfl, h⟩
theorem rClear_x (w0 w : World) (F : List HP) (c : Nat) (f : Nat → Int) (hs : St w0 (refP c f :: F) w) (s n : Int) :
    Calls Try.prog 37 #[.pointer (some ⟨c, 0, none⟩), .int .i64 s, .int .i64 n] w fun e w' => e = .returned (.int .i64 (setE s n)) ∧ St w0 (refP c (mset f s n 0) :: F) w' := by
  obtain ⟨b, off, cap, c0, _⟩ := RefAt.of hs
  go_enter Try.func37, Try.ntmps37
  go_wp2_with (go_at_call 35; refine (rmade_true _ _ _ _ _ c0).mono ?_; rintro e w' ⟨rfl, rfl⟩)
  refine (rput_x w0 w F c f hs s n 0).mono ?_
  rintro e w' ⟨rfl, h⟩
  go_wp2_with fail
  go_ret
  exact ⟨rfl, h⟩
end Go.Proofs.Ythknghkiogiajaa

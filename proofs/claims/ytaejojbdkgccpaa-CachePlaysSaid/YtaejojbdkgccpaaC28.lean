/-
  play and Same on caches that were not made and the nil reference. (Printed by mkC28.py.)
-/
import Derived.Test.YtaejojbdkgccpaaC27
namespace Go.Proofs.Ytaejojbdkgccpaa
open Go.RowKit Go.Maps Go.ChangeMaps

theorem bats_nil {w0 w : World} {L : List HP} (h : St w0 L w) : St w0 (batsP (.slice none 0 0) [] :: L) w := by
  refine St.ex.2 ⟨⟨[], rfl⟩, ?_⟩
  show St w0 (HP.arr 48 2 (.slice none 0 0) 0 [] * HP.emp :: L) w
  rw [HP.sep_emp]
  exact h.arr_nil 48 2
theorem same_none {w0 w : World} {L : List HP} (h : St w0 L w) : Calls Try.prog 30 #[.slice none 0 0, .slice none 0 0] w fun e w' => e = .returned (.bool true) ∧ St w0 L w' := by
  refine (same_any w0 w L none none 0 0 [] [] (by simp) (by simp) (by simp) (by simp) (bats_nil (bats_nil h))).mono ?_
  rintro e w' ⟨rfl, g⟩
  exact ⟨rfl, g.drop.drop⟩
theorem ints_none {w0 w : World} {L : List HP} (h : St w0 L w) : Calls Try.prog 19 #[.slice none 0 0, .slice none 0 0] w fun e w' => e = .returned (.bool true) ∧ St w0 L w' := by
  have n : IntsAt w (.slice none 0 0) [] := Reads.nil w 1
  refine (Ints_any w none none 0 0 [] [] n n (by simp) (by simp)).mono ?_
  rintro e w' ⟨rfl, k, rfl⟩
  exact ⟨rfl, h.drewN k⟩
/-- a cache that was not made, in all worlds of an assertion -/
def BareS (w0 : World) (L : List HP) (p : Value) : Prop := ∀ w, St w0 L w → Bare p w
theorem BareS.cons {w0 : World} {L : List HP} {p : Value} (h : BareS w0 L p) (A : HP) : BareS w0 (A :: L) p := fun w g => h w g.drop

set_option maxRecDepth 10000 in
set_option maxHeartbeats 4000000 in
theorem play_bare (w0 w : World) (L : List HP) (p : Value) (hb : BareS w0 L p) (hs : St w0 L w) (kd cls o : Int) (v : Value) :
    Calls Try.prog 35 #[p, .pointer none, .agg #[.int .i64 kd, .int .i64 cls, .int .i64 o, v]] w fun e w' => e = .returned (.bool true) ∧ St w0 L w' := by
  have h1 := hs.allocRow #[.int .i64 kd, .int .i64 cls, .int .i64 o, v] 37
  generalize hh : w.heap.size = h at *
  have H1 := Lib.hid h1
  have B := Lib.hid (hb.cons (HP.blk h #[.int .i64 kd, .int .i64 cls, .int .i64 o, v] 37))
  have DN := Lib.hid fun w1 (g : St w0 (HP.blk h #[.int .i64 kd, .int .i64 cls, .int .i64 o, v] 37 :: L) w1) => g.drop
  obtain ⟨x0, x1, x2, x3⟩ := h1.cells4
  clear h1 hb hs
  by_cases h0 : kd = 0
  · subst h0
    go_enter Try.func35, Try.ntmps35
    go_wp2_with fail
    refine (take_bare (B.out _ H1.out) cls).mono ?_
    rintro e w' ⟨rfl, rfl⟩
    go_wp2_with fail
    refine (rtake_nil _ cls).mono ?_
    rintro e w' ⟨rfl, rfl⟩
    go_wp2_with fail
    go_ret
    exact ⟨rfl, DN.out _ H1.out⟩
  by_cases h1 : kd = 1
  · subst h1
    go_enter Try.func35, Try.ntmps35
    go_wp2_with fail
    refine (want_bare (B.out _ H1.out) cls).mono ?_
    rintro e w' ⟨rfl, rfl⟩
    go_wp2_with fail
    refine (rwant_nil _ cls).mono ?_
    rintro e w' ⟨rfl, rfl⟩
    go_wp2_with fail
    go_ret
    exact ⟨rfl, DN.out _ H1.out⟩
  by_cases h2 : kd = 2
  · subst h2
    go_enter Try.func35, Try.ntmps35
    go_wp2_with fail
    refine wp_region_qst (fun w' => St w0 (HP.blk h #[.int .i64 2, .int .i64 cls, .int .i64 o, v] 37 :: L) w') (by kernel_rfl) (by kernel_rfl) H1.out.drew ?_
    repeat (
      with_reducible refine wpQuiet_step (fun K hK => ?_)
      go_simp
      first
        | (refine hK _ ?_; clear hK K)
        | (apply Exists.intro
           refine ⟨fun w1 h1 => ?_, hK _ ?_⟩
           (first
            | (with_reducible rfl)
            | (go_at_call 20; refine (fill_bare (B.out _ h1) cls v).mono ?_; rintro e w' ⟨rfl, rfl⟩; exact ⟨rfl, h1⟩)
            | (go_at_call 55; refine (rfill_nil _ cls v).mono ?_; rintro e w' ⟨rfl, rfl⟩; exact ⟨rfl, h1⟩)
            | (obtain ⟨z0, z1, z2, z3⟩ := h1.cells4; go_simp; with_reducible rfl))
           clear hK K))
    refine wpQuiet_nil ?_
    intro w2 h2
    go_wp2_with fail
    go_ret
    exact ⟨rfl, DN.out _ h2⟩
  by_cases h3 : kd = 3
  · subst h3
    go_enter Try.func35, Try.ntmps35
    go_wp2_with fail
    refine (put_bare (B.out _ H1.out) cls o).mono ?_
    rintro e w' ⟨rfl, rfl⟩
    go_wp2_with fail
    refine (rput_nil _ cls o).mono ?_
    rintro e w' ⟨rfl, rfl⟩
    go_wp2_with fail
    refine (ints_none H1.out).mono ?_
    rintro e w' ⟨rfl, h9⟩
    go_wp2_with fail
    go_ret
    exact ⟨rfl, DN.out _ h9⟩
  by_cases h4 : kd = 4
  · subst h4
    go_enter Try.func35, Try.ntmps35
    go_wp2_with fail
    refine (scavenge_bare (B.out _ H1.out) ).mono ?_
    rintro e w' ⟨rfl, rfl⟩
    go_wp2_with fail
    refine (rscavenge_nil _ ).mono ?_
    rintro e w' ⟨rfl, rfl⟩
    go_wp2_with fail
    refine (same_none H1.out).mono ?_
    rintro e w' ⟨rfl, h9⟩
    go_wp2_with fail
    go_ret
    exact ⟨rfl, DN.out _ h9⟩
  by_cases h5 : kd = 5
  · subst h5
    go_enter Try.func35, Try.ntmps35
    go_wp2_with fail
    refine (drain_bare (B.out _ H1.out) ).mono ?_
    rintro e w' ⟨rfl, rfl⟩
    go_wp2_with fail
    refine (rdrain_nil _ ).mono ?_
    rintro e w' ⟨rfl, rfl⟩
    go_wp2_with fail
    refine (same_none H1.out).mono ?_
    rintro e w' ⟨rfl, h9⟩
    go_wp2_with fail
    go_ret
    exact ⟨rfl, DN.out _ h9⟩
  have b0 : (kd == 0) = false := by rw [beq_eq_false_iff_ne]; exact h0
  have b1 : (kd == 1) = false := by rw [beq_eq_false_iff_ne]; exact h1
  have b2 : (kd == 2) = false := by rw [beq_eq_false_iff_ne]; exact h2
  have b3 : (kd == 3) = false := by rw [beq_eq_false_iff_ne]; exact h3
  have b4 : (kd == 4) = false := by rw [beq_eq_false_iff_ne]; exact h4
  have b5 : (kd == 5) = false := by rw [beq_eq_false_iff_ne]; exact h5
  clear h0 h1 h2 h3 h4 h5
  go_enter Try.func35, Try.ntmps35
  go_wp2_with fail
  go_ret
  exact ⟨rfl, DN.out _ H1.out⟩
end Go.Proofs.Ytaejojbdkgccpaa

/-
  The reference's map: Marks.
-/
import Derived.Test.YthknghkiogiajaaP22
namespace Go.Proofs.Ythknghkiogiajaa
open Go.RowKit

set_option maxRecDepth 10000 in
set_option maxHeartbeats 4000000 in
theorem rMarks_any (w0 w : World) (F : List HP) (c : Nat) (f : Nat → Int) (hs : St w0 (refP c f :: F) w) :
    Calls Try.prog 31 #[.pointer (some ⟨c, 0, none⟩)] w fun e w' => ∃ a cap, e = .returned (.slice a (mks f 1024).length cap) ∧ St w0 (marksP (.slice a (mks f 1024).length cap) (mks f 1024) :: refP c f :: F) w' := by
  obtain ⟨i0, hi, hz0, hz1, hz2⟩ := info_parts info42
  go_enter Try.func31, Try.ntmps31
  obtain ⟨rb, roff, rcap, rc0, _⟩ := RefAt.of hs
  go_wp2_with (go_at_call 35; refine (rmade_true _ _ _ _ _ rc0).mono ?_; rintro e w' ⟨rfl, rfl⟩)
  clear rc0
  go_loopw [3, 4] (fun v i wr => ∃ (k : Nat) (l : List Mk) (a : Option Addr) (cap : Nat), k ≤ 1024 ∧ i = .int .i64 k ∧ Hid (mks f k = l) ∧ v = .slice a l.length cap ∧ St w0 (marksP v l :: refP c f :: F) wr) (fun _ i _ => 1024 - (intOf i).toNat)
  case atStart => exact ⟨0, [], none, 0, Nat.zero_le _, rfl, Lib.hid rfl, rfl, hs.arr_nil 42 3⟩
  case round =>
    obtain ⟨k, l, a, cap, hk, rfl, hl, rfl, hs1⟩ := hrel
    by_cases hlt : k < 1024
    · have hll : l.length ≤ 1024 := by have := mks_len f k; rw [hl.out] at this; omega
      have hstep : Hid (mks f (k + 1) = addMk l k (f k)) := Lib.hid (by show addMk _ _ _ = _; rw [hl.out])
      obtain ⟨rb, roff, rcap, rc0, rck⟩ := RefAt.of (hs1.front 1)
      have rc1 := rck k hlt
      have hk0 : (0 : Int) ≤ (k : Int) := by omega
      have hk1 : (k : Int) < 1024 := by omega
      clear rck
      by_cases h0 : f k = 0
      · have b0 : (f k == 0) = true := by simp [h0]
        have H0 := Lib.hid h0
        clear h0
        go_wp2_with fail
        go_roundw
        case rel => exact ⟨k + 1, l, a, cap, hlt, by go_num, Lib.hid (by rw [hstep.out, H0.out, addMk_zero]), rfl, hs1⟩
        case measure => simp [intOf]; omega
      · have b0 : (f k == 0) = false := by simp [h0]
        have H0 := Lib.hid h0
        clear h0
        rcases List.eq_nil_or_concat l with e | ⟨l0, x, e⟩
        · subst e
          go_wp2_with fail
          go_quiet (fail)
          have h3 := hs1.drewN nq
          have h4 := St.newArr h3 42 3 1 (Mk.cells ⟨k, 1, f k⟩) rfl (by unfold maxLen; omega)
          rw [show (wr.drewN nq).heap.size = wr.heap.size by simp [World.drewN]] at h4
          have r4 := HP.arr_reads h4
          have h5 := h4.swap
          go_wp2_with (at_builtin; refine wpList_append_st rfl _ _ 39 rfl 42 i0 _ 3 24 Try.underlying39 hi hz0 hz1 hz2 rfl (.slice a 0 cap) _ rfl rfl 0 (mkCells []) (by exact h5) 1 (Mk.cells ⟨k, 1, f k⟩) (by exact r4) (by have := oneCell_mk [⟨k, 1, f k⟩]; rwa [mkCells_one] at this) (by unfold maxLen; omega) (by omega) ?_; intro v5 w5 hs5 hv5; clear hv5; obtain ⟨a5, p5, rfl⟩ := (HP.arr_reads hs5).form)
          go_roundw
          case rel =>
            refine ⟨k + 1, [] ++ [⟨k, 1, f k⟩], a5, p5, hlt, by go_num, Lib.hid ?_, ?_, ?_⟩
            · rw [hstep.out]; exact addMk_nil _ H0.out
            · rw [List.length_append]; first | rfl | (simp; done)
            · have h6 : St w0 (marksP (.slice a5 (0 + 1) p5) ([] ++ [⟨k, 1, f k⟩]) :: refP c f :: F) w5 := by
                unfold marksP
                rw [mkCells_append, mkCells_one, List.length_append]
                first | exact hs5.pick 3 [0, 2] | (simp only [List.length_append, List.length_singleton]; exact hs5.pick 3 [0, 2])
              exact h6
          case measure => simp [intOf]; omega
        · have e : l = l0 ++ [x] := by simpa using e
          subst e
          have hlen : (l0 ++ [x]).length = l0.length + 1 := by simp
          have hbx := mks_ok f k x (by rw [hl.out]; simp)
          obtain ⟨bx1, bx2, bx3⟩ := hbx
          have hw : IntKind.i64.wrap (x.s + x.n) = x.s + x.n := IntWalk.i64_in _ (by omega)
          unfold marksP at hs1
          rw [hlen] at hs1 hll ⊢
          obtain ⟨b, off, cap', hv, hcap, hcell⟩ := (HP.arr_reads hs1).lies (by omega)
          cases hv
          obtain ⟨q1, q2, q3⟩ := mkCells_last l0 x
          have c1 := hcell _ _ q1
          have c2 : wr.cell? ⟨b, off + l0.length * 3 + 1, none⟩ = some (.int .i64 x.n) := by rw [Nat.add_assoc]; exact hcell _ _ q2
          have c3 : wr.cell? ⟨b, off + l0.length * 3 + 2, none⟩ = some (.int .i64 x.no) := by rw [Nat.add_assoc]; exact hcell _ _ q3
          have hge : decide (0 ≤ (l0.length : Int)) = true := by simp
          clear hcell q1 q2 q3 hlen
          by_cases t1 : x.s + x.n = k
          · have b1 : (x.s + x.n == (k : Int)) = true := by simp [t1]
            by_cases t2 : x.no = f k
            · have b2 : (x.no == f k) = true := by simp [t2]
              have T := Lib.hid (show x.s + x.n = k ∧ x.no = f k from ⟨t1, t2⟩)
              clear t1 t2
              obtain ⟨hset, hfz⟩ := HP.arr_set (l0.length * 3 + 1) (.int .i64 (x.n + 1)) (by omega) hs1
              rw [mkCells_grow, ← Nat.add_assoc] at hset
              rw [← Nat.add_assoc] at hfz
              go_wp2_with fail
              go_quiet (fail)
              go_wp2_with fail
              go_roundw
              case rel =>
                refine ⟨k + 1, l0 ++ [⟨x.s, x.n + 1, x.no⟩], some ⟨b, off, none⟩, cap, hlt, by go_num, Lib.hid ?_, by simp, ?_⟩
                · rw [hstep.out]; exact addMk_grow _ _ H0.out T.out
                · have h6 : St w0 (marksP (.slice (some ⟨b, off, none⟩) (l0.length + 1) cap) (l0 ++ [⟨x.s, x.n + 1, x.no⟩]) :: refP c f :: F) ((wr.setCell ⟨b, off + l0.length * 3 + 1, none⟩ (.int .i64 (x.n + 1))).drewN nq) := by
                    unfold marksP
                    rw [List.length_append]
                    exact hset.drewN nq
                  exact h6
              case measure => simp [intOf]; omega
            · have b2 : (x.no == f k) = false := by simp [t2]
              have T := Lib.hid (show ¬ (x.s + x.n = k ∧ x.no = f k) from fun h => t2 h.2)
              clear t1 t2
              go_wp2_with fail
              go_quiet (fail)
              have h3 := hs1.drewN nq
              have h4 := St.newArr h3 42 3 1 (Mk.cells ⟨k, 1, f k⟩) rfl (by unfold maxLen; omega)
              rw [show (wr.drewN nq).heap.size = wr.heap.size by simp [World.drewN]] at h4
              have r4 := HP.arr_reads h4
              have h5 := h4.swap
              go_wp2_with (at_builtin; refine wpList_append_st rfl _ _ 39 rfl 42 i0 _ 3 24 Try.underlying39 hi hz0 hz1 hz2 rfl (.slice (some ⟨b, off, none⟩) (l0.length + 1) cap) _ rfl rfl (l0.length + 1) (mkCells (l0 ++ [x])) (by exact h5) 1 (Mk.cells ⟨k, 1, f k⟩) (by exact r4) (by have := oneCell_mk [⟨k, 1, f k⟩]; rwa [mkCells_one] at this) (by unfold maxLen; omega) (by omega) ?_; intro v5 w5 hs5 hv5; clear hv5; obtain ⟨a5, p5, rfl⟩ := (HP.arr_reads hs5).form)
              go_roundw
              case rel =>
                refine ⟨k + 1, (l0 ++ [x]) ++ [⟨k, 1, f k⟩], a5, p5, hlt, by go_num, Lib.hid ?_, ?_, ?_⟩
                · rw [hstep.out]; exact addMk_new _ _ H0.out T.out
                · rw [List.length_append]; first | rfl | (simp; done)
                · have h6 : St w0 (marksP (.slice a5 ((l0.length + 1) + 1) p5) ((l0 ++ [x]) ++ [⟨k, 1, f k⟩]) :: refP c f :: F) w5 := by
                    unfold marksP
                    rw [mkCells_append, mkCells_one, List.length_append]
                    first | exact hs5.pick 3 [0, 2] | (simp only [List.length_append, List.length_singleton]; exact hs5.pick 3 [0, 2])
                  exact h6
              case measure => simp [intOf]; omega
          · have b1 : (x.s + x.n == (k : Int)) = false := by simp [t1]
            have T := Lib.hid (show ¬ (x.s + x.n = k ∧ x.no = f k) from fun h => t1 h.1)
            clear t1
            go_wp2_with fail
            go_quiet (fail)
            have h3 := hs1.drewN nq
            have h4 := St.newArr h3 42 3 1 (Mk.cells ⟨k, 1, f k⟩) rfl (by unfold maxLen; omega)
            rw [show (wr.drewN nq).heap.size = wr.heap.size by simp [World.drewN]] at h4
            have r4 := HP.arr_reads h4
            have h5 := h4.swap
            go_wp2_with (at_builtin; refine wpList_append_st rfl _ _ 39 rfl 42 i0 _ 3 24 Try.underlying39 hi hz0 hz1 hz2 rfl (.slice (some ⟨b, off, none⟩) (l0.length + 1) cap) _ rfl rfl (l0.length + 1) (mkCells (l0 ++ [x])) (by exact h5) 1 (Mk.cells ⟨k, 1, f k⟩) (by exact r4) (by have := oneCell_mk [⟨k, 1, f k⟩]; rwa [mkCells_one] at this) (by unfold maxLen; omega) (by omega) ?_; intro v5 w5 hs5 hv5; clear hv5; obtain ⟨a5, p5, rfl⟩ := (HP.arr_reads hs5).form)
            go_roundw
            case rel =>
              refine ⟨k + 1, (l0 ++ [x]) ++ [⟨k, 1, f k⟩], a5, p5, hlt, by go_num, Lib.hid ?_, ?_, ?_⟩
              · rw [hstep.out]; exact addMk_new _ _ H0.out T.out
              · rw [List.length_append]; first | rfl | (simp; done)
              · have h6 : St w0 (marksP (.slice a5 ((l0.length + 1) + 1) p5) ((l0 ++ [x]) ++ [⟨k, 1, f k⟩]) :: refP c f :: F) w5 := by
                  unfold marksP
                  rw [mkCells_append, mkCells_one, List.length_append]
                  first | exact hs5.pick 3 [0, 2] | (simp only [List.length_append, List.length_singleton]; exact hs5.pick 3 [0, 2])
                exact h6
            case measure => simp [intOf]; omega
    · have e : k = 1024 := by omega
      subst e
      have e := hl.out
      subst e
      go_wp2_with fail
      go_ret
      exact ⟨_, _, rfl, hs1⟩
end Go.Proofs.Ythknghkiogiajaa

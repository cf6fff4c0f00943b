/-
  The reference's Text.
-/
import Derived.Test.YtcihbmifogfdpaaGreatDoorRA
import Derived.Test.YtcihbmifogfdpaaGreatDoorR6
import Derived.Test.YtcihbmifogfdpaaGreatDoorR7
namespace Go.Proofs.YtcihbmifogfdpaaGreatDoor
open Go.RowKit

theorem dig_of (w : World) {x : Int} (h : numOk x = true) : ∃ D : ByteArray, D.data.toList = Lib.itoa x ∧ D.size ≤ 100 ∧
    ∀ w, Calls Tryz.prog 29 #[.int .i64 x] w fun e w' => e = .returned (.string D) ∧ RowKit.Below w.heap.size w w' := by
  obtain ⟨h0, h1⟩ := numOk_iff.1 h
  obtain ⟨v, rfl⟩ : ∃ v : Nat, x = v := ⟨x.toNat, by omega⟩
  have := Lib.itoa_length_le (v : Int) (by omega) (by omega)
  rw [itoa_nat] at this
  refine ⟨⟨(Lib.decDigits v).toArray⟩, by rw [itoa_nat], ?_, fun w => rdig_nat w v (by omega)⟩
  show (Lib.decDigits v).toArray.size ≤ 100
  simp only [List.size_toArray]
  omega

set_option maxRecDepth 10000 in
set_option maxHeartbeats 4000000 in
theorem rtext_any (w : World) (a : Option Addr) (cap : Nat) (l : List Rw) (hw : ∀ r ∈ l, r.wf) (hl : l.length ≤ 9223372036854775807) (hr : RowsAt w (.slice a l.length cap) l) :
    Calls Tryz.prog 18 #[.slice a l.length cap] w fun e w' => e = .returned (.tuple #[.string (ptS l), .int .i64 (ptE l)]) ∧ RowKit.Below w.heap.size w w' := by
  have cP := Lib.hid (is_any w a cap l hw hl hr)
  by_cases h : isProfB l = true
  · have HR := Lib.hid hr
    have HW := Lib.hid hw
    have E1 := Lib.hid (show ptS l = ⟨(textL l).toArray⟩ from if_pos h)
    have E2 := Lib.hid (show ptE l = 0 from if_pos h)
    have HOK := Lib.hid (isProfB_ok h)
    have HSH := Lib.hid (short_of h)
    have hl2 : l.length ≤ 200 := (isProfB_ok h).1
    rw [h] at cP
    clear h hr hw
    go_enter Tryz.func18, Tryz.ntmps18
    go_wp2_with (go_at_call 25; refine cP.out.mono ?_; rintro e w2 ⟨rfl, hb2⟩)
    have HB2 := Lib.hid hb2
    clear hb2 cP
    go_loopw [4, 5] (fun s i wr => ∃ k : Nat, k ≤ l.length ∧ s = .string ⟨(textL (l.take k)).toArray⟩ ∧ i = .int .i64 k ∧ Hid (RowKit.Below w.heap.size w wr)) (fun _ i _ => l.length - (intOf i).toNat)
    case atStart => exact ⟨0, Nat.zero_le _, rfl, rfl, HB2⟩
    case round =>
      clear HB2
      obtain ⟨k, hk, rfl, rfl, HB⟩ := hrel
      by_cases hlt : k < l.length
      · obtain ⟨r, hrk⟩ : ∃ r, l[k]? = some r := ⟨l[k], List.getElem?_eq_getElem hlt⟩
        have hk0 : (0 : Int) ≤ (k : Int) := Int.natCast_nonneg _
        have hk1 : (k : Int) < (l.length : Int) := by omega
        obtain ⟨b, off, cap', e1, c0, c1, c2, c3, c4⟩ := RowsAt.at (Reads.grow HR.out HB.out) hrk
        injection e1 with e1 e1b e1c
        subst e1 e1c
        clear e1b
        have hsz : r.site.size ≤ 1000 := HSH.out.2 r (List.mem_of_getElem? hrk)
        have hok := HOK.out.2 r (List.mem_of_getElem? hrk)
        have HTK := Lib.hid (textL_take hrk)
        have hlen : (textL (l.take k)).length ≤ 1100 * 200 := by
          have h1 := textL_len (l := l.take k) (fun r hr => HW.out r (List.mem_of_mem_take hr)) (fun r hr => HSH.out.2 r (List.mem_of_mem_take hr))
          rw [List.length_take] at h1
          omega
        obtain ⟨s, na, nb, nc, nd⟩ := r
        obtain ⟨_, oa, ob, oc, od⟩ := hok
        simp only at c0 c1 c2 c3 c4 hsz oa ob oc od
        obtain ⟨D1, d1, z1, cD1⟩ := dig_of w oa
        obtain ⟨D2, d2, z2, cD2⟩ := dig_of w ob
        obtain ⟨D3, d3, z3, cD3⟩ := dig_of w oc
        obtain ⟨D4, d4, z4, cD4⟩ := dig_of w od
        have CD1 := Lib.hid cD1
        have CD2 := Lib.hid cD2
        have CD3 := Lib.hid cD3
        have CD4 := Lib.hid cD4
        clear cD1 cD2 cD3 cD4 oa ob oc od
        obtain ⟨X0, e0⟩ : ∃ X : ByteArray, (⟨(textL (l.take k)).toArray⟩ : ByteArray) = X := ⟨_, rfl⟩
        have z0 : X0.size ≤ 1100 * 200 := by rw [← e0]; show (textL (l.take k)).toArray.size ≤ _; simp only [List.size_toArray]; exact hlen
        obtain ⟨X1, e1⟩ : ∃ X : ByteArray, X0 ++ s = X := ⟨_, rfl⟩
        obtain ⟨X2, e2⟩ : ∃ X : ByteArray, X1 ++ ⟨#[32]⟩ = X := ⟨_, rfl⟩
        obtain ⟨X3, e3⟩ : ∃ X : ByteArray, X2 ++ D1 = X := ⟨_, rfl⟩
        obtain ⟨X4, e4⟩ : ∃ X : ByteArray, X3 ++ ⟨#[32]⟩ = X := ⟨_, rfl⟩
        obtain ⟨X5, e5⟩ : ∃ X : ByteArray, X4 ++ D2 = X := ⟨_, rfl⟩
        obtain ⟨X6, e6⟩ : ∃ X : ByteArray, X5 ++ ⟨#[32]⟩ = X := ⟨_, rfl⟩
        obtain ⟨X7, e7⟩ : ∃ X : ByteArray, X6 ++ D3 = X := ⟨_, rfl⟩
        obtain ⟨X8, e8⟩ : ∃ X : ByteArray, X7 ++ ⟨#[32]⟩ = X := ⟨_, rfl⟩
        obtain ⟨X9, e9⟩ : ∃ X : ByteArray, X8 ++ D4 = X := ⟨_, rfl⟩
        obtain ⟨X10, e10⟩ : ∃ X : ByteArray, X9 ++ ⟨#[10]⟩ = X := ⟨_, rfl⟩
        have o1 : (⟨#[32]⟩ : ByteArray).size = 1 := rfl
        have o2 : (⟨#[10]⟩ : ByteArray).size = 1 := rfl
        have s1 : X1.size = X0.size + s.size := by rw [← e1, ByteArray.size_append]
        have s2 : X2.size = X1.size + 1 := by rw [← e2, ByteArray.size_append, o1]
        have s3 : X3.size = X2.size + D1.size := by rw [← e3, ByteArray.size_append]
        have s4 : X4.size = X3.size + 1 := by rw [← e4, ByteArray.size_append, o1]
        have s5 : X5.size = X4.size + D2.size := by rw [← e5, ByteArray.size_append]
        have s6 : X6.size = X5.size + 1 := by rw [← e6, ByteArray.size_append, o1]
        have s7 : X7.size = X6.size + D3.size := by rw [← e7, ByteArray.size_append]
        have s8 : X8.size = X7.size + 1 := by rw [← e8, ByteArray.size_append, o1]
        have s9 : X9.size = X8.size + D4.size := by rw [← e9, ByteArray.size_append]
        have g1 : ¬ 9223372036854775807 < X0.size + s.size := by omega
        have g2 : ¬ 9223372036854775807 < X1.size + 1 := by omega
        have g3 : ¬ 9223372036854775807 < X2.size + D1.size := by omega
        have g4 : ¬ 9223372036854775807 < X3.size + 1 := by omega
        have g5 : ¬ 9223372036854775807 < X4.size + D2.size := by omega
        have g6 : ¬ 9223372036854775807 < X5.size + 1 := by omega
        have g7 : ¬ 9223372036854775807 < X6.size + D3.size := by omega
        have g8 : ¬ 9223372036854775807 < X7.size + 1 := by omega
        have g9 : ¬ 9223372036854775807 < X8.size + D4.size := by omega
        have g10 : ¬ 9223372036854775807 < X9.size + 1 := by omega
        have HX : Hid (X10 = ⟨(textL (l.take (k + 1))).toArray⟩) := Lib.hid (by
          rw [HTK.out, ← e10, ← e9, ← e8, ← e7, ← e6, ← e5, ← e4, ← e3, ← e2, ← e1, ← e0]
          apply ByteArray.ext
          apply Array.toList_inj.1
          simp only [ByteArray.data_append, Array.toList_append, d1, d2, d3, d4, rowT, numT, List.append_assoc, List.cons_append, List.nil_append]
          )
        clear s1 s2 s3 s4 s5 s6 s7 s8 s9 z1 z2 z3 z4 z0 d1 d2 d3 d4 o1 o2 hlen hsz HTK
        rw [e0]
        obtain ⟨W1, hW1⟩ : ∃ W1, W1 = wr.alloc (.cells #[.string s, .int .i64 na, .int .i64 nb, .int .i64 nc, .int .i64 nd] 47) := ⟨_, rfl⟩
        have HB1 : Hid (RowKit.Below w.heap.size w W1) := Lib.hid (by rw [hW1]; exact HB.out.alloc HB.out.size _)
        have FB : Hid (∀ w1, RowKit.Below W1.heap.size W1 w1 → w1.cell? ⟨wr.heap.size, 0, none⟩ = some (.string s) ∧ w1.cell? ⟨wr.heap.size, 1, none⟩ = some (.int .i64 na) ∧ w1.cell? ⟨wr.heap.size, 2, none⟩ = some (.int .i64 nb) ∧ w1.cell? ⟨wr.heap.size, 3, none⟩ = some (.int .i64 nc) ∧ w1.cell? ⟨wr.heap.size, 4, none⟩ = some (.int .i64 nd)) := Lib.hid (by
          intro w1 h1
          have hc : ∀ i v, #[Value.string s, .int .i64 na, .int .i64 nb, .int .i64 nc, .int .i64 nd][i]? = some v → w1.cell? ⟨wr.heap.size, i, none⟩ = some v := by
            intro i v hv
            have hs : (⟨wr.heap.size, i, none⟩ : Addr).block < W1.heap.size := by rw [hW1]; simp
            rw [h1.cell hs, hW1]
            unfold World.cell?
            rw [heap_alloc_new]
            exact hv
          exact ⟨hc 0 _ rfl, hc 1 _ rfl, hc 2 _ rfl, hc 3 _ rfl, hc 4 _ rfl⟩)
        have HW1 := Lib.hid hW1
        clear hrk HB hW1
        go_wp2_with fail
        rw [← HW1.out]
        refine wp_region_qst (fun w' => RowKit.Below W1.heap.size W1 w') (by kernel_rfl) (by kernel_rfl) ((Below.refl _ W1).drew) ?_
        iterate 60 (
          try with_reducible refine wpQuiet_step (fun K hK => ?_)
          try go_simp
          try first
            | (refine hK _ ?_; clear hK K)
            | (apply Exists.intro
               refine ⟨fun w1 h1 => ?_, hK _ ?_⟩
               (first
                | (with_reducible rfl)
                | (go_at_call 29; first
                    | (with_reducible refine (CD1.out w1).mono ?_; rintro e w' ⟨rfl, h2⟩; exact ⟨rfl, h1.trans (h2.mono h1.size)⟩)
                    | (with_reducible refine (CD2.out w1).mono ?_; rintro e w' ⟨rfl, h2⟩; exact ⟨rfl, h1.trans (h2.mono h1.size)⟩)
                    | (with_reducible refine (CD3.out w1).mono ?_; rintro e w' ⟨rfl, h2⟩; exact ⟨rfl, h1.trans (h2.mono h1.size)⟩)
                    | (with_reducible refine (CD4.out w1).mono ?_; rintro e w' ⟨rfl, h2⟩; exact ⟨rfl, h1.trans (h2.mono h1.size)⟩))
                | (obtain ⟨y0, y1, y2, y3, y4⟩ := FB.out w1 h1; go_simp; with_reducible rfl))
               clear hK K))
        refine wpQuiet_nil ?_
        intro w2 h2
        go_wp2_with fail
        go_roundw
        case rel => exact ⟨k + 1, hlt, by rw [HX.out], by go_num, Lib.hid (HB1.out.trans (h2.mono HB1.out.size))⟩
        case measure => simp [intOf]; omega
      · have hk1 : ¬ (k : Int) < (l.length : Int) := by omega
        have HT : Hid (l.take k = l) := Lib.hid (List.take_of_length_le (by omega))
        have HBB := Lib.hid HB
        go_wp2
        go_ret2
        exact ⟨by rw [E1.out, E2.out, HT.out]; rfl, HB.out⟩
  · have E1 := Lib.hid (show ptS l = ⟨#[]⟩ from if_neg h)
    have E2 := Lib.hid (show ptE l = 2 from if_neg h)
    rw [Bool.not_eq_true] at h
    rw [h] at cP
    clear h hr hw
    go_enter Tryz.func18, Tryz.ntmps18
    go_wp2_with (go_at_call 25; refine cP.out.mono ?_; rintro e w2 ⟨rfl, hb2⟩)
    go_ret2
    exact ⟨by rw [E1.out, E2.out]; rfl, hb2⟩
end Go.Proofs.YtcihbmifogfdpaaGreatDoor

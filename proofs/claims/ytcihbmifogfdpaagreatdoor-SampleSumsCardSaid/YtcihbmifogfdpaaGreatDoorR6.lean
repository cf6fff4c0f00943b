/-
  The reference's Is: is it a profile. (Printed by mkR6.py.)
-/
import Derived.Test.YtcihbmifogfdpaaGreatDoorRA
import Derived.Test.YtcihbmifogfdpaaGreatDoorT3
import Derived.Test.YtcihbmifogfdpaaGreatDoorQ2
namespace Go.Proofs.YtcihbmifogfdpaaGreatDoor
open Go.RowKit

theorem siteC_eq (s : ByteArray) : siteC s.data.toList = isSiteB s := by
  rw [isSite_L]
  unfold siteC siteL
  congr 1
  congr 1
  funext b
  simp [siteB, oddR, siteN]
set_option maxRecDepth 10000 in
set_option maxHeartbeats 16000000 in
theorem is_any (w : World) (a : Option Addr) (cap : Nat) (l : List Rw) (hw : ∀ r ∈ l, r.wf) (hl : l.length ≤ 9223372036854775807) (hr : RowsAt w (.slice a l.length cap) l) :
    Calls Tryz.prog 25 #[.slice a l.length cap] w fun e w' => e = .returned (.bool (isProfB l)) ∧ RowKit.Below w.heap.size w w' := by
  have HR := Lib.hid hr
  have HW := Lib.hid hw
  clear hr hw
  by_cases h200 : l.length ≤ 200
  · have i1 : ¬ (200 : Int) < (l.length : Int) := by omega
    go_enter Tryz.func25, Tryz.ntmps25
    go_wp2
    go_loopw [3] (fun i wr => ∃ k : Nat, k ≤ l.length ∧ i = .int .i64 k ∧ Hid (∀ j r, j < k → l[j]? = some r → rowOk l j r = true) ∧ Hid (RowKit.Below w.heap.size w wr)) (fun i _ => l.length - (intOf i).toNat)
    case atStart => exact ⟨0, Nat.zero_le _, rfl, Lib.hid (fun j r hj => by omega), Lib.hid (Below.refl _ _)⟩
    case round =>
      obtain ⟨k, hk, rfl, HO, HB⟩ := hrel
      by_cases hlt : k < l.length
      · obtain ⟨r, hrk⟩ : ∃ r, l[k]? = some r := ⟨l[k], List.getElem?_eq_getElem hlt⟩
        have hk0 : (0 : Int) ≤ (k : Int) := Int.natCast_nonneg _
        have hk1 : (k : Int) < (l.length : Int) := by omega
        obtain ⟨b, off, cap', e1, c0, c1, c2, c3, c4⟩ := RowsAt.at (Reads.grow HR.out HB.out) hrk
        injection e1 with e1 e1b e1c
        subst e1 e1c
        clear e1b
        have hsz : r.site.size ≤ 9223372036854775807 := by have := (HW.out r (List.mem_of_getElem? hrk)).s; simp [maxLen] at this; omega
        obtain ⟨s, na, nb, nc, nd⟩ := r
        simp only at c0 c1 c2 c3 c4 hsz
        obtain ⟨W1, hW1⟩ : ∃ W1, W1 = wr.alloc (.cells #[.string s, .int .i64 na, .int .i64 nb, .int .i64 nc, .int .i64 nd] 47) := ⟨_, rfl⟩
        have HB1 : Hid (RowKit.Below w.heap.size w W1) := Lib.hid (by rw [hW1]; exact HB.out.alloc HB.out.size _)
        have FB : Hid (∀ w1, RowKit.Below W1.heap.size W1 w1 → w1.cell? ⟨wr.heap.size, 0, none⟩ = some (.string s) ∧ w1.cell? ⟨wr.heap.size, 1, none⟩ = some (.int .i64 na) ∧ w1.cell? ⟨wr.heap.size, 2, none⟩ = some (.int .i64 nb) ∧ w1.cell? ⟨wr.heap.size, 3, none⟩ = some (.int .i64 nc) ∧ w1.cell? ⟨wr.heap.size, 4, none⟩ = some (.int .i64 nd)) := Lib.hid (by
          intro w1 h1
          have hc : ∀ i v, #[Value.string s, .int .i64 na, .int .i64 nb, .int .i64 nc, .int .i64 nd][i]? = some v → w1.cell? ⟨wr.heap.size, i, none⟩ = some v := by
            intro i v hv
            have hs : (⟨wr.heap.size, i, none⟩ : Addr).block < W1.heap.size := by rw [hW1]; simp
            rw [h1.cell hs, hW1]
            unfold World.cell?
            rw [heap_alloc_new]
            exact hv
          exact ⟨hc 0 _ rfl, hc 1 _ rfl, hc 2 _ rfl, hc 3 _ rfl, hc 4 _ rfl⟩)
        have HW1 := Lib.hid hW1
        have HK := Lib.hid hrk
        have cS : Hid (∀ w1, Calls Tryz.prog 59 #[.string s] w1 fun e w' => e = .returned (.bool (isSiteB s)) ∧ w1 = w') := Lib.hid fun w1 => by have := rsite_any w1 s hsz; rw [siteC_eq] at this; exact this
        have FP : Hid (∀ w1, RowKit.Below W1.heap.size W1 w1 → w1.cell? ⟨wr.heap.size, 0, none⟩ = some (.string s)) := Lib.hid fun w1 h1 => (FB.out w1 h1).1
        by_cases hS : isSiteB s = true
        · rw [hS] at cS
          have hP : k = 0 ∧ prevGe l k s = false ∨ ∃ q, 0 < k ∧ l[k - 1]? = some q ∧ prevGe l k s = geB q.site s := by
            rcases Nat.eq_zero_or_pos k with h | h
            · exact .inl ⟨h, by simp [prevGe, h]⟩
            · refine .inr ⟨l[k - 1], h, List.getElem?_eq_getElem (by omega), ?_⟩
              unfold prevGe
              rw [List.getElem?_eq_getElem (by omega : k - 1 < l.length)]
              simp [h]
          clear hW1 hrk
          rcases hP with ⟨hk00, hPG⟩ | ⟨q, hkp, hq, hPG⟩
          · have HPG := Lib.hid hPG
            have HS := Lib.hid hS
            clear hS hPG
            have kk : ¬ (0 : Int) < (k : Int) := by omega
            have kkn : ¬ 0 < k := by omega
            have HK0 := Lib.hid hk00
            clear hk00 FP
            have FP := FB
            by_cases g0 : na < 0
            · skip
              go_wp2_with fail
              rw [← HW1.out]
              refine wp_region_qst (fun w' => RowKit.Below W1.heap.size W1 w') (by kernel_rfl) (by kernel_rfl) ((Below.refl _ W1).drew) ?_
              iterate 60 (
                try with_reducible refine wpQuiet_step (fun K hK => ?_)
                try go_simp
                try first
                  | (refine hK _ ?_; clear hK K)
                  | (apply Exists.intro
                     refine ⟨fun w1 h1 => ?_, hK _ ?_⟩
                     (first
                      | (with_reducible rfl)
                      | (go_at_call 59; refine (cS.out w1).mono ?_; rintro e w' ⟨rfl, rfl⟩; exact ⟨rfl, h1⟩)
                      | (obtain ⟨y0, y1, y2, y3, y4⟩ := FB.out w1 h1; go_simp; with_reducible rfl)
                      | (have y5 := FP.out w1 h1; go_simp; with_reducible rfl))
                     clear hK K))
              refine wpQuiet_nil ?_
              intro w2 h2
              go_wp2_with fail
              go_ret
              refine ⟨?_, HB1.out.trans (h2.mono HB1.out.size)⟩
              rw [isProfB_not HK.out (by simp [rowOk, numOk]; omega)]; rfl
            by_cases g1 : nb < 0
            · skip
              go_wp2_with fail
              rw [← HW1.out]
              refine wp_region_qst (fun w' => RowKit.Below W1.heap.size W1 w') (by kernel_rfl) (by kernel_rfl) ((Below.refl _ W1).drew) ?_
              iterate 60 (
                try with_reducible refine wpQuiet_step (fun K hK => ?_)
                try go_simp
                try first
                  | (refine hK _ ?_; clear hK K)
                  | (apply Exists.intro
                     refine ⟨fun w1 h1 => ?_, hK _ ?_⟩
                     (first
                      | (with_reducible rfl)
                      | (go_at_call 59; refine (cS.out w1).mono ?_; rintro e w' ⟨rfl, rfl⟩; exact ⟨rfl, h1⟩)
                      | (obtain ⟨y0, y1, y2, y3, y4⟩ := FB.out w1 h1; go_simp; with_reducible rfl)
                      | (have y5 := FP.out w1 h1; go_simp; with_reducible rfl))
                     clear hK K))
              refine wpQuiet_nil ?_
              intro w2 h2
              go_wp2_with fail
              go_ret
              refine ⟨?_, HB1.out.trans (h2.mono HB1.out.size)⟩
              rw [isProfB_not HK.out (by simp [rowOk, numOk]; omega)]; rfl
            by_cases g2 : (1099511627776 : Int) < nc
            · skip
              go_wp2_with fail
              rw [← HW1.out]
              refine wp_region_qst (fun w' => RowKit.Below W1.heap.size W1 w') (by kernel_rfl) (by kernel_rfl) ((Below.refl _ W1).drew) ?_
              iterate 60 (
                try with_reducible refine wpQuiet_step (fun K hK => ?_)
                try go_simp
                try first
                  | (refine hK _ ?_; clear hK K)
                  | (apply Exists.intro
                     refine ⟨fun w1 h1 => ?_, hK _ ?_⟩
                     (first
                      | (with_reducible rfl)
                      | (go_at_call 59; refine (cS.out w1).mono ?_; rintro e w' ⟨rfl, rfl⟩; exact ⟨rfl, h1⟩)
                      | (obtain ⟨y0, y1, y2, y3, y4⟩ := FB.out w1 h1; go_simp; with_reducible rfl)
                      | (have y5 := FP.out w1 h1; go_simp; with_reducible rfl))
                     clear hK K))
              refine wpQuiet_nil ?_
              intro w2 h2
              go_wp2_with fail
              go_ret
              refine ⟨?_, HB1.out.trans (h2.mono HB1.out.size)⟩
              rw [isProfB_not HK.out (by simp [rowOk, numOk]; omega)]; rfl
            by_cases g3 : (1099511627776 : Int) < nd
            · skip
              go_wp2_with fail
              rw [← HW1.out]
              refine wp_region_qst (fun w' => RowKit.Below W1.heap.size W1 w') (by kernel_rfl) (by kernel_rfl) ((Below.refl _ W1).drew) ?_
              iterate 60 (
                try with_reducible refine wpQuiet_step (fun K hK => ?_)
                try go_simp
                try first
                  | (refine hK _ ?_; clear hK K)
                  | (apply Exists.intro
                     refine ⟨fun w1 h1 => ?_, hK _ ?_⟩
                     (first
                      | (with_reducible rfl)
                      | (go_at_call 59; refine (cS.out w1).mono ?_; rintro e w' ⟨rfl, rfl⟩; exact ⟨rfl, h1⟩)
                      | (obtain ⟨y0, y1, y2, y3, y4⟩ := FB.out w1 h1; go_simp; with_reducible rfl)
                      | (have y5 := FP.out w1 h1; go_simp; with_reducible rfl))
                     clear hK K))
              refine wpQuiet_nil ?_
              intro w2 h2
              go_wp2_with fail
              go_ret
              refine ⟨?_, HB1.out.trans (h2.mono HB1.out.size)⟩
              rw [isProfB_not HK.out (by simp [rowOk, numOk]; omega)]; rfl
            by_cases g4 : nc < na
            · skip
              go_wp2_with fail
              rw [← HW1.out]
              refine wp_region_qst (fun w' => RowKit.Below W1.heap.size W1 w') (by kernel_rfl) (by kernel_rfl) ((Below.refl _ W1).drew) ?_
              iterate 60 (
                try with_reducible refine wpQuiet_step (fun K hK => ?_)
                try go_simp
                try first
                  | (refine hK _ ?_; clear hK K)
                  | (apply Exists.intro
                     refine ⟨fun w1 h1 => ?_, hK _ ?_⟩
                     (first
                      | (with_reducible rfl)
                      | (go_at_call 59; refine (cS.out w1).mono ?_; rintro e w' ⟨rfl, rfl⟩; exact ⟨rfl, h1⟩)
                      | (obtain ⟨y0, y1, y2, y3, y4⟩ := FB.out w1 h1; go_simp; with_reducible rfl)
                      | (have y5 := FP.out w1 h1; go_simp; with_reducible rfl))
                     clear hK K))
              refine wpQuiet_nil ?_
              intro w2 h2
              go_wp2_with fail
              go_ret
              refine ⟨?_, HB1.out.trans (h2.mono HB1.out.size)⟩
              rw [isProfB_not HK.out (by simp [rowOk]; omega)]; rfl
            by_cases g5 : nd < nb
            · skip
              go_wp2_with fail
              rw [← HW1.out]
              refine wp_region_qst (fun w' => RowKit.Below W1.heap.size W1 w') (by kernel_rfl) (by kernel_rfl) ((Below.refl _ W1).drew) ?_
              iterate 60 (
                try with_reducible refine wpQuiet_step (fun K hK => ?_)
                try go_simp
                try first
                  | (refine hK _ ?_; clear hK K)
                  | (apply Exists.intro
                     refine ⟨fun w1 h1 => ?_, hK _ ?_⟩
                     (first
                      | (with_reducible rfl)
                      | (go_at_call 59; refine (cS.out w1).mono ?_; rintro e w' ⟨rfl, rfl⟩; exact ⟨rfl, h1⟩)
                      | (obtain ⟨y0, y1, y2, y3, y4⟩ := FB.out w1 h1; go_simp; with_reducible rfl)
                      | (have y5 := FP.out w1 h1; go_simp; with_reducible rfl))
                     clear hK K))
              refine wpQuiet_nil ?_
              intro w2 h2
              go_wp2_with fail
              go_ret
              refine ⟨?_, HB1.out.trans (h2.mono HB1.out.size)⟩
              rw [isProfB_not HK.out (by simp [rowOk]; omega)]; rfl
            have hOK : Hid (rowOk l k ⟨s, na, nb, nc, nd⟩ = true) := Lib.hid (by
              have e1 : numOk na = true := by simp [numOk]; omega
              have e2 : numOk nb = true := by simp [numOk]; omega
              have e3 : numOk nc = true := by simp [numOk]; omega
              have e4 : numOk nd = true := by simp [numOk]; omega
              unfold rowOk
              simp only [HS.out, HPG.out, e1, e2, e3, e4, decide_eq_false g4, decide_eq_false g5]
              rfl)
            go_wp2_with fail
            rw [← HW1.out]
            refine wp_region_qst (fun w' => RowKit.Below W1.heap.size W1 w') (by kernel_rfl) (by kernel_rfl) ((Below.refl _ W1).drew) ?_
            iterate 60 (
              try with_reducible refine wpQuiet_step (fun K hK => ?_)
              try go_simp
              try first
                | (refine hK _ ?_; clear hK K)
                | (apply Exists.intro
                   refine ⟨fun w1 h1 => ?_, hK _ ?_⟩
                   (first
                    | (with_reducible rfl)
                    | (go_at_call 59; refine (cS.out w1).mono ?_; rintro e w' ⟨rfl, rfl⟩; exact ⟨rfl, h1⟩)
                    | (obtain ⟨y0, y1, y2, y3, y4⟩ := FB.out w1 h1; go_simp; with_reducible rfl)
                    | (have y5 := FP.out w1 h1; go_simp; with_reducible rfl))
                   clear hK K))
            refine wpQuiet_nil ?_
            intro w2 h2
            go_wp2_with fail
            go_roundw
            case rel =>
              refine ⟨k + 1, hlt, by go_num, Lib.hid fun j r hj hjr => ?_, Lib.hid (HB1.out.trans (h2.mono HB1.out.size))⟩
              rcases Nat.lt_succ_iff_lt_or_eq.1 hj with h | h
              · exact HO.out j r h hjr
              · subst h
                rw [HK.out] at hjr
                cases hjr
                exact hOK.out
            case measure => simp [intOf]; omega
          · obtain ⟨b', off', cap', e1, p0, _, _, _, _⟩ := RowsAt.at (Reads.grow HR.out HB1.out) hq
            cases e1
            have kk : (0 : Int) < (k : Int) := by omega
            obtain ⟨k1, rfl⟩ : ∃ k1, k = k1 + 1 := ⟨k - 1, by omega⟩
            rw [Nat.add_sub_cancel] at hq p0
            have HS := Lib.hid hS
            clear FP
            have FP : Hid (∀ w1, RowKit.Below W1.heap.size W1 w1 → w1.cell? ⟨b, off + k1 * 5, none⟩ = some (.string q.site)) := Lib.hid fun w1 h1 => by
              rw [h1.cell (p := ⟨b, off + k1 * 5, none⟩) (World.block_lt_of_cell? _ _ p0)]; exact p0
            have hq1 : ((k1 + 1 : Nat) : Int) - 1 = (k1 : Int) := by omega
            have k10 : (0 : Int) ≤ (k1 : Int) := Int.natCast_nonneg _
            have k1l : (k1 : Int) < (l.length : Int) := by omega
            have qw : IntKind.i64.wrap (k1 : Int) = (k1 : Int) := IntWalk.i64_in _ (by omega)
            obtain ⟨qs, hqs⟩ : ∃ qs, q.site = qs := ⟨_, rfl⟩
            rw [hqs] at hPG FP
            have HQ := Lib.hid hq
            clear hS hq p0 hqs hq1 hkp
            by_cases hG : geB qs s = true
            · have HPG := Lib.hid (hPG.trans hG)
              have hG2 : Op.bytesLess qs.toList s.toList = false := by unfold geB at hG; simpa using hG
              clear hPG hG
              go_wp2_with fail
              rw [← HW1.out]
              refine wp_region_qst (fun w' => RowKit.Below W1.heap.size W1 w') (by kernel_rfl) (by kernel_rfl) ((Below.refl _ W1).drew) ?_
              iterate 60 (
                try with_reducible refine wpQuiet_step (fun K hK => ?_)
                try go_simp
                try first
                  | (refine hK _ ?_; clear hK K)
                  | (apply Exists.intro
                     refine ⟨fun w1 h1 => ?_, hK _ ?_⟩
                     (first
                      | (with_reducible rfl)
                      | (go_at_call 59; refine (cS.out w1).mono ?_; rintro e w' ⟨rfl, rfl⟩; exact ⟨rfl, h1⟩)
                      | (obtain ⟨y0, y1, y2, y3, y4⟩ := FB.out w1 h1; go_simp; with_reducible rfl)
                      | (have y5 := FP.out w1 h1; go_simp; with_reducible rfl))
                     clear hK K))
              refine wpQuiet_nil ?_
              intro w2 h2
              go_wp2_with fail
              go_ret
              refine ⟨?_, HB1.out.trans (h2.mono HB1.out.size)⟩
              rw [isProfB_not HK.out (by simp [rowOk, HPG.out])]; rfl
            · rw [Bool.not_eq_true] at hG
              have HPG := Lib.hid (hPG.trans hG)
              have hG2 : Op.bytesLess qs.toList s.toList = true := by unfold geB at hG; simpa using hG
              clear hPG hG
              by_cases g0 : na < 0
              · skip
                go_wp2_with fail
                rw [← HW1.out]
                refine wp_region_qst (fun w' => RowKit.Below W1.heap.size W1 w') (by kernel_rfl) (by kernel_rfl) ((Below.refl _ W1).drew) ?_
                iterate 60 (
                  try with_reducible refine wpQuiet_step (fun K hK => ?_)
                  try go_simp
                  try first
                    | (refine hK _ ?_; clear hK K)
                    | (apply Exists.intro
                       refine ⟨fun w1 h1 => ?_, hK _ ?_⟩
                       (first
                        | (with_reducible rfl)
                        | (go_at_call 59; refine (cS.out w1).mono ?_; rintro e w' ⟨rfl, rfl⟩; exact ⟨rfl, h1⟩)
                        | (obtain ⟨y0, y1, y2, y3, y4⟩ := FB.out w1 h1; go_simp; with_reducible rfl)
                        | (have y5 := FP.out w1 h1; go_simp; with_reducible rfl))
                       clear hK K))
                refine wpQuiet_nil ?_
                intro w2 h2
                go_wp2_with fail
                go_ret
                refine ⟨?_, HB1.out.trans (h2.mono HB1.out.size)⟩
                rw [isProfB_not HK.out (by simp [rowOk, numOk]; omega)]; rfl
              by_cases g1 : nb < 0
              · skip
                go_wp2_with fail
                rw [← HW1.out]
                refine wp_region_qst (fun w' => RowKit.Below W1.heap.size W1 w') (by kernel_rfl) (by kernel_rfl) ((Below.refl _ W1).drew) ?_
                iterate 60 (
                  try with_reducible refine wpQuiet_step (fun K hK => ?_)
                  try go_simp
                  try first
                    | (refine hK _ ?_; clear hK K)
                    | (apply Exists.intro
                       refine ⟨fun w1 h1 => ?_, hK _ ?_⟩
                       (first
                        | (with_reducible rfl)
                        | (go_at_call 59; refine (cS.out w1).mono ?_; rintro e w' ⟨rfl, rfl⟩; exact ⟨rfl, h1⟩)
                        | (obtain ⟨y0, y1, y2, y3, y4⟩ := FB.out w1 h1; go_simp; with_reducible rfl)
                        | (have y5 := FP.out w1 h1; go_simp; with_reducible rfl))
                       clear hK K))
                refine wpQuiet_nil ?_
                intro w2 h2
                go_wp2_with fail
                go_ret
                refine ⟨?_, HB1.out.trans (h2.mono HB1.out.size)⟩
                rw [isProfB_not HK.out (by simp [rowOk, numOk]; omega)]; rfl
              by_cases g2 : (1099511627776 : Int) < nc
              · skip
                go_wp2_with fail
                rw [← HW1.out]
                refine wp_region_qst (fun w' => RowKit.Below W1.heap.size W1 w') (by kernel_rfl) (by kernel_rfl) ((Below.refl _ W1).drew) ?_
                iterate 60 (
                  try with_reducible refine wpQuiet_step (fun K hK => ?_)
                  try go_simp
                  try first
                    | (refine hK _ ?_; clear hK K)
                    | (apply Exists.intro
                       refine ⟨fun w1 h1 => ?_, hK _ ?_⟩
                       (first
                        | (with_reducible rfl)
                        | (go_at_call 59; refine (cS.out w1).mono ?_; rintro e w' ⟨rfl, rfl⟩; exact ⟨rfl, h1⟩)
                        | (obtain ⟨y0, y1, y2, y3, y4⟩ := FB.out w1 h1; go_simp; with_reducible rfl)
                        | (have y5 := FP.out w1 h1; go_simp; with_reducible rfl))
                       clear hK K))
                refine wpQuiet_nil ?_
                intro w2 h2
                go_wp2_with fail
                go_ret
                refine ⟨?_, HB1.out.trans (h2.mono HB1.out.size)⟩
                rw [isProfB_not HK.out (by simp [rowOk, numOk]; omega)]; rfl
              by_cases g3 : (1099511627776 : Int) < nd
              · skip
                go_wp2_with fail
                rw [← HW1.out]
                refine wp_region_qst (fun w' => RowKit.Below W1.heap.size W1 w') (by kernel_rfl) (by kernel_rfl) ((Below.refl _ W1).drew) ?_
                iterate 60 (
                  try with_reducible refine wpQuiet_step (fun K hK => ?_)
                  try go_simp
                  try first
                    | (refine hK _ ?_; clear hK K)
                    | (apply Exists.intro
                       refine ⟨fun w1 h1 => ?_, hK _ ?_⟩
                       (first
                        | (with_reducible rfl)
                        | (go_at_call 59; refine (cS.out w1).mono ?_; rintro e w' ⟨rfl, rfl⟩; exact ⟨rfl, h1⟩)
                        | (obtain ⟨y0, y1, y2, y3, y4⟩ := FB.out w1 h1; go_simp; with_reducible rfl)
                        | (have y5 := FP.out w1 h1; go_simp; with_reducible rfl))
                       clear hK K))
                refine wpQuiet_nil ?_
                intro w2 h2
                go_wp2_with fail
                go_ret
                refine ⟨?_, HB1.out.trans (h2.mono HB1.out.size)⟩
                rw [isProfB_not HK.out (by simp [rowOk, numOk]; omega)]; rfl
              by_cases g4 : nc < na
              · skip
                go_wp2_with fail
                rw [← HW1.out]
                refine wp_region_qst (fun w' => RowKit.Below W1.heap.size W1 w') (by kernel_rfl) (by kernel_rfl) ((Below.refl _ W1).drew) ?_
                iterate 60 (
                  try with_reducible refine wpQuiet_step (fun K hK => ?_)
                  try go_simp
                  try first
                    | (refine hK _ ?_; clear hK K)
                    | (apply Exists.intro
                       refine ⟨fun w1 h1 => ?_, hK _ ?_⟩
                       (first
                        | (with_reducible rfl)
                        | (go_at_call 59; refine (cS.out w1).mono ?_; rintro e w' ⟨rfl, rfl⟩; exact ⟨rfl, h1⟩)
                        | (obtain ⟨y0, y1, y2, y3, y4⟩ := FB.out w1 h1; go_simp; with_reducible rfl)
                        | (have y5 := FP.out w1 h1; go_simp; with_reducible rfl))
                       clear hK K))
                refine wpQuiet_nil ?_
                intro w2 h2
                go_wp2_with fail
                go_ret
                refine ⟨?_, HB1.out.trans (h2.mono HB1.out.size)⟩
                rw [isProfB_not HK.out (by simp [rowOk]; omega)]; rfl
              by_cases g5 : nd < nb
              · skip
                go_wp2_with fail
                rw [← HW1.out]
                refine wp_region_qst (fun w' => RowKit.Below W1.heap.size W1 w') (by kernel_rfl) (by kernel_rfl) ((Below.refl _ W1).drew) ?_
                iterate 60 (
                  try with_reducible refine wpQuiet_step (fun K hK => ?_)
                  try go_simp
                  try first
                    | (refine hK _ ?_; clear hK K)
                    | (apply Exists.intro
                       refine ⟨fun w1 h1 => ?_, hK _ ?_⟩
                       (first
                        | (with_reducible rfl)
                        | (go_at_call 59; refine (cS.out w1).mono ?_; rintro e w' ⟨rfl, rfl⟩; exact ⟨rfl, h1⟩)
                        | (obtain ⟨y0, y1, y2, y3, y4⟩ := FB.out w1 h1; go_simp; with_reducible rfl)
                        | (have y5 := FP.out w1 h1; go_simp; with_reducible rfl))
                       clear hK K))
                refine wpQuiet_nil ?_
                intro w2 h2
                go_wp2_with fail
                go_ret
                refine ⟨?_, HB1.out.trans (h2.mono HB1.out.size)⟩
                rw [isProfB_not HK.out (by simp [rowOk]; omega)]; rfl
              have hOK : Hid (rowOk l (k1 + 1) ⟨s, na, nb, nc, nd⟩ = true) := Lib.hid (by
                have e1 : numOk na = true := by simp [numOk]; omega
                have e2 : numOk nb = true := by simp [numOk]; omega
                have e3 : numOk nc = true := by simp [numOk]; omega
                have e4 : numOk nd = true := by simp [numOk]; omega
                unfold rowOk
                simp only [HS.out, HPG.out, e1, e2, e3, e4, decide_eq_false g4, decide_eq_false g5]
                rfl)
              go_wp2_with fail
              rw [← HW1.out]
              refine wp_region_qst (fun w' => RowKit.Below W1.heap.size W1 w') (by kernel_rfl) (by kernel_rfl) ((Below.refl _ W1).drew) ?_
              iterate 60 (
                try with_reducible refine wpQuiet_step (fun K hK => ?_)
                try go_simp
                try first
                  | (refine hK _ ?_; clear hK K)
                  | (apply Exists.intro
                     refine ⟨fun w1 h1 => ?_, hK _ ?_⟩
                     (first
                      | (with_reducible rfl)
                      | (go_at_call 59; refine (cS.out w1).mono ?_; rintro e w' ⟨rfl, rfl⟩; exact ⟨rfl, h1⟩)
                      | (obtain ⟨y0, y1, y2, y3, y4⟩ := FB.out w1 h1; go_simp; with_reducible rfl)
                      | (have y5 := FP.out w1 h1; go_simp; with_reducible rfl))
                     clear hK K))
              refine wpQuiet_nil ?_
              intro w2 h2
              go_wp2_with fail
              go_roundw
              case rel =>
                refine ⟨(k1 + 1) + 1, hlt, by go_num, Lib.hid fun j r hj hjr => ?_, Lib.hid (HB1.out.trans (h2.mono HB1.out.size))⟩
                rcases Nat.lt_succ_iff_lt_or_eq.1 hj with h | h
                · exact HO.out j r h hjr
                · subst h
                  rw [HK.out] at hjr
                  cases hjr
                  exact hOK.out
              case measure => simp [intOf]; omega
        · rw [Bool.not_eq_true] at hS
          have HS := Lib.hid hS
          rw [hS] at cS
          clear hS hW1 hrk
          go_wp2_with fail
          rw [← HW1.out]
          refine wp_region_qst (fun w' => RowKit.Below W1.heap.size W1 w') (by kernel_rfl) (by kernel_rfl) ((Below.refl _ W1).drew) ?_
          iterate 60 (
            try with_reducible refine wpQuiet_step (fun K hK => ?_)
            try go_simp
            try first
              | (refine hK _ ?_; clear hK K)
              | (apply Exists.intro
                 refine ⟨fun w1 h1 => ?_, hK _ ?_⟩
                 (first
                  | (with_reducible rfl)
                  | (go_at_call 59; refine (cS.out w1).mono ?_; rintro e w' ⟨rfl, rfl⟩; exact ⟨rfl, h1⟩)
                  | (obtain ⟨y0, y1, y2, y3, y4⟩ := FB.out w1 h1; go_simp; with_reducible rfl)
                  | (have y5 := FP.out w1 h1; go_simp; with_reducible rfl))
                 clear hK K))
          refine wpQuiet_nil ?_
          intro w2 h2
          go_wp2_with fail
          go_ret
          refine ⟨?_, HB1.out.trans (h2.mono HB1.out.size)⟩
          rw [isProfB_not HK.out (by simp [rowOk, HS.out])]; rfl
      · have HL : Hid (isProfB l = true) := Lib.hid (isProfB_yes h200 fun j r hj => HO.out j r (by omega))
        have hk1 : ¬ (k : Int) < (l.length : Int) := by omega
        go_wp2
        go_ret
        exact ⟨by rw [HL.out]; rfl, HB.out⟩
  · have i1 : (200 : Int) < (l.length : Int) := by omega
    go_enter Tryz.func25, Tryz.ntmps25
    go_wp2
    go_ret
    have : isProfB l = false := by simp [isProfB, h200]
    exact ⟨by rw [this]; rfl, Below.refl _ _⟩
end Go.Proofs.YtcihbmifogfdpaaGreatDoor

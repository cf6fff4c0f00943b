/-
  isProfile.
-/
import Derived.Test.YtcodjodhacjfeaaGreatDoorTA
import Derived.Test.YtcodjodhacjfeaaGreatDoorQst
namespace Go.Proofs.YtcodjodhacjfeaaGreatDoor
open Go.RowKit Go.Shelf Go.Sort Go.Lib

/-- a number of a row -/
def numOk (x : Int) : Bool := decide (0 ≤ x) && decide (x ≤ 1099511627776)
def geB (a b : ByteArray) : Bool := !Op.bytesLess a.toList b.toList
/-- does the row before it stand not below it -/
def prevGe (l : List Rw) (i : Nat) (s : ByteArray) : Bool := decide (0 < i) && (match l[i - 1]? with | some q => geB q.site s | none => false)
def rowOk (l : List Rw) (i : Nat) (r : Rw) : Bool :=
  isSiteB r.site && !prevGe l i r.site && !decide (r.c < r.a) && !decide (r.d < r.b) && (numOk r.a && numOk r.b && numOk r.c && numOk r.d)
def isProfB (l : List Rw) : Bool := decide (l.length ≤ 200) && (List.range l.length).all fun i => match l[i]? with | some r => rowOk l i r | none => false
theorem isProfB_not {l : List Rw} {k : Nat} {r : Rw} (hk : l[k]? = some r) (h : rowOk l k r = false) : isProfB l = false := by
  have hlt := (List.getElem?_eq_some_iff.1 hk).1
  cases e : isProfB l with
  | false => rfl
  | true =>
    unfold isProfB at e
    rw [Bool.and_eq_true, List.all_eq_true] at e
    have := e.2 k (List.mem_range.2 hlt)
    have this : rowOk l k r = true := by simpa [hk] using this
    rw [h] at this; cases this
theorem isProfB_yes {l : List Rw} (h2 : l.length ≤ 200) (h : ∀ j r, j < l.length → l[j]? = some r → rowOk l j r = true) : isProfB l = true := by
  unfold isProfB
  rw [Bool.and_eq_true, List.all_eq_true]
  refine ⟨decide_eq_true h2, fun i hi => ?_⟩
  have hlt := List.mem_range.1 hi
  rw [List.getElem?_eq_getElem hlt]
  exact h i _ hlt (List.getElem?_eq_getElem hlt)
theorem nums_all {a b c d : Int} (h : ∀ j x, j < 4 → [a, b, c, d][j]? = some x → numOk x = true) : (numOk a && numOk b && numOk c && numOk d) = true := by
  rw [h 0 a (by omega) rfl, h 1 b (by omega) rfl, h 2 c (by omega) rfl, h 3 d (by omega) rfl]; rfl
theorem nums_not {a b c d : Int} {j : Nat} {x : Int} (hj : [a, b, c, d][j]? = some x) (h : numOk x = false) : (numOk a && numOk b && numOk c && numOk d) = false := by
  match j, hj with
  | 0, hj => simp at hj; subst hj; simp [h]
  | 1, hj => simp at hj; subst hj; simp [h]
  | 2, hj => simp at hj; subst hj; simp [h]
  | 3, hj => simp at hj; subst hj; simp [h]

set_option maxRecDepth 10000 in
set_option maxHeartbeats 8000000 in
theorem isProfile_any (w : World) (a : Option Addr) (cap : Nat) (l : List Rw) (hw : ∀ r ∈ l, r.wf) (hl : l.length ≤ 9223372036854775807) (hr : RowsAt w (.slice a l.length cap) l) :
    Calls Tryz.prog 47 #[.slice a l.length cap] w fun e w' => e = .returned (.bool (isProfB l)) ∧ RowKit.Below w.heap.size w w' := by
  have HR := Lib.hid hr
  have HW := Lib.hid hw
  clear hr hw
  by_cases h200 : l.length ≤ 200
  · have i1 : ¬ (200 : Int) < (l.length : Int) := by omega
    go_enter Tryz.func47, Tryz.ntmps47
    go_wp2
    go_loopw [12] (fun i wr => ∃ k : Nat, k ≤ l.length ∧ i = .int .i64 k ∧ Hid (∀ j r, j < k → l[j]? = some r → rowOk l j r = true) ∧ Hid (RowKit.Below w.heap.size w wr)) (fun i _ => l.length - (intOf i).toNat)
    case atStart => exact ⟨0, Nat.zero_le _, rfl, Lib.hid (fun j r hj => by omega), Lib.hid (Below.refl _ _)⟩
    case round =>
      obtain ⟨k, hk, rfl, HO, HB⟩ := hrel
      by_cases hlt : k < l.length
      · obtain ⟨r, hrk⟩ : ∃ r, l[k]? = some r := ⟨l[k], List.getElem?_eq_getElem hlt⟩
        have hk0 : (0 : Int) ≤ (k : Int) := Int.natCast_nonneg _
        have hk1 : (k : Int) < (l.length : Int) := by omega
        obtain ⟨b, off, cap', e1, c0, c1, c2, c3, c4⟩ := RowsAt.at (Reads.grow HR.out HB.out) hrk
        injection e1 with e1 e1b e1c
        subst e1 e1c
        clear e1b
        have hsz : r.site.size ≤ 9223372036854775807 := by have := (HW.out r (List.mem_of_getElem? hrk)).s; simp [maxLen] at this; omega
        obtain ⟨s, na, nb, nc, nd⟩ := r
        simp only at c0 c1 c2 c3 c4 hsz
        obtain ⟨W1, hW1⟩ : ∃ W1, W1 = wr.alloc (.cells #[.string s, .int .i64 na, .int .i64 nb, .int .i64 nc, .int .i64 nd] 63) := ⟨_, rfl⟩
        have HB1 : Hid (RowKit.Below w.heap.size w W1) := Lib.hid (by rw [hW1]; exact HB.out.alloc HB.out.size _)
        have FB : Hid (∀ w1, RowKit.Below W1.heap.size W1 w1 → w1.cell? ⟨wr.heap.size, 0, none⟩ = some (.string s) ∧ w1.cell? ⟨wr.heap.size, 1, none⟩ = some (.int .i64 na) ∧ w1.cell? ⟨wr.heap.size, 2, none⟩ = some (.int .i64 nb) ∧ w1.cell? ⟨wr.heap.size, 3, none⟩ = some (.int .i64 nc) ∧ w1.cell? ⟨wr.heap.size, 4, none⟩ = some (.int .i64 nd)) := Lib.hid (by
          intro w1 h1
          have hc : ∀ i v, #[Value.string s, .int .i64 na, .int .i64 nb, .int .i64 nc, .int .i64 nd][i]? = some v → w1.cell? ⟨wr.heap.size, i, none⟩ = some v := by
            intro i v hv
            have hs : (⟨wr.heap.size, i, none⟩ : Addr).block < W1.heap.size := by rw [hW1]; simp
            rw [h1.cell hs, hW1]
            unfold World.cell?
            rw [heap_alloc_new]
            exact hv
          exact ⟨hc 0 _ rfl, hc 1 _ rfl, hc 2 _ rfl, hc 3 _ rfl, hc 4 _ rfl⟩)
        have HW1 := Lib.hid hW1
        have HK := Lib.hid hrk
        have cS : Hid (∀ w1, Calls Tryz.prog 22 #[.string s] w1 fun e w' => e = .returned (.bool (isSiteB s)) ∧ RowKit.Below w1.heap.size w1 w') := Lib.hid fun w1 => isSite_any w1 s hsz
        have FP : Hid (∀ w1, RowKit.Below W1.heap.size W1 w1 → w1.cell? ⟨wr.heap.size, 0, none⟩ = some (.string s)) := Lib.hid fun w1 h1 => (FB.out w1 h1).1
        by_cases hS : isSiteB s = true
        · rw [hS] at cS
          have hP : k = 0 ∧ prevGe l k s = false ∨ ∃ q, 0 < k ∧ l[k - 1]? = some q ∧ prevGe l k s = geB q.site s := by
            rcases Nat.eq_zero_or_pos k with h | h
            · exact .inl ⟨h, by simp [prevGe, h]⟩
            · refine .inr ⟨l[k - 1], h, List.getElem?_eq_getElem (by omega), ?_⟩
              unfold prevGe
              rw [List.getElem?_eq_getElem (by omega : k - 1 < l.length)]
              simp [h]
          clear hW1 hrk
          -- what is left where the row before stands below it
          have rest : Hid (prevGe l k s = false → (∀ (v : Prop), True) → True) := Lib.hid fun _ _ => trivial
          clear rest
          rcases hP with ⟨hk00, hPG⟩ | ⟨q, hkp, hq, hPG⟩
          · have HPG := Lib.hid hPG
            have HS := Lib.hid hS
            clear hS hPG
            have kk : ¬ (0 : Int) < (k : Int) := by omega
            have kkn : ¬ 0 < k := by omega
            have HK0 := Lib.hid hk00
            clear hk00 FP
            have FP := FB
            by_cases hca : nc < na
            · go_wp2_with fail
              rw [← HW1.out]
              refine wp_region_qst (fun w' => RowKit.Below W1.heap.size W1 w') (by kernel_rfl) (by kernel_rfl) ((Below.refl _ W1).drew) ?_
              iterate 40 (
                try with_reducible refine wpQuiet_step (fun K hK => ?_)
                try go_simp
                try first
                  | (refine hK _ ?_; clear hK K)
                  | (apply Exists.intro
                     refine ⟨fun w1 h1 => ?_, hK _ ?_⟩
                     (first
                      | (with_reducible rfl)
                      | (go_at_call 22; refine (cS.out w1).mono ?_; rintro e w' ⟨rfl, h2⟩; exact ⟨rfl, h1.trans (h2.mono h1.size)⟩)
                      | (obtain ⟨y0, y1, y2, y3, y4⟩ := FB.out w1 h1; go_simp; with_reducible rfl)
                      | (have y5 := FP.out w1 h1; go_simp; with_reducible rfl))
                     clear hK K))
              refine wpQuiet_nil ?_
              intro w2 h2
              go_wp2_with fail
              go_ret
              refine ⟨?_, HB1.out.trans (h2.mono HB1.out.size)⟩
              rw [isProfB_not HK.out (by simp [rowOk, hca])]; rfl
            · by_cases hdb : nd < nb
              · go_wp2_with fail
                rw [← HW1.out]
                refine wp_region_qst (fun w' => RowKit.Below W1.heap.size W1 w') (by kernel_rfl) (by kernel_rfl) ((Below.refl _ W1).drew) ?_
                iterate 40 (
                  try with_reducible refine wpQuiet_step (fun K hK => ?_)
                  try go_simp
                  try first
                    | (refine hK _ ?_; clear hK K)
                    | (apply Exists.intro
                       refine ⟨fun w1 h1 => ?_, hK _ ?_⟩
                       (first
                        | (with_reducible rfl)
                        | (go_at_call 22; refine (cS.out w1).mono ?_; rintro e w' ⟨rfl, h2⟩; exact ⟨rfl, h1.trans (h2.mono h1.size)⟩)
                        | (obtain ⟨y0, y1, y2, y3, y4⟩ := FB.out w1 h1; go_simp; with_reducible rfl)
                        | (have y5 := FP.out w1 h1; go_simp; with_reducible rfl))
                       clear hK K))
                refine wpQuiet_nil ?_
                intro w2 h2
                go_wp2_with fail
                go_ret
                refine ⟨?_, HB1.out.trans (h2.mono HB1.out.size)⟩
                rw [isProfB_not HK.out (by simp [rowOk, hdb])]; rfl
              · go_wp2_with fail
                rw [← HW1.out]
                refine wp_region_qst (fun w' => RowKit.Below W1.heap.size W1 w') (by kernel_rfl) (by kernel_rfl) ((Below.refl _ W1).drew) ?_
                iterate 40 (
                  try with_reducible refine wpQuiet_step (fun K hK => ?_)
                  try go_simp
                  try first
                    | (refine hK _ ?_; clear hK K)
                    | (apply Exists.intro
                       refine ⟨fun w1 h1 => ?_, hK _ ?_⟩
                       (first
                        | (with_reducible rfl)
                        | (go_at_call 22; refine (cS.out w1).mono ?_; rintro e w' ⟨rfl, h2⟩; exact ⟨rfl, h1.trans (h2.mono h1.size)⟩)
                        | (obtain ⟨y0, y1, y2, y3, y4⟩ := FB.out w1 h1; go_simp; with_reducible rfl)
                        | (have y5 := FP.out w1 h1; go_simp; with_reducible rfl))
                       clear hK K))
                refine wpQuiet_nil ?_
                intro w2 h2
                obtain ⟨y0, y1, y2, y3, y4⟩ := FB.out w2 h2
                have cN : Hid (∀ w3, Calls Tryz.prog 78 #[.agg #[.string s, .int .i64 na, .int .i64 nb, .int .i64 nc, .int .i64 nd]] w3 fun e w' => e = .returned (.agg #[.int .i64 na, .int .i64 nb, .int .i64 nc, .int .i64 nd]) ∧ RowKit.Below w3.heap.size w3 w') := Lib.hid fun w3 => numbers_any w3 ⟨s, na, nb, nc, nd⟩
                have HC := Lib.hid hca
                have HD := Lib.hid hdb
                go_wp2_with (first | (go_at_call 78; refine (cN.out _).mono ?_; rintro e w3 ⟨rfl, h3⟩))
                clear hca hdb
                have h4 : Hid (RowKit.Below W1.heap.size W1 w3) := Lib.hid (h2.trans (h3.mono h2.size))
                clear h2 h3 y0 y1 y2 y3 y4
                go_loopw [52] (fun i wx => ∃ m : Nat, m ≤ 4 ∧ i = .int .i64 m ∧ Hid (∀ j x, j < m → [na, nb, nc, nd][j]? = some x → numOk x = true) ∧ Hid (RowKit.Below W1.heap.size W1 wx)) (fun i _ => 4 - (intOf i).toNat)
                case atStart => exact ⟨0, Nat.zero_le _, rfl, Lib.hid (fun j x hj => by omega), h4⟩
                case round =>
                  obtain ⟨m, hm, rfl, HN, h5⟩ := hrel
                  clear h4
                  by_cases hm4 : m = 4
                  · subst hm4
                    have hOK : Hid (rowOk l k ⟨s, na, nb, nc, nd⟩ = true) := Lib.hid (by
                      unfold rowOk
                      simp only [HS.out, HPG.out, nums_all HN.out, decide_eq_false (Int.not_lt.2 HC.out), decide_eq_false (Int.not_lt.2 HD.out)]
                      rfl)
                    go_wp2
                    go_roundw
                    case rel =>
                      refine ⟨k + 1, hlt, by go_num, Lib.hid fun j r hj hjr => ?_, Lib.hid (HB1.out.trans (h5.out.mono HB1.out.size))⟩
                      rcases Nat.lt_succ_iff_lt_or_eq.1 hj with h | h
                      · exact HO.out j r h hjr
                      · subst h
                        rw [HK.out] at hjr
                        cases hjr
                        exact hOK.out
                    case measure => simp [intOf]; omega
                  · have hx : ∃ x, [na, nb, nc, nd][m]? = some x ∧ ∀ w9, (Instr.index 108 (.agg #[Value.int .i64 na, .int .i64 nb, .int .i64 nc, .int .i64 nd]) (.int .i64 (m : Int))).run Tryz.prog w9 = .ok (.int .i64 x) w9 := by
                      rcases (by omega : m = 0 ∨ m = 1 ∨ m = 2 ∨ m = 3) with h | h | h | h <;> subst h <;> exact ⟨_, rfl, fun w9 => by kernel_rfl⟩
                    obtain ⟨x, hx1, hx2⟩ := hx
                    have HX := Lib.hid hx1
                    have m0 : (0 : Int) ≤ (m : Int) := Int.natCast_nonneg _
                    have m1 : (m : Int) < 4 := by omega
                    clear hx1
                    by_cases x0 : x < 0
                    · go_wp2
                      go_ret
                      refine ⟨?_, HB1.out.trans (h5.out.mono HB1.out.size)⟩
                      rw [isProfB_not HK.out (by simp [rowOk, nums_not HX.out (by simp [numOk]; omega)])]; rfl
                    · by_cases x1 : 1099511627776 < x
                      · go_wp2
                        go_ret
                        refine ⟨?_, HB1.out.trans (h5.out.mono HB1.out.size)⟩
                        rw [isProfB_not HK.out (by simp [rowOk, nums_not HX.out (by simp [numOk]; omega)])]; rfl
                      · go_wp2
                        go_roundw
                        case rel =>
                          refine ⟨m + 1, by omega, by go_num, Lib.hid fun j y hj hjy => ?_, h5⟩
                          rcases Nat.lt_succ_iff_lt_or_eq.1 hj with h | h
                          · exact HN.out j y h hjy
                          · subst h
                            rw [HX.out] at hjy
                            cases hjy
                            simp [numOk]; omega
                        case measure => simp [intOf]; omega
          · obtain ⟨b', off', cap', e1, p0, _, _, _, _⟩ := RowsAt.at (Reads.grow HR.out HB1.out) hq
            cases e1
            have kk : (0 : Int) < (k : Int) := by omega
            obtain ⟨k1, rfl⟩ : ∃ k1, k = k1 + 1 := ⟨k - 1, by omega⟩
            rw [Nat.add_sub_cancel] at hq p0
            have HS := Lib.hid hS
            clear FP
            have FP : Hid (∀ w1, RowKit.Below W1.heap.size W1 w1 → w1.cell? ⟨b, off + k1 * 5, none⟩ = some (.string q.site)) := Lib.hid fun w1 h1 => by
              rw [h1.cell (p := ⟨b, off + k1 * 5, none⟩) (World.block_lt_of_cell? _ _ p0)]; exact p0
            have hq1 : ((k1 + 1 : Nat) : Int) - 1 = (k1 : Int) := by omega
            have k10 : (0 : Int) ≤ (k1 : Int) := Int.natCast_nonneg _
            have k1l : (k1 : Int) < (l.length : Int) := by omega
            have qw : IntKind.i64.wrap (k1 : Int) = (k1 : Int) := IntWalk.i64_in _ (by omega)
            obtain ⟨qs, hqs⟩ : ∃ qs, q.site = qs := ⟨_, rfl⟩
            rw [hqs] at hPG FP
            have HQ := Lib.hid hq
            clear hS hq p0 hqs hq1 hkp
            by_cases hG : geB qs s = true
            · have HPG := Lib.hid (hPG.trans hG)
              have hG2 : Op.bytesLess qs.toList s.toList = false := by unfold geB at hG; simpa using hG
              clear hPG hG
              go_wp2_with fail
              rw [← HW1.out]
              refine wp_region_qst (fun w' => RowKit.Below W1.heap.size W1 w') (by kernel_rfl) (by kernel_rfl) ((Below.refl _ W1).drew) ?_
              iterate 40 (
                try with_reducible refine wpQuiet_step (fun K hK => ?_)
                try go_simp
                try first
                  | (refine hK _ ?_; clear hK K)
                  | (apply Exists.intro
                     refine ⟨fun w1 h1 => ?_, hK _ ?_⟩
                     (first
                      | (with_reducible rfl)
                      | (go_at_call 22; refine (cS.out w1).mono ?_; rintro e w' ⟨rfl, h2⟩; exact ⟨rfl, h1.trans (h2.mono h1.size)⟩)
                      | (obtain ⟨y0, y1, y2, y3, y4⟩ := FB.out w1 h1; go_simp; with_reducible rfl)
                      | (have y5 := FP.out w1 h1; go_simp; with_reducible rfl))
                     clear hK K))
              refine wpQuiet_nil ?_
              intro w2 h2
              go_wp2_with fail
              go_ret
              refine ⟨?_, HB1.out.trans (h2.mono HB1.out.size)⟩
              rw [isProfB_not HK.out (by simp [rowOk, HPG.out])]; rfl
            · rw [Bool.not_eq_true] at hG
              have HPG := Lib.hid (hPG.trans hG)
              have hG2 : Op.bytesLess qs.toList s.toList = true := by unfold geB at hG; simpa using hG
              clear hPG hG
              by_cases hca : nc < na
              · go_wp2_with fail
                rw [← HW1.out]
                refine wp_region_qst (fun w' => RowKit.Below W1.heap.size W1 w') (by kernel_rfl) (by kernel_rfl) ((Below.refl _ W1).drew) ?_
                iterate 40 (
                  try with_reducible refine wpQuiet_step (fun K hK => ?_)
                  try go_simp
                  try first
                    | (refine hK _ ?_; clear hK K)
                    | (apply Exists.intro
                       refine ⟨fun w1 h1 => ?_, hK _ ?_⟩
                       (first
                        | (with_reducible rfl)
                        | (go_at_call 22; refine (cS.out w1).mono ?_; rintro e w' ⟨rfl, h2⟩; exact ⟨rfl, h1.trans (h2.mono h1.size)⟩)
                        | (obtain ⟨y0, y1, y2, y3, y4⟩ := FB.out w1 h1; go_simp; with_reducible rfl)
                        | (have y5 := FP.out w1 h1; go_simp; with_reducible rfl))
                       clear hK K))
                refine wpQuiet_nil ?_
                intro w2 h2
                go_wp2_with fail
                go_ret
                refine ⟨?_, HB1.out.trans (h2.mono HB1.out.size)⟩
                rw [isProfB_not HK.out (by simp [rowOk, hca])]; rfl
              · by_cases hdb : nd < nb
                · go_wp2_with fail
                  rw [← HW1.out]
                  refine wp_region_qst (fun w' => RowKit.Below W1.heap.size W1 w') (by kernel_rfl) (by kernel_rfl) ((Below.refl _ W1).drew) ?_
                  iterate 40 (
                    try with_reducible refine wpQuiet_step (fun K hK => ?_)
                    try go_simp
                    try first
                      | (refine hK _ ?_; clear hK K)
                      | (apply Exists.intro
                         refine ⟨fun w1 h1 => ?_, hK _ ?_⟩
                         (first
                          | (with_reducible rfl)
                          | (go_at_call 22; refine (cS.out w1).mono ?_; rintro e w' ⟨rfl, h2⟩; exact ⟨rfl, h1.trans (h2.mono h1.size)⟩)
                          | (obtain ⟨y0, y1, y2, y3, y4⟩ := FB.out w1 h1; go_simp; with_reducible rfl)
                          | (have y5 := FP.out w1 h1; go_simp; with_reducible rfl))
                         clear hK K))
                  refine wpQuiet_nil ?_
                  intro w2 h2
                  go_wp2_with fail
                  go_ret
                  refine ⟨?_, HB1.out.trans (h2.mono HB1.out.size)⟩
                  rw [isProfB_not HK.out (by simp [rowOk, hdb])]; rfl
                · go_wp2_with fail
                  rw [← HW1.out]
                  refine wp_region_qst (fun w' => RowKit.Below W1.heap.size W1 w') (by kernel_rfl) (by kernel_rfl) ((Below.refl _ W1).drew) ?_
                  iterate 40 (
                    try with_reducible refine wpQuiet_step (fun K hK => ?_)
                    try go_simp
                    try first
                      | (refine hK _ ?_; clear hK K)
                      | (apply Exists.intro
                         refine ⟨fun w1 h1 => ?_, hK _ ?_⟩
                         (first
                          | (with_reducible rfl)
                          | (go_at_call 22; refine (cS.out w1).mono ?_; rintro e w' ⟨rfl, h2⟩; exact ⟨rfl, h1.trans (h2.mono h1.size)⟩)
                          | (obtain ⟨y0, y1, y2, y3, y4⟩ := FB.out w1 h1; go_simp; with_reducible rfl)
                          | (have y5 := FP.out w1 h1; go_simp; with_reducible rfl))
                         clear hK K))
                  refine wpQuiet_nil ?_
                  intro w2 h2
                  obtain ⟨y0, y1, y2, y3, y4⟩ := FB.out w2 h2
                  have cN : Hid (∀ w3, Calls Tryz.prog 78 #[.agg #[.string s, .int .i64 na, .int .i64 nb, .int .i64 nc, .int .i64 nd]] w3 fun e w' => e = .returned (.agg #[.int .i64 na, .int .i64 nb, .int .i64 nc, .int .i64 nd]) ∧ RowKit.Below w3.heap.size w3 w') := Lib.hid fun w3 => numbers_any w3 ⟨s, na, nb, nc, nd⟩
                  have HC := Lib.hid hca
                  have HD := Lib.hid hdb
                  go_wp2_with (first | (go_at_call 78; refine (cN.out _).mono ?_; rintro e w3 ⟨rfl, h3⟩))
                  clear hca hdb
                  have h4 : Hid (RowKit.Below W1.heap.size W1 w3) := Lib.hid (h2.trans (h3.mono h2.size))
                  clear h2 h3 y0 y1 y2 y3 y4
                  go_loopw [52] (fun i wx => ∃ m : Nat, m ≤ 4 ∧ i = .int .i64 m ∧ Hid (∀ j x, j < m → [na, nb, nc, nd][j]? = some x → numOk x = true) ∧ Hid (RowKit.Below W1.heap.size W1 wx)) (fun i _ => 4 - (intOf i).toNat)
                  case atStart => exact ⟨0, Nat.zero_le _, rfl, Lib.hid (fun j x hj => by omega), h4⟩
                  case round =>
                    obtain ⟨m, hm, rfl, HN, h5⟩ := hrel
                    clear h4
                    by_cases hm4 : m = 4
                    · subst hm4
                      have hOK : Hid (rowOk l (k1 + 1) ⟨s, na, nb, nc, nd⟩ = true) := Lib.hid (by
                        unfold rowOk
                        simp only [HS.out, HPG.out, nums_all HN.out, decide_eq_false (Int.not_lt.2 HC.out), decide_eq_false (Int.not_lt.2 HD.out)]
                        rfl)
                      go_wp2
                      go_roundw
                      case rel =>
                        refine ⟨(k1 + 1) + 1, hlt, by go_num, Lib.hid fun j r hj hjr => ?_, Lib.hid (HB1.out.trans (h5.out.mono HB1.out.size))⟩
                        rcases Nat.lt_succ_iff_lt_or_eq.1 hj with h | h
                        · exact HO.out j r h hjr
                        · subst h
                          rw [HK.out] at hjr
                          cases hjr
                          exact hOK.out
                      case measure => simp [intOf]; omega
                    · have hx : ∃ x, [na, nb, nc, nd][m]? = some x ∧ ∀ w9, (Instr.index 108 (.agg #[Value.int .i64 na, .int .i64 nb, .int .i64 nc, .int .i64 nd]) (.int .i64 (m : Int))).run Tryz.prog w9 = .ok (.int .i64 x) w9 := by
                        rcases (by omega : m = 0 ∨ m = 1 ∨ m = 2 ∨ m = 3) with h | h | h | h <;> subst h <;> exact ⟨_, rfl, fun w9 => by kernel_rfl⟩
                      obtain ⟨x, hx1, hx2⟩ := hx
                      have HX := Lib.hid hx1
                      have m0 : (0 : Int) ≤ (m : Int) := Int.natCast_nonneg _
                      have m1 : (m : Int) < 4 := by omega
                      clear hx1
                      by_cases x0 : x < 0
                      · go_wp2
                        go_ret
                        refine ⟨?_, HB1.out.trans (h5.out.mono HB1.out.size)⟩
                        rw [isProfB_not HK.out (by simp [rowOk, nums_not HX.out (by simp [numOk]; omega)])]; rfl
                      · by_cases x1 : 1099511627776 < x
                        · go_wp2
                          go_ret
                          refine ⟨?_, HB1.out.trans (h5.out.mono HB1.out.size)⟩
                          rw [isProfB_not HK.out (by simp [rowOk, nums_not HX.out (by simp [numOk]; omega)])]; rfl
                        · go_wp2
                          go_roundw
                          case rel =>
                            refine ⟨m + 1, by omega, by go_num, Lib.hid fun j y hj hjy => ?_, h5⟩
                            rcases Nat.lt_succ_iff_lt_or_eq.1 hj with h | h
                            · exact HN.out j y h hjy
                            · subst h
                              rw [HX.out] at hjy
                              cases hjy
                              simp [numOk]; omega
                          case measure => simp [intOf]; omega
        · rw [Bool.not_eq_true] at hS
          have HS := Lib.hid hS
          rw [hS] at cS
          clear hS hW1 hrk
          go_wp2_with fail
          rw [← HW1.out]
          refine wp_region_qst (fun w' => RowKit.Below W1.heap.size W1 w') (by kernel_rfl) (by kernel_rfl) ((Below.refl _ W1).drew) ?_
          iterate 40 (
            try with_reducible refine wpQuiet_step (fun K hK => ?_)
            try go_simp
            try first
              | (refine hK _ ?_; clear hK K)
              | (apply Exists.intro
                 refine ⟨fun w1 h1 => ?_, hK _ ?_⟩
                 (first
                  | (with_reducible rfl)
                  | (go_at_call 22; refine (cS.out w1).mono ?_; rintro e w' ⟨rfl, h2⟩; exact ⟨rfl, h1.trans (h2.mono h1.size)⟩)
                  | (obtain ⟨y0, y1, y2, y3, y4⟩ := FB.out w1 h1; go_simp; with_reducible rfl)
                  | (have y5 := FP.out w1 h1; go_simp; with_reducible rfl))
                 clear hK K))
          refine wpQuiet_nil ?_
          intro w2 h2
          go_wp2_with fail
          go_ret
          refine ⟨?_, HB1.out.trans (h2.mono HB1.out.size)⟩
          rw [isProfB_not HK.out (by simp [rowOk, HS.out])]; rfl
      · have HL : Hid (isProfB l = true) := Lib.hid (isProfB_yes h200 fun j r hj => HO.out j r (by omega))
        have hk1 : ¬ (k : Int) < (l.length : Int) := by omega
        go_wp2
        go_ret
        exact ⟨by rw [HL.out]; rfl, HB.out⟩
  · have i1 : (200 : Int) < (l.length : Int) := by omega
    go_enter Tryz.func47, Tryz.ntmps47
    go_wp2
    go_ret
    have : isProfB l = false := by simp [isProfB, h200]
    exact ⟨by rw [this]; rfl, Below.refl _ _⟩
end Go.Proofs.YtcodjodhacjfeaaGreatDoor

/-
  Valid, on both sides. (Printed by mkC14.py.)
-/
import Derived.Test.YtaejojbdkgccpaaC13
import Derived.Test.YtaejojbdkgccpaaQst
namespace Go.Proofs.Ytaejojbdkgccpaa
open Go.RowKit Go.Maps Go.ChangeMaps

def clsOk (tb : List Cls) (i : Nat) : Prop := ∀ x, tb[i]? = some x → okCls x.size x.pages x.batch ∧ ∀ y, 0 < i → tb[i - 1]? = some y → y.size < x.size
def tabOk (tb : List Cls) : Prop := 1 ≤ tb.length ∧ tb.length ≤ 40 ∧ ∀ i, i < tb.length → clsOk tb i
theorem tabOk.tb {tb : List Cls} (h : tabOk tb) : tbOk tb := ⟨h.1, h.2.1, fun x hx => by
  obtain ⟨i, hi⟩ := List.getElem?_of_mem hx
  exact (h.2.2 i (List.getElem?_eq_some_iff.1 hi).1 x hi).1⟩
theorem clsOk_step {tb : List Cls} {k : Nat} {x : Cls} (h : ∀ j, j < k → clsOk tb j) (hx : tb[k]? = some x) (ho : okCls x.size x.pages x.batch) (hp : ∀ y, 0 < k → tb[k - 1]? = some y → y.size < x.size) : ∀ j, j < k + 1 → clsOk tb j := by
  intro j hj
  by_cases e : j = k
  · subst e
    intro z hz
    rw [hx] at hz
    cases hz
    exact ⟨ho, hp⟩
  · exact h j (by omega)
theorem not_tabOk {tb : List Cls} {k : Nat} (hk : k < tb.length) (h : ¬ clsOk tb k) : (false = true ↔ tabOk tb) := ⟨fun h => (by cases h), fun g => absurd (g.2.2 k hk) h⟩

/-- the table is there, whatever else comes -/
def TabIn (w0 : World) (F : List HP) (v : Value) (tb : List Cls) : Prop := ∀ (G : List HP) w, St w0 (G ++ F) w → Reads w 3 v tb.length (clsC tb)
theorem TabIn.at {w0 w : World} {F : List HP} {tbb toff cap : Nat} {tb : List Cls} (h : TabIn w0 F (.slice (some ⟨tbb, toff, none⟩) tb.length cap) tb) (G : List HP) (hs : St w0 (G ++ F) w) {k : Nat} {x : Cls} (hx : tb[k]? = some x) :
    w.cell? ⟨tbb, toff + k * 3, none⟩ = some (.int .i64 x.size) ∧ w.cell? ⟨tbb, toff + k * 3 + 1, none⟩ = some (.int .i64 x.pages) ∧ w.cell? ⟨tbb, toff + k * 3 + 2, none⟩ = some (.int .i64 x.batch) := by
  obtain ⟨b, off, c, hv, h0, h1, h2⟩ := tb_cells (h G w hs) hx
  cases hv
  exact ⟨h0, h1, h2⟩
set_option maxRecDepth 10000 in
set_option maxHeartbeats 4000000 in
theorem valid_any (w0 w : World) (F : List HP) (hs : St w0 F w) (a : Option Addr) (cap : Nat) (tb : List Cls) (ht : TabIn w0 F (.slice a tb.length cap) tb) :
    Calls Try.prog 50 #[.slice a tb.length cap] w fun e w' => ∃ v : Bool, e = .returned (.bool v) ∧ (v = true ↔ tabOk tb) ∧ St w0 F w' := by
  have HT := Lib.hid ht
  clear ht
  by_cases h1 : tb.length < 1
  · have b0 : decide ((tb.length : Int) < 1) = true := decide_eq_true (by omega)
    go_enter Try.func50, Try.ntmps50
    go_wp2_with fail
    go_ret
    exact ⟨false, rfl, ⟨fun h => (by cases h), fun h => absurd h.1 (by omega)⟩, hs⟩
  have b0 : decide ((tb.length : Int) < 1) = false := decide_eq_false (by omega)
  by_cases h2 : 40 < tb.length
  · have b1 : decide ((40 : Int) < (tb.length : Int)) = true := decide_eq_true (by omega)
    go_enter Try.func50, Try.ntmps50
    go_wp2_with fail
    go_ret
    exact ⟨false, rfl, ⟨fun h => (by cases h), fun h => absurd h.2.1 (by omega)⟩, hs⟩
  have b1 : decide ((40 : Int) < (tb.length : Int)) = false := decide_eq_false (by omega)
  go_enter Try.func50, Try.ntmps50
  go_wp2_with fail
  go_loopw [15] (fun i wr => ∃ k : Nat, k ≤ tb.length ∧ i = .int .i64 k ∧ St w0 F wr ∧ Hid (∀ j, j < k → clsOk tb j)) (fun i _ => tb.length - (intOf i).toNat)
  case atStart => exact ⟨0, Nat.zero_le _, rfl, hs, Lib.hid fun j hj => absurd hj (by omega)⟩
  case round =>
    clear hs
    obtain ⟨k, hk, rfl, hs1, HK⟩ := hrel
    by_cases hlt : k < tb.length
    · obtain ⟨x, hx⟩ : ∃ x, tb[k]? = some x := ⟨tb[k], List.getElem?_eq_getElem hlt⟩
      obtain ⟨tbb, toff, tcap, tv, t0, t1, t2⟩ := tb_cells (HT.out [] wr hs1) hx
      injection tv with e1 _ e2
      subst e1
      clear e2
      have HX := Lib.hid hx
      have i0 : (0 : Int) ≤ (k : Int) := by omega
      have i1 : (k : Int) < (tb.length : Int) := by omega
      clear hx
      have g1 := hs1.allocRow #[.int .i64 x.size, .int .i64 x.pages, .int .i64 x.batch] 43
      obtain ⟨z0, z1, z2⟩ := g1.cells3
      have O := Lib.hid fun w1 => one_any w1 x.size x.pages x.batch
      by_cases hok : okCls x.size x.pages x.batch
      · rw [decide_eq_true hok] at O
        by_cases hk0 : k = 0
        · have j0 : decide ((0 : Int) < (k : Int)) = false := decide_eq_false (by omega)
          have j0' : decide (0 < k) = false := decide_eq_false (by omega)
          have NX := Lib.hid (clsOk_step HK.out HX.out hok fun y h => absurd h (by omega))
          clear hk0
          go_wp2_with fail
          refine wp_region_qst (fun w' => St w0 (HP.blk wr.heap.size #[.int .i64 x.size, .int .i64 x.pages, .int .i64 x.batch] 43 :: F) w') (by kernel_rfl) (by kernel_rfl) g1.drew ?_
          clear t0 t1 t2 z0 z1 z2
          repeat (
            with_reducible refine wpQuiet_step (fun K hK => ?_)
            go_simp
            first
              | (refine hK _ ?_; clear hK K)
              | (apply Exists.intro
                 refine ⟨fun w1 h1 => ?_, hK _ ?_⟩
                 (first
                | (with_reducible rfl)
                | (go_at_call 68; refine (O.out w1).mono ?_; rintro e w' ⟨rfl, rfl⟩; exact ⟨rfl, (h1.allocRow _ _).drop⟩)
                | (obtain ⟨z0, z1, z2⟩ := h1.cells3; go_simp; with_reducible rfl))
                 clear hK K))
          refine wpQuiet_nil ?_
          intro w2 h2
          go_wp2_with fail
          go_roundw
          case rel => exact ⟨k + 1, hlt, by go_num, h2.drop, NX⟩
          case measure => simp [intOf]; omega
        · have hk1 : k - 1 < tb.length := by omega
          obtain ⟨y, hy⟩ : ∃ y, tb[k - 1]? = some y := ⟨tb[k - 1], List.getElem?_eq_getElem hk1⟩
          generalize hj : k - 1 = j at *
          have PREV : Hid (∀ w1, St w0 (HP.blk wr.heap.size #[.int .i64 x.size, .int .i64 x.pages, .int .i64 x.batch] 43 :: F) w1 → w1.cell? ⟨tbb, toff + j * 3, none⟩ = some (.int .i64 y.size)) := Lib.hid fun w1 h1 => (HT.out.at [HP.blk wr.heap.size #[.int .i64 x.size, .int .i64 x.pages, .int .i64 x.batch] 43] h1 hy).1
          have j0 : decide ((0 : Int) < (k : Int)) = true := decide_eq_true (by omega)
          have j0' : decide (0 < k) = true := decide_eq_true (by omega)
          have j1 : IntKind.i64.wrap ((k : Int) - 1) = (j : Int) := by rw [IntWalk.i64_in _ (by omega)]; omega
          have j2 : (0 : Int) ≤ (j : Int) := by omega
          have j3 : (j : Int) < (tb.length : Int) := by omega
          by_cases hsz : x.size ≤ y.size
          · have j4 : decide (x.size ≤ y.size) = true := decide_eq_true hsz
            have BAD := Lib.hid (not_tabOk hlt fun h => by have := (h x HX.out).2 y (by omega) (by rw [hj]; exact hy); omega)
            clear hj
            go_wp2_with fail
            refine wp_region_qst (fun w' => St w0 (HP.blk wr.heap.size #[.int .i64 x.size, .int .i64 x.pages, .int .i64 x.batch] 43 :: F) w') (by kernel_rfl) (by kernel_rfl) g1.drew ?_
            clear t0 t1 t2 z0 z1 z2
            repeat (
              with_reducible refine wpQuiet_step (fun K hK => ?_)
              go_simp
              first
                | (refine hK _ ?_; clear hK K)
                | (apply Exists.intro
                   refine ⟨fun w1 h1 => ?_, hK _ ?_⟩
                   (first
                  | (with_reducible rfl)
                  | (go_at_call 68; refine (O.out w1).mono ?_; rintro e w' ⟨rfl, rfl⟩; exact ⟨rfl, (h1.allocRow _ _).drop⟩)
                  | (obtain ⟨z0, z1, z2⟩ := h1.cells3; go_simp; with_reducible rfl)
                  | (have p0 := PREV.out w1 h1; go_simp; with_reducible rfl))
                   clear hK K))
            refine wpQuiet_nil ?_
            intro w2 h2
            go_wp2_with fail
            go_ret
            exact ⟨false, rfl, BAD.out, h2.drop⟩
          · have j4 : decide (x.size ≤ y.size) = false := decide_eq_false hsz
            have NX := Lib.hid (clsOk_step HK.out HX.out hok fun z h hz => by rw [hj, hy] at hz; cases hz; omega)
            clear hj
            go_wp2_with fail
            refine wp_region_qst (fun w' => St w0 (HP.blk wr.heap.size #[.int .i64 x.size, .int .i64 x.pages, .int .i64 x.batch] 43 :: F) w') (by kernel_rfl) (by kernel_rfl) g1.drew ?_
            clear t0 t1 t2 z0 z1 z2
            repeat (
              with_reducible refine wpQuiet_step (fun K hK => ?_)
              go_simp
              first
                | (refine hK _ ?_; clear hK K)
                | (apply Exists.intro
                   refine ⟨fun w1 h1 => ?_, hK _ ?_⟩
                   (first
                  | (with_reducible rfl)
                  | (go_at_call 68; refine (O.out w1).mono ?_; rintro e w' ⟨rfl, rfl⟩; exact ⟨rfl, (h1.allocRow _ _).drop⟩)
                  | (obtain ⟨z0, z1, z2⟩ := h1.cells3; go_simp; with_reducible rfl)
                  | (have p0 := PREV.out w1 h1; go_simp; with_reducible rfl))
                   clear hK K))
            refine wpQuiet_nil ?_
            intro w2 h2
            go_wp2_with fail
            go_roundw
            case rel => exact ⟨k + 1, hlt, by go_num, h2.drop, NX⟩
            case measure => simp [intOf]; omega
      · rw [decide_eq_false hok] at O
        have BAD := Lib.hid (not_tabOk hlt fun h => hok (h x HX.out).1)
        go_wp2_with fail
        refine wp_region_qst (fun w' => St w0 (HP.blk wr.heap.size #[.int .i64 x.size, .int .i64 x.pages, .int .i64 x.batch] 43 :: F) w') (by kernel_rfl) (by kernel_rfl) g1.drew ?_
        clear t0 t1 t2 z0 z1 z2
        repeat (
          with_reducible refine wpQuiet_step (fun K hK => ?_)
          go_simp
          first
            | (refine hK _ ?_; clear hK K)
            | (apply Exists.intro
               refine ⟨fun w1 h1 => ?_, hK _ ?_⟩
               (first
              | (with_reducible rfl)
              | (go_at_call 68; refine (O.out w1).mono ?_; rintro e w' ⟨rfl, rfl⟩; exact ⟨rfl, (h1.allocRow _ _).drop⟩)
              | (obtain ⟨z0, z1, z2⟩ := h1.cells3; go_simp; with_reducible rfl))
               clear hK K))
        refine wpQuiet_nil ?_
        intro w2 h2
        go_wp2_with fail
        go_ret
        exact ⟨false, rfl, BAD.out, h2.drop⟩
    · go_wp2_with fail
      go_ret
      exact ⟨true, rfl, ⟨fun _ => ⟨by omega, by omega, fun i hi => HK.out i (by omega)⟩, fun _ => rfl⟩, hs1⟩
set_option maxRecDepth 10000 in
set_option maxHeartbeats 4000000 in
theorem rvalid_any (w0 w : World) (F : List HP) (hs : St w0 F w) (a : Option Addr) (cap : Nat) (tb : List Cls) (ht : TabIn w0 F (.slice a tb.length cap) tb) :
    Calls Try.prog 51 #[.slice a tb.length cap] w fun e w' => ∃ v : Bool, e = .returned (.bool v) ∧ (v = true ↔ tabOk tb) ∧ St w0 F w' := by
  have HT := Lib.hid ht
  clear ht
  by_cases h1 : tb.length < 1
  · have b0 : decide ((tb.length : Int) < 1) = true := decide_eq_true (by omega)
    go_enter Try.func51, Try.ntmps51
    go_wp2_with fail
    go_ret
    exact ⟨false, rfl, ⟨fun h => (by cases h), fun h => absurd h.1 (by omega)⟩, hs⟩
  have b0 : decide ((tb.length : Int) < 1) = false := decide_eq_false (by omega)
  by_cases h2 : 40 < tb.length
  · have b1 : decide ((40 : Int) < (tb.length : Int)) = true := decide_eq_true (by omega)
    go_enter Try.func51, Try.ntmps51
    go_wp2_with fail
    go_ret
    exact ⟨false, rfl, ⟨fun h => (by cases h), fun h => absurd h.2.1 (by omega)⟩, hs⟩
  have b1 : decide ((40 : Int) < (tb.length : Int)) = false := decide_eq_false (by omega)
  go_enter Try.func51, Try.ntmps51
  go_wp2_with fail
  go_loopw [3] (fun i wr => ∃ k : Nat, k ≤ tb.length ∧ i = .int .i64 k ∧ St w0 F wr ∧ Hid (∀ j, j < k → clsOk tb j)) (fun i _ => tb.length - (intOf i).toNat)
  case atStart => exact ⟨0, Nat.zero_le _, rfl, hs, Lib.hid fun j hj => absurd hj (by omega)⟩
  case round =>
    clear hs
    obtain ⟨k, hk, rfl, hs1, HK⟩ := hrel
    by_cases hlt : k < tb.length
    · obtain ⟨x, hx⟩ : ∃ x, tb[k]? = some x := ⟨tb[k], List.getElem?_eq_getElem hlt⟩
      obtain ⟨tbb, toff, tcap, tv, t0, t1, t2⟩ := tb_cells (HT.out [] wr hs1) hx
      injection tv with e1 _ e2
      subst e1
      clear e2
      have HX := Lib.hid hx
      have i0 : (0 : Int) ≤ (k : Int) := by omega
      have i1 : (k : Int) < (tb.length : Int) := by omega
      clear hx
      have CUR : Hid (∀ w1, St w0 F w1 → w1.cell? ⟨tbb, toff + k * 3, none⟩ = some (.int .i64 x.size) ∧ w1.cell? ⟨tbb, toff + k * 3 + 1, none⟩ = some (.int .i64 x.pages) ∧ w1.cell? ⟨tbb, toff + k * 3 + 2, none⟩ = some (.int .i64 x.batch)) := Lib.hid fun w1 h1 => HT.out.at [] h1 HX.out
      have O := Lib.hid fun w1 => right_any w1 x.size x.pages x.batch
      by_cases hok : okCls x.size x.pages x.batch
      · rw [decide_eq_true hok] at O
        by_cases hk0 : k = 0
        · have j0 : decide ((0 : Int) < (k : Int)) = false := decide_eq_false (by omega)
          have j0' : decide (0 < k) = false := decide_eq_false (by omega)
          have NX := Lib.hid (clsOk_step HK.out HX.out hok fun y h => absurd h (by omega))
          clear hk0
          go_wp2_with fail
          refine wp_region_qst (fun w' => St w0 F w') (by kernel_rfl) (by kernel_rfl) hs1.drew ?_
          clear t0 t1 t2
          repeat (
            with_reducible refine wpQuiet_step (fun K hK => ?_)
            go_simp
            first
              | (refine hK _ ?_; clear hK K)
              | (apply Exists.intro
                 refine ⟨fun w1 h1 => ?_, hK _ ?_⟩
                 (first
                | (with_reducible rfl)
                | (go_at_call 69; refine (O.out w1).mono ?_; rintro e w' ⟨rfl, rfl⟩; exact ⟨rfl, (h1.allocRow _ _).drop⟩)
                | (obtain ⟨z0, z1, z2⟩ := CUR.out w1 h1; go_simp; with_reducible rfl))
                 clear hK K))
          refine wpQuiet_nil ?_
          intro w2 h2
          go_wp2_with fail
          go_roundw
          case rel => exact ⟨k + 1, hlt, by go_num, h2, NX⟩
          case measure => simp [intOf]; omega
        · have hk1 : k - 1 < tb.length := by omega
          obtain ⟨y, hy⟩ : ∃ y, tb[k - 1]? = some y := ⟨tb[k - 1], List.getElem?_eq_getElem hk1⟩
          generalize hj : k - 1 = j at *
          have PREV : Hid (∀ w1, St w0 F w1 → w1.cell? ⟨tbb, toff + j * 3, none⟩ = some (.int .i64 y.size)) := Lib.hid fun w1 h1 => (HT.out.at [] h1 hy).1
          have j0 : decide ((0 : Int) < (k : Int)) = true := decide_eq_true (by omega)
          have j0' : decide (0 < k) = true := decide_eq_true (by omega)
          have j1 : IntKind.i64.wrap ((k : Int) - 1) = (j : Int) := by rw [IntWalk.i64_in _ (by omega)]; omega
          have j2 : (0 : Int) ≤ (j : Int) := by omega
          have j3 : (j : Int) < (tb.length : Int) := by omega
          by_cases hsz : x.size ≤ y.size
          · have j4 : decide (x.size ≤ y.size) = true := decide_eq_true hsz
            have BAD := Lib.hid (not_tabOk hlt fun h => by have := (h x HX.out).2 y (by omega) (by rw [hj]; exact hy); omega)
            clear hj
            go_wp2_with fail
            refine wp_region_qst (fun w' => St w0 F w') (by kernel_rfl) (by kernel_rfl) hs1.drew ?_
            clear t0 t1 t2
            repeat (
              with_reducible refine wpQuiet_step (fun K hK => ?_)
              go_simp
              first
                | (refine hK _ ?_; clear hK K)
                | (apply Exists.intro
                   refine ⟨fun w1 h1 => ?_, hK _ ?_⟩
                   (first
                  | (with_reducible rfl)
                  | (go_at_call 69; refine (O.out w1).mono ?_; rintro e w' ⟨rfl, rfl⟩; exact ⟨rfl, (h1.allocRow _ _).drop⟩)
                  | (obtain ⟨z0, z1, z2⟩ := CUR.out w1 h1; go_simp; with_reducible rfl)
                  | (have p0 := PREV.out w1 h1; go_simp; with_reducible rfl))
                   clear hK K))
            refine wpQuiet_nil ?_
            intro w2 h2
            go_wp2_with fail
            go_ret
            exact ⟨false, rfl, BAD.out, h2⟩
          · have j4 : decide (x.size ≤ y.size) = false := decide_eq_false hsz
            have NX := Lib.hid (clsOk_step HK.out HX.out hok fun z h hz => by rw [hj, hy] at hz; cases hz; omega)
            clear hj
            go_wp2_with fail
            refine wp_region_qst (fun w' => St w0 F w') (by kernel_rfl) (by kernel_rfl) hs1.drew ?_
            clear t0 t1 t2
            repeat (
              with_reducible refine wpQuiet_step (fun K hK => ?_)
              go_simp
              first
                | (refine hK _ ?_; clear hK K)
                | (apply Exists.intro
                   refine ⟨fun w1 h1 => ?_, hK _ ?_⟩
                   (first
                  | (with_reducible rfl)
                  | (go_at_call 69; refine (O.out w1).mono ?_; rintro e w' ⟨rfl, rfl⟩; exact ⟨rfl, (h1.allocRow _ _).drop⟩)
                  | (obtain ⟨z0, z1, z2⟩ := CUR.out w1 h1; go_simp; with_reducible rfl)
                  | (have p0 := PREV.out w1 h1; go_simp; with_reducible rfl))
                   clear hK K))
            refine wpQuiet_nil ?_
            intro w2 h2
            go_wp2_with fail
            go_roundw
            case rel => exact ⟨k + 1, hlt, by go_num, h2, NX⟩
            case measure => simp [intOf]; omega
      · rw [decide_eq_false hok] at O
        have BAD := Lib.hid (not_tabOk hlt fun h => hok (h x HX.out).1)
        go_wp2_with fail
        refine wp_region_qst (fun w' => St w0 F w') (by kernel_rfl) (by kernel_rfl) hs1.drew ?_
        clear t0 t1 t2
        repeat (
          with_reducible refine wpQuiet_step (fun K hK => ?_)
          go_simp
          first
            | (refine hK _ ?_; clear hK K)
            | (apply Exists.intro
               refine ⟨fun w1 h1 => ?_, hK _ ?_⟩
               (first
              | (with_reducible rfl)
              | (go_at_call 69; refine (O.out w1).mono ?_; rintro e w' ⟨rfl, rfl⟩; exact ⟨rfl, (h1.allocRow _ _).drop⟩)
              | (obtain ⟨z0, z1, z2⟩ := CUR.out w1 h1; go_simp; with_reducible rfl))
               clear hK K))
        refine wpQuiet_nil ?_
        intro w2 h2
        go_wp2_with fail
        go_ret
        exact ⟨false, rfl, BAD.out, h2⟩
    · go_wp2_with fail
      go_ret
      exact ⟨true, rfl, ⟨fun _ => ⟨by omega, by omega, fun i hi => HK.out i (by omega)⟩, fun _ => rfl⟩, hs1⟩
end Go.Proofs.Ytaejojbdkgccpaa

/-
  The statement PagemapNone: its walk. (Printed by mkP29.py.)
-/
import Derived.Test.YthknghkiogiajaaP28
namespace Go.Proofs.Ythknghkiogiajaa
open Go.RowKit
attribute [local go_sem ↓] Go.wp_at_zero Go.wp_at_succ

theorem box_cells0 {w0 w : World} {F : List HP} {bx : Nat} {k a b n : Value} {t : TypeId} (h : St w0 (HP.blk bx #[k, a, b, n] t :: F) w) :
    w.cell? ⟨bx, 1, none⟩ = some a ∧ w.cell? ⟨bx, 2, none⟩ = some b ∧ w.cell? ⟨bx, 3, none⟩ = some n :=
  ⟨h.cells4.2.1, h.cells4.2.2.1, h.cells4.2.2.2⟩

set_option maxRecDepth 10000 in
set_option maxHeartbeats 4000000 in
theorem play_not_set (w0 w : World) (F : List HP) (q : Option Addr) (hq : ∀ w', St w0 F w' → NotMade w' q) (hs : St w0 F w) (a b n : Int) :
    Calls Try.prog 27 #[.pointer q, .pointer none, .agg #[.int .i64 0, .int .i64 a, .int .i64 b, .int .i64 n]] w fun e w' => e = .returned (.bool true) ∧ St w0 F w' := by
  have h1 := hs.allocRow #[.int .i64 0, .int .i64 a, .int .i64 b, .int .i64 n] 30
  have h2 := h1.drew
  have H5 := Lib.hid (fun w1 h => Set_not w1 q (hq w1 (St.drop (A := HP.blk w.heap.size #[.int .i64 0, .int .i64 a, .int .i64 b, .int .i64 n] 30) h)) a b n)
  have H6 := Lib.hid (fun w1 => rset_nil w1 a b n)
  clear h1 hs hq
  go_enter Try.func27, Try.ntmps27
  go_wp2_with fail
  go_region_held3 (fun w' => w'.cell? ⟨w.heap.size, 1, none⟩ = some (.int .i64 a) ∧ w'.cell? ⟨w.heap.size, 2, none⟩ = some (.int .i64 b) ∧ w'.cell? ⟨w.heap.size, 3, none⟩ = some (.int .i64 n)) (exact box_cells0 (by assumption))
    (first
      | (go_at_call 21; refine (H5.out _ ?_).mono ?_; assumption; rintro e w' ⟨rfl, rfl⟩)
      | (go_at_call 36; refine (H6.out _).mono ?_; rintro e w' ⟨rfl, rfl⟩))
  all_goals go_wp2_with fail
  all_goals go_ret
  all_goals exact ⟨by simp, St.drop (by assumption)⟩

set_option maxRecDepth 10000 in
set_option maxHeartbeats 4000000 in
theorem play_not_clear (w0 w : World) (F : List HP) (q : Option Addr) (hq : ∀ w', St w0 F w' → NotMade w' q) (hs : St w0 F w) (a b n : Int) :
    Calls Try.prog 27 #[.pointer q, .pointer none, .agg #[.int .i64 1, .int .i64 a, .int .i64 b, .int .i64 n]] w fun e w' => e = .returned (.bool true) ∧ St w0 F w' := by
  have h1 := hs.allocRow #[.int .i64 1, .int .i64 a, .int .i64 b, .int .i64 n] 30
  have h2 := h1.drew
  have H5 := Lib.hid (fun w1 h => Clear_not w1 q (hq w1 (St.drop (A := HP.blk w.heap.size #[.int .i64 1, .int .i64 a, .int .i64 b, .int .i64 n] 30) h)) a b)
  have H6 := Lib.hid (fun w1 => rclear_nil w1 a b)
  clear h1 hs hq
  go_enter Try.func27, Try.ntmps27
  go_wp2_with fail
  go_region_held3 (fun w' => w'.cell? ⟨w.heap.size, 1, none⟩ = some (.int .i64 a) ∧ w'.cell? ⟨w.heap.size, 2, none⟩ = some (.int .i64 b) ∧ w'.cell? ⟨w.heap.size, 3, none⟩ = some (.int .i64 n)) (exact box_cells0 (by assumption))
    (first
      | (go_at_call 32; refine (H5.out _ ?_).mono ?_; assumption; rintro e w' ⟨rfl, rfl⟩)
      | (go_at_call 37; refine (H6.out _).mono ?_; rintro e w' ⟨rfl, rfl⟩))
  all_goals go_wp2_with fail
  all_goals go_ret
  all_goals exact ⟨by simp, St.drop (by assumption)⟩

theorem play_not (w0 w : World) (F : List HP) (q : Option Addr) (hq : ∀ w', St w0 F w' → NotMade w' q) (hs : St w0 F w) (x : ActV) :
    Calls Try.prog 27 #[.pointer q, .pointer none, .agg #[.int .i64 x.kind, .int .i64 x.a, .int .i64 x.b, .int .i64 x.c]] w fun e w' => e = .returned (.bool true) ∧ St w0 F w' := by
  obtain ⟨k, a, b, n⟩ := x
  by_cases h0 : k = 0
  · subst h0
    exact play_not_set w0 w F q hq hs a b n
  by_cases h1 : k = 1
  · subst h1
    exact play_not_clear w0 w F q hq hs a b n
  have b0 : (k == 0) = false := by simpa using h0
  have b1 : (k == 1) = false := by simpa using h1
  have h2 := (hs.allocRow #[.int .i64 k, .int .i64 a, .int .i64 b, .int .i64 n] 30).drop
  clear h0 h1 hs hq
  dsimp only
  go_enter Try.func27, Try.ntmps27
  go_wp2_with fail
  go_ret
  exact ⟨rfl, h2⟩

def zeroMap (u : Nat) : HP := HP.blk u #[.bool false, .pointer none, .pointer none, .pointer none, .pointer none, .pointer none, .pointer none, .pointer none, .pointer none, .pointer none, .pointer none, .pointer none, .pointer none, .pointer none, .pointer none, .pointer none, .pointer none] 54
theorem zeroMap_not {w0 w : World} {F : List HP} {u : Nat} (h : St w0 (zeroMap u :: F) w) : NotMade w (some ⟨u, 0, none⟩) := .inr ⟨u, rfl, h.cell rfl⟩
theorem no_marks (f : Nat → Int) : (((mks f 1024).length : Int) == 0) = sameF (fun _ => 0) f := by
  have h0 : mks (fun _ => 0) 1024 = [] := by
    have : ∀ n, mks (fun _ => 0) n = [] := by
      intro n
      induction n with
      | zero => rfl
      | succ n ih => show addMk _ _ 0 = _; rw [addMk_zero, ih]
    exact this _
  rw [same_marks, h0]
  cases mks f 1024 with
  | nil => rfl
  | cons x l =>
    rw [decide_eq_false (by intro h; cases h)]
    simp only [List.length_cons, beq_eq_false_iff_ne]
    omega
def boxOf (b : Nat) (x : ActV) : HP := HP.blk b #[.int .i64 x.kind, .int .i64 x.a, .int .i64 x.b, .int .i64 x.c] 30

set_option maxRecDepth 10000 in
set_option maxHeartbeats 8000000 in
theorem none_walk (x : ActV) (a : Option Addr) (cap : Nat) (acts : List ActV) (w : World) (h0 : True) (h : ActsAt w (.slice a acts.length cap) acts) (hn : acts.length ≤ 9223372036854775807) :
    Calls Try.prog 9 #[.agg #[.int .i64 x.kind, .int .i64 x.a, .int .i64 x.b, .int .i64 x.c], .slice a acts.length cap] w fun e w' => e = .returned (.bool true) ∧ Below w.heap.size w w' := by
  clear h0
  have H := Lib.hid h
  clear h
  have hb := (St.start w).allocRow #[.int .i64 x.kind, .int .i64 x.a, .int .i64 x.b, .int .i64 x.c] 30
  have hb1 : St w [boxOf w.heap.size x] _ := hb
  clear hb
  by_cases hg : 60 < acts.length
  · have HG := Lib.hid (decide_eq_true hg)
    clear hg
    go_enter Try.func9, Try.ntmps9
    go_wp2_with fail
    refine (great_any _ a _ cap hn).mono ?_
    rintro e w' ⟨rfl, rfl⟩
    rw [HG.out]
    go_wp2_with fail
    refine (alive_any w _ _ hb1).mono ?_
    rintro e w' ⟨rfl, hs⟩
    go_wp2_with fail
    go_ret
    exact ⟨rfl, hs.below⟩
  have hn60 : acts.length ≤ 60 := by omega
  have HG := Lib.hid (decide_eq_false hg)
  clear hg
  have hb2 := hb1.allocRow #[.bool false, .pointer none, .pointer none, .pointer none, .pointer none, .pointer none, .pointer none, .pointer none, .pointer none, .pointer none, .pointer none, .pointer none, .pointer none, .pointer none, .pointer none, .pointer none, .pointer none] 54
  rw [show (w.alloc (.cells #[.int .i64 x.kind, .int .i64 x.a, .int .i64 x.b, .int .i64 x.c] 30)).heap.size = w.heap.size + 1 by simp] at hb2
  have hb3 : St w [zeroMap (w.heap.size + 1), boxOf w.heap.size x] _ := hb2
  clear hb2
  go_enter Try.func9, Try.ntmps9
  go_wp2_with fail
  refine (great_any _ a _ cap hn).mono ?_
  rintro e w' ⟨rfl, rfl⟩
  rw [HG.out]
  have c1 := (hb3.front 1).cells4
  obtain ⟨c0, c1, c2, c3⟩ := c1
  go_wp2_with fail
  refine (next_not _ none (.inl rfl) x.a).mono ?_
  rintro e w' ⟨rfl, rfl⟩
  go_wp2_with fail
  refine (next_not _ _ (zeroMap_not hb3) x.a).mono ?_
  rintro e w' ⟨rfl, rfl⟩
  go_wp2_with fail
  refine (clone_not _ none (.inl rfl)).mono ?_
  rintro e w' ⟨rfl, rfl⟩
  go_wp2_with fail
  refine (clone_not _ _ (zeroMap_not hb3)).mono ?_
  rintro e w' ⟨rfl, rfl⟩
  go_wp2_with fail
  refine (new_any w _ _ hb3).mono ?_
  rintro e w2 ⟨cm, rfl, h2⟩
  clear c0 c1 c2 c3
  go_wp2_with fail
  refine (rnew_any w w2 _ h2).mono ?_
  rintro e w3 ⟨cr, rfl, h3⟩
  have h4 : St w [mapP cm (actsF (fun _ => 0) (acts.take 0)), refP cr (actsF (fun _ => 0) (acts.take 0)), zeroMap (w.heap.size + 1), boxOf w.heap.size x] w3 := h3.swap
  clear h3 h2 hb3 hb1
  go_wp2_with fail
  go_loopw [16] (fun i wr => ∃ k : Nat, k ≤ acts.length ∧ i = .int .i64 k ∧ St w [mapP cm (actsF (fun _ => 0) (acts.take k)), refP cr (actsF (fun _ => 0) (acts.take k)), zeroMap (w.heap.size + 1), boxOf w.heap.size x] wr) (fun i _ => acts.length - (intOf i).toNat)
  case atStart => exact ⟨0, Nat.zero_le _, rfl, h4⟩
  case round =>
    clear h4
    obtain ⟨k, hk, rfl, hs1⟩ := hrel
    by_cases hlt : k < acts.length
    · obtain ⟨y, hy⟩ : ∃ y, acts[k]? = some y := ⟨acts[k], List.getElem?_eq_getElem hlt⟩
      obtain ⟨b, off, cp, e1, k0, k1, k2, k3⟩ := H.out.cell hy
      have hb0 := World.block_lt_of_cell? w _ k0
      injection e1 with e1 e2 e3
      clear e2 e3
      subst e1
      have HT := Lib.hid (actsF_succ (fun _ => 0) hy)
      clear hy
      have c0 := (hs1.was hb0).trans k0
      have c1 := (hs1.was (p := ⟨b, off + k * 4 + 1, none⟩) hb0).trans k1
      have c2 := (hs1.was (p := ⟨b, off + k * 4 + 2, none⟩) hb0).trans k2
      have c3 := (hs1.was (p := ⟨b, off + k * 4 + 3, none⟩) hb0).trans k3
      go_wp2_with fail
      refine (play_any w wr _ cm cr _ hs1 y).mono ?_
      rintro e w5 ⟨rfl, h6⟩
      rw [← HT.out] at h6
      go_wp2_with fail
      go_roundw
      case rel => exact ⟨k + 1, hlt, by go_num, h6⟩
      case measure => simp [intOf]; omega
    · have e : acts.take k = acts := List.take_of_length_le (by omega)
      rw [e] at hs1
      clear e
      generalize actsF (fun _ => 0) acts = f at *
      have NM := Lib.hid (no_marks f)
      have SC := Lib.hid (sameF_comm f fun _ => 0)
      have hll := mks_len f 1024
      go_wp2_with fail
      refine (rMarks_any w _ _ cr f (hs1.front 1)).mono ?_
      rintro e w7 ⟨a7, p7, rfl, h7⟩
      have h8 : St w [zeroMap (w.heap.size + 1), boxOf w.heap.size x, mapP cm f] w7 := h7.pick 5 [3, 4, 2]
      clear h7 hs1
      have nm := NM.out
      generalize (mks f 1024).length = len at *
      have hz := (h8.front 1).cells4
      obtain ⟨c0, c1, c2, c3⟩ := hz
      go_wp2_with fail
      refine (play_not w _ _ none (fun _ _ => .inl rfl) h8 x).mono ?_
      rintro e w9 ⟨rfl, h9⟩
      clear c0 c1 c2 c3
      obtain ⟨c0, c1, c2, c3⟩ := (h9.front 1).cells4
      go_wp2_with fail
      refine (play_not w _ _ _ (fun _ h => zeroMap_not h) h9 x).mono ?_
      rintro e w10 ⟨rfl, h10⟩
      clear c0 c1 c2 c3
      go_wp2_with fail
      refine (lsame_not w10 none (.inl rfl)).mono ?_
      rintro e w' ⟨rfl, n, rfl⟩
      have h11 := h10.drewN n
      go_wp2_with fail
      refine (lsame_not _ _ (zeroMap_not h11)).mono ?_
      rintro e w' ⟨rfl, n2, rfl⟩
      have h12 := h11.drewN n2
      clear h11 h10 h9 h8
      generalize (w10.drewN n).drewN n2 = w12 at *
      go_wp2_with fail
      refine (Same_any _ none _ _ _ (MapAt.not (.inl rfl)) (MapAt.not (zeroMap_not h12))).mono ?_
      rintro e w' ⟨rfl, rfl⟩
      rw [show sameF (fun _ => 0) (fun _ => 0) = true from sameF_iff.2 fun _ _ => rfl]
      go_wp2_with fail
      refine (Same_any _ none _ _ f (MapAt.not (.inl rfl)) (MapAt.of (h12.front 2))).mono ?_
      rintro e w' ⟨rfl, rfl⟩
      rw [← NM.out]
      go_wp2_with fail
      refine (Same_any _ _ _ f _ (MapAt.of (h12.front 2)) (MapAt.not (zeroMap_not h12))).mono ?_
      rintro e w' ⟨rfl, rfl⟩
      rw [SC.out, ← NM.out]
      go_wp2_with fail
      refine (alive_any w _ _ h12).mono ?_
      rintro e w' ⟨rfl, hs⟩
      go_wp2_with fail
      go_ret
      exact ⟨rfl, hs.below⟩
end Go.Proofs.Ythknghkiogiajaa

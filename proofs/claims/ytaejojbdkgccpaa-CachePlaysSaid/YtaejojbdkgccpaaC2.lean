/-
  made, of: a map of lists.
-/
import Derived.Test.YtaejojbdkgccpaaMapS
import Derived.Test.YtaejojbdkgccpaaC1
import Derived.Test.YtaejojbdkgccpaaProg
import Derived.Test.YtaejojbdkgccpaaArr
import Derived.Lib.Hide
namespace Go.Proofs.Ytaejojbdkgccpaa
open Go.RowKit Go.Maps Go.ChangeMaps

theorem zero68 (w : World) : (zeroValue 68).run Try.prog w = .ok (.pointer none) w := by kernel_rfl

@[go_sem] theorem neqMap63 (m : Option Nat) (w : World) : (binOp .neq 63 (.map m) (.map none)).run Try.prog w = .ok (.bool (!m.isNone)) w := run_neq_map_nil w 63 3 68 m Try.underlying63
set_option maxRecDepth 10000 in
theorem cmade_true (w : World) (c bm : Nat) (c2 : w.cell? ⟨c, 2, none⟩ = some (.map (some bm))) :
    Calls Try.prog 47 #[.pointer (some ⟨c, 0, none⟩)] w fun e w' => e = .returned (.bool true) ∧ w = w' := by
  go_enter Try.func47, Try.ntmps47
  go_wp2
  go_ret
  exact ⟨rfl, rfl⟩
set_option maxRecDepth 10000 in
theorem cmade_nil (w : World) : Calls Try.prog 47 #[.pointer none] w fun e w' => e = .returned (.bool false) ∧ w = w' := by
  go_enter Try.func47, Try.ntmps47
  go_wp2
  go_ret
  exact ⟨rfl, rfl⟩
set_option maxRecDepth 10000 in
theorem cmade_zero (w : World) (c : Nat) (c2 : w.cell? ⟨c, 2, none⟩ = some (.map none)) :
    Calls Try.prog 47 #[.pointer (some ⟨c, 0, none⟩)] w fun e w' => e = .returned (.bool false) ∧ w = w' := by
  go_enter Try.func47, Try.ntmps47
  go_wp2
  go_ret
  exact ⟨rfl, rfl⟩

set_option maxRecDepth 10000 in
/-- the list is there -/
theorem of_there (w0 w : World) (F : List HP) (c bm clock N tcap : Nat) (ta : Option Addr) (bud : Int) (l : List Ent) (x : Ent) (hs : St w0 (HP.blk c #[.slice ta N tcap, .int .i64 bud, .map (some bm)] 65 :: HP.at bm (.map (entsA l) clock) :: F) w)
    (ho : MapOk l clock) (hx : x ∈ l) (hN : x.k < N) :
    Calls Try.prog 39 #[.pointer (some ⟨c, 0, none⟩), .int .i64 x.k] w fun e w' => e = .returned (.pointer (some ⟨x.b, 0, none⟩)) ∧ w = w' := by
  obtain ⟨c0, c1, c2⟩ := hs.cells3
  have hr := look_some (P := Try.prog) (w := w) (t := 63) (k := 3) Try.underlying63 Try.underlying3 (hs.front 1).block.2 ho.small ho.once hx
  have b0 : decide ((x.k : Int) < 0) = false := by simp
  have b1 : decide ((N : Int) ≤ (x.k : Int)) = false := decide_eq_false (by omega)
  clear hs ho hx
  go_enter Try.func39, Try.ntmps39
  go_wp2_with (first | (go_at_call 47; refine (cmade_true _ _ _ c2).mono ?_; rintro e w' ⟨rfl, rfl⟩))
  go_ret
  exact ⟨rfl, rfl⟩
set_option maxRecDepth 10000 in
/-- the list is not there yet -/
theorem of_new (w0 w : World) (F : List HP) (c bm clock N tcap : Nat) (ta : Option Addr) (bud : Int) (l : List Ent) (k : Nat) (hs : St w0 (HP.blk c #[.slice ta N tcap, .int .i64 bud, .map (some bm)] 65 :: HP.at bm (.map (entsA l) clock) :: F) w)
    (ho : MapOk l clock) (hn : ∀ x ∈ l, x.k ≠ k) (hN : k < N) (hN40 : N ≤ 40) :
    Calls Try.prog 39 #[.pointer (some ⟨c, 0, none⟩), .int .i64 k] w fun e w' => ∃ b, e = .returned (.pointer (some ⟨b, 0, none⟩)) ∧
      St w0 (HP.blk b #[.slice none 0 0, .int .i64 1, .int .i64 0] 72 :: HP.blk c #[.slice ta N tcap, .int .i64 bud, .map (some bm)] 65 :: HP.at bm (.map (entsA (l ++ [⟨k, b, clock⟩])) (clock + 1)) :: F) w' := by
  obtain ⟨c0, c1, c2⟩ := hs.cells3
  have hr := look_none (P := Try.prog) (w := w) (t := 63) (k := 3) Try.underlying63 Try.underlying3 (zero68 w) (hs.front 1).block.2 ho.small (c := k) (by omega) hn
  have b0 : decide ((k : Int) < 0) = false := by simp
  have b1 : decide ((N : Int) ≤ (k : Int)) = false := decide_eq_false (by omega)
  have h1 := (hs.allocRow #[.slice none 0 0, .int .i64 1, .int .i64 0] 72)
  have h2 := h1.rot
  have HN := Lib.hid hn
  have HO := Lib.hid ho
  have hk40 : k ≤ 9223372036854775807 := by omega
  clear hs ho hn h1
  go_enter Try.func39, Try.ntmps39
  go_wp2_with (first
    | (go_at_call 47; refine (cmade_true _ _ _ c2).mono ?_; rintro e w' ⟨rfl, rfl⟩)
    | (at_mapUpdate; refine wpList_mapUpdate_st rfl _ _ _ 63 rfl Try.underlying63 Try.underlying3 k w.heap.size rfl rfl rfl h2 HO.out hk40 HN.out ?_; intro w3 h3;
        obtain ⟨d0, d1, d2⟩ := (h3.front 2).cells3;
        have hr3 := look_some (P := Try.prog) (w := w3) (t := 63) (k := 3) Try.underlying63 Try.underlying3 h3.block.2 (HO.out.add hk40 HN.out).small (HO.out.add (v := w.heap.size) hk40 HN.out).once (x := ⟨k, w.heap.size, clock⟩) (by simp)))
  go_ret
  exact ⟨_, rfl, h3.rot'⟩
set_option maxRecDepth 10000 in
/-- there is no such class -/
theorem of_none (w : World) (c bm N tcap : Nat) (ta : Option Addr) (c0 : w.cell? ⟨c, 0, none⟩ = some (.slice ta N tcap)) (c2 : w.cell? ⟨c, 2, none⟩ = some (.map (some bm))) (k : Int) (hk : ¬ inC N k) :
    Calls Try.prog 39 #[.pointer (some ⟨c, 0, none⟩), .int .i64 k] w fun e w' => e = .returned (.pointer none) ∧ w = w' := by
  unfold inC at hk
  by_cases h0 : k < 0
  · have b0 : decide (k < 0) = true := decide_eq_true h0
    clear hk h0
    go_enter Try.func39, Try.ntmps39
    go_wp2_with (first | (go_at_call 47; refine (cmade_true _ _ _ c2).mono ?_; rintro e w' ⟨rfl, rfl⟩))
    go_ret
    exact ⟨rfl, rfl⟩
  · have b0 : decide (k < 0) = false := decide_eq_false h0
    have b1 : decide ((N : Int) ≤ k) = true := decide_eq_true (by omega)
    clear hk h0
    go_enter Try.func39, Try.ntmps39
    go_wp2_with (first | (go_at_call 47; refine (cmade_true _ _ _ c2).mono ?_; rintro e w' ⟨rfl, rfl⟩))
    go_ret
    exact ⟨rfl, rfl⟩
set_option maxRecDepth 10000 in
theorem of_nil (w : World) (k : Int) : Calls Try.prog 39 #[.pointer none, .int .i64 k] w fun e w' => e = .returned (.pointer none) ∧ w = w' := by
  go_enter Try.func39, Try.ntmps39
  go_wp2_with (first | (go_at_call 47; refine (cmade_nil _).mono ?_; rintro e w' ⟨rfl, rfl⟩))
  go_ret
  exact ⟨rfl, rfl⟩
end Go.Proofs.Ytaejojbdkgccpaa

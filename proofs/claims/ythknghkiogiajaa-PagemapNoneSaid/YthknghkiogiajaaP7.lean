/-
  Package pagemap: Nodes.
-/
import Derived.Test.YthknghkiogiajaaP6
namespace Go.Proofs.Ythknghkiogiajaa
open Go.RowKit

/-- how many of the first n -/
def cnt : Nat → (Nat → Bool) → Nat
  | 0, _ => 0
  | n + 1, P => cnt n P + if P n = true then 1 else 0
theorem cnt_le : ∀ (n : Nat) (P : Nat → Bool), cnt n P ≤ n
  | 0, _ => Nat.le_refl _
  | n + 1, P => by
    have := cnt_le n P
    unfold cnt
    split <;> omega
theorem cnt_ext : ∀ {n : Nat} {P Q : Nat → Bool}, (∀ j, j < n → P j = Q j) → cnt n P = cnt n Q
  | 0, _, _, _ => rfl
  | n + 1, P, Q, h => by
    unfold cnt
    rw [cnt_ext fun j hj => h j (by omega), h n (by omega)]
theorem cnt_true {n : Nat} {P : Nat → Bool} (h : P n = true) : cnt (n + 1) P = cnt n P + 1 := by
  show cnt n P + _ = _
  rw [if_pos h]
theorem cnt_false {n : Nat} {P : Nat → Bool} (h : P n = false) : cnt (n + 1) P = cnt n P := by
  show cnt n P + _ = _
  rw [if_neg (by simp [h])]
  rfl
/-- a middle, and a leaf, is there -/
def midB (f : Nat → Int) (i : Nat) : Bool := !zeroTo 64 fun k => f (64 * i + k)
def leafB (f : Nat → Int) (l : Nat) : Bool := !zeroTo 8 fun k => f (8 * l + k)
theorem cnt_skip {P : Nat → Bool} : ∀ (m n : Nat), (∀ j, j < m → P (n + j) = false) → cnt (n + m) P = cnt n P
  | 0, _, _ => rfl
  | m + 1, n, h => by
    rw [← Nat.add_assoc, cnt_false (h m (by omega)), cnt_skip m n fun j hj => h j (by omega)]

theorem info51 : (Try.prog.info? 51).map (fun i => (i.zero, i.size, i.bytes)) = some (some (.pointer none), 1, 8) := by kernel_rfl
theorem run_index_row {P : Program} {t e : TypeId} {u : TypeId} {i : TypeInfo} {n : Nat} (hu : P.underlying t = some (.array n e)) (he : P.underlying e = some (.pointer u)) (hi : P.info? e = some i) (hc : i.size = 1) (p : Nat → Option Addr) (k : Nat) (hk : k < n) (w : World) :
    (Instr.index t (.agg (cellsF n fun j => .pointer (p j))) (.int .i64 k)).run P w = .ok (.pointer (p k)) w := by
  have hx : (cellsF n fun j => Value.pointer (p j))[k]? = some (.pointer (p k)) := cellsF_get (fun j => Value.pointer (p j)) hk
  simp [Instr.index, run_underlying hu, asIntOf, part, isAgg, run_underlying he, hx, go_sem, sizeOf, typeInfo, hi, hc]
  intro h
  omega
set_option maxRecDepth 10000 in
set_option maxHeartbeats 2000000 in
theorem nodes_any (w0 w : World) (F : List HP) (c : Nat) (f : Nat → Int) (hs : St w0 (mapP c f :: F) w) :
    Calls Try.prog 19 #[.pointer (some ⟨c, 0, none⟩)] w fun e w' => e = .returned (.tuple #[.int .i64 (cnt 16 (midB f)), .int .i64 (cnt 128 (leafB f))]) ∧ w = w' := by
  obtain ⟨i51, hi51, _, hs51, _⟩ := info_parts info51
  have c0 := mapP_made hs
  obtain ⟨p, h⟩ := mapP_open hs
  have d0 := mapRow_cell h (i := 0) (by omega)
  have d1 := mapRow_cell h (i := 1) (by omega)
  have d2 := mapRow_cell h (i := 2) (by omega)
  have d3 := mapRow_cell h (i := 3) (by omega)
  have d4 := mapRow_cell h (i := 4) (by omega)
  have d5 := mapRow_cell h (i := 5) (by omega)
  have d6 := mapRow_cell h (i := 6) (by omega)
  have d7 := mapRow_cell h (i := 7) (by omega)
  have d8 := mapRow_cell h (i := 8) (by omega)
  have d9 := mapRow_cell h (i := 9) (by omega)
  have d10 := mapRow_cell h (i := 10) (by omega)
  have d11 := mapRow_cell h (i := 11) (by omega)
  have d12 := mapRow_cell h (i := 12) (by omega)
  have d13 := mapRow_cell h (i := 13) (by omega)
  have d14 := mapRow_cell h (i := 14) (by omega)
  have d15 := mapRow_cell h (i := 15) (by omega)
  go_enter Try.func19, Try.ntmps19
  go_wp2_with (go_at_call 33; refine (good_true _ _ c0).mono ?_; rintro e w' ⟨rfl, rfl⟩)
  have e16 : (#[.pointer (p 0), .pointer (p 1), .pointer (p 2), .pointer (p 3), .pointer (p 4), .pointer (p 5), .pointer (p 6), .pointer (p 7), .pointer (p 8), .pointer (p 9), .pointer (p 10), .pointer (p 11), .pointer (p 12), .pointer (p 13), .pointer (p 14), .pointer (p 15)] : Array Value) = cellsF 16 (fun j => .pointer (p j)) := rfl
  rw [e16]
  have HS := Lib.hid hs
  have H := Lib.hid h
  have hsz := cellsF_size 16 fun j => Value.pointer (p j)
  clear d0 d1 d2 d3 d4 d5 d6 d7 d8 d9 d10 d11 d12 d13 d14 d15 e16 c0 hs h
  go_loop [4, 5, 17] (fun m l i => ∃ k : Nat, k ≤ 16 ∧ i = .int .i64 k ∧ m = .int .i64 (cnt k (midB f)) ∧ l = .int .i64 (cnt (8 * k) (leafB f))) (fun _ _ i => 16 - (intOf i).toNat)
  case atStart => exact ⟨0, Nat.zero_le _, rfl, rfl, rfl⟩
  case round =>
    obtain ⟨k, hk, rfl, rfl, rfl⟩ := hrel
    have l1 := cnt_le k (midB f)
    have l2 := cnt_le (8 * k) (leafB f)
    by_cases hlt : k < 16
    · have hx : (cellsF 16 fun j => Value.pointer (p j))[k]? = some (.pointer (p k)) := cellsF_get (fun j => Value.pointer (p j)) hlt
      have hix := fun w => run_index_row (P := Try.prog) (t := 52) (n := 16) Try.underlying52 Try.underlying51 hi51 hs51 p k hlt w
      rcases midP_open (stars_open hlt H.out.swap) with ⟨hp, hz, _⟩ | ⟨b, q, hp, hz, h⟩
      · rw [hp] at hx hix
        have hm : cnt (k + 1) (midB f) = cnt k (midB f) := cnt_false (by unfold midB; rw [hz]; rfl)
        have hl : cnt (8 * (k + 1)) (leafB f) = cnt (8 * k) (leafB f) := by
          rw [Nat.mul_add]
          refine cnt_skip 8 (8 * k) fun j hj => ?_
          unfold leafB
          rw [Bool.not_eq_false', zeroTo_iff]
          intro i hi
          have := zeroTo_iff.1 hz (8 * j + i) (by omega)
          rwa [show 64 * k + (8 * j + i) = 8 * (8 * k + j) + i by omega] at this
        have HM := Lib.hid hm
        have HL := Lib.hid hl
        clear hm hl hz hp
        go_wp2
        go_round
        case rel => exact ⟨k + 1, hlt, by go_num, by rw [HM.out], by rw [HL.out]⟩
        case measure => simp [intOf]; omega
      · rw [hp] at hx hix
        have hm : cnt (k + 1) (midB f) = cnt k (midB f) + 1 := cnt_true (by unfold midB; rw [hz]; rfl)
        have HM := Lib.hid hm
        have H2 := Lib.hid h
        clear hm hz hp
        go_wp2_with fail
        go_loop [5, 25] (fun l i => ∃ j : Nat, j ≤ 8 ∧ i = .int .i64 j ∧ l = .int .i64 (cnt (8 * k + j) (leafB f))) (fun _ i => 8 - (intOf i).toNat)
        case atStart => exact ⟨0, Nat.zero_le _, rfl, rfl⟩
        case round =>
          obtain ⟨j, hj, rfl, rfl⟩ := hrel
          have l3 := cnt_le (8 * k + j) (leafB f)
          by_cases hjl : j < 8
          · have h3 := mid_open hjl H2.out
            have c2 := midRow_cell (h3.front 1) hjl
            rcases leafP_open h3 with ⟨hq, hz, _⟩ | ⟨lb, hq, hz, _⟩
            · rw [hq] at c2
              have hl : cnt (8 * k + j + 1) (leafB f) = cnt (8 * k + j) (leafB f) := cnt_false (by
                unfold leafB
                rw [Bool.not_eq_false', ← hz]
                exact zeroTo_ext fun i _ => by rw [show 8 * (8 * k + j) + i = 64 * k + (8 * j + i) by omega])
              have HL := Lib.hid hl
              clear hl hz hq h3
              go_wp2
              go_round
              case rel => exact ⟨j + 1, hjl, by go_num, by rw [← Nat.add_assoc, HL.out]⟩
              case measure => simp [intOf]; omega
            · rw [hq] at c2
              have hl : cnt (8 * k + j + 1) (leafB f) = cnt (8 * k + j) (leafB f) + 1 := cnt_true (by
                unfold leafB
                rw [Bool.not_eq_true', ← hz]
                exact zeroTo_ext fun i _ => by rw [show 8 * (8 * k + j) + i = 64 * k + (8 * j + i) by omega])
              have HL := Lib.hid hl
              clear hl hz hq h3
              go_wp2
              go_round
              case rel => exact ⟨j + 1, hjl, by go_num, by rw [← Nat.add_assoc, HL.out]; go_num⟩
              case measure => simp [intOf]; omega
          · have e : j = 8 := by omega
            subst e
            go_wp2
            go_round
            case rel => exact ⟨k + 1, hlt, by go_num, by rw [HM.out]; go_num, by rw [Nat.mul_add]⟩
            case measure => simp [intOf]; omega
    · have e : k = 16 := by omega
      subst e
      go_wp2
      go_ret2
      exact ⟨rfl, rfl⟩
end Go.Proofs.Ythknghkiogiajaa

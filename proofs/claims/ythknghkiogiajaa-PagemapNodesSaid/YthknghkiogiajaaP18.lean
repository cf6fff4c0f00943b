/-
  The statement PagemapNodes: its walk.
-/
import Derived.Test.YthknghkiogiajaaP12
namespace Go.Proofs.Ythknghkiogiajaa
open Go.RowKit

/-- some page of the q-th group of d pages, of the first k pages, has a number -/
def gbit (d : Nat) (f : Nat → Int) (k q : Nat) : Bool := (List.range k).any fun p => decide (p / d = q) && (f p != 0)
theorem gbit_zero (d : Nat) (f : Nat → Int) : gbit d f 0 = fun _ => false := rfl
theorem gbit_same {d : Nat} {f : Nat → Int} {k : Nat} (h : f k = 0) : gbit d f (k + 1) = gbit d f k := by
  funext q
  unfold gbit
  rw [List.range_succ, List.any_append]
  simp [h]
theorem gbit_more {d : Nat} {f : Nat → Int} {k : Nat} (h : f k ≠ 0) : gbit d f (k + 1) = upd (gbit d f k) (k / d) true := by
  funext q
  unfold gbit upd
  rw [List.range_succ, List.any_append]
  by_cases e : q = k / d
  · subst e; simp [h]
  · simp [e, Ne.symm e]
theorem gbit_iff {d : Nat} {f : Nat → Int} {k q : Nat} : gbit d f k q = true ↔ ∃ p, p < k ∧ p / d = q ∧ f p ≠ 0 := by
  unfold gbit
  simp [List.any_eq_true]
theorem not_zeroTo {n : Nat} {g : Nat → Int} : (!zeroTo n g) = true ↔ ∃ j, j < n ∧ g j ≠ 0 := by
  rw [Bool.not_eq_true', ← Bool.not_eq_true, zeroTo_iff]
  constructor
  · intro h
    refine Classical.byContradiction fun hc => h fun j hj => Classical.byContradiction fun hg => hc ⟨j, hj, hg⟩
  · rintro ⟨j, hj, hg⟩ h
    exact hg (h j hj)
theorem gbit8 (f : Nat → Int) (q : Nat) (hq : q < 128) : gbit 8 f 1024 q = leafB f q := by
  rw [Bool.eq_iff_iff, gbit_iff]
  unfold leafB
  rw [not_zeroTo]
  constructor
  · rintro ⟨p, hp, e, hf⟩
    exact ⟨p % 8, by omega, by rwa [show 8 * q + p % 8 = p by omega]⟩
  · rintro ⟨j, hj, hf⟩
    exact ⟨8 * q + j, by omega, by omega, hf⟩
theorem gbit64 (f : Nat → Int) (q : Nat) (hq : q < 16) : gbit 64 f 1024 q = midB f q := by
  rw [Bool.eq_iff_iff, gbit_iff]
  unfold midB
  rw [not_zeroTo]
  constructor
  · rintro ⟨p, hp, e, hf⟩
    exact ⟨p % 64, by omega, by rwa [show 64 * q + p % 64 = p by omega]⟩
  · rintro ⟨j, hj, hf⟩
    exact ⟨64 * q + j, by omega, by omega, hf⟩
theorem gbit64_high (f : Nat → Int) (q : Nat) (hq : 16 ≤ q) : gbit 64 f 1024 q = false := by
  rw [← Bool.not_eq_true, gbit_iff]
  rintro ⟨p, hp, e, _⟩
  omega
theorem cnt_leaves (f : Nat → Int) : cnt 128 (gbit 8 f 1024) = cnt 128 (leafB f) := cnt_ext fun j hj => gbit8 f j hj
theorem cnt_mids (f : Nat → Int) : cnt 128 (gbit 64 f 1024) = cnt 16 (midB f) := by
  rw [show (128 : Nat) = 16 + 112 from rfl, cnt_skip 112 16 fun j _ => gbit64_high f _ (by omega)]
  exact cnt_ext fun j hj => gbit64 f j hj
theorem info36 : (Try.prog.info? 36).map (fun i => (i.zero, i.size, i.bytes)) = some (some (.agg (cellsF 128 fun _ => .bool false)), 128, 128) := by kernel_rfl
theorem zero36 (w : World) : Sem.run Try.prog (zeroValue 36) w = .ok (.agg (cellsF 128 fun _ => .bool false)) w := by
  obtain ⟨i, hi, hz, _, _⟩ := info_parts info36
  simp [zeroValue, typeInfo, hi, hz]
def bitsBlk (b : Nat) (v : Nat → Bool) : HP := HP.blk b (cellsF 128 fun q => .bool (v q)) 36

set_option maxRecDepth 10000 in
set_option maxHeartbeats 4000000 in
theorem nodes_walk (a : Option Addr) (cap : Nat) (acts : List ActV) (w : World) (h : ActsAt w (.slice a acts.length cap) acts) (hn : acts.length ≤ 9223372036854775807) :
    Calls Try.prog 5 #[.slice a acts.length cap] w fun e w' => e = .returned (.bool true) ∧ Below w.heap.size w w' := by
  have H := Lib.hid h
  clear h
  by_cases hg : 60 < acts.length
  · have HG := Lib.hid (decide_eq_true hg)
    clear hg
    go_enter Try.func5, Try.ntmps5
    go_wp2_with fail
    refine (great_any w a _ cap hn).mono ?_
    rintro e w' ⟨rfl, rfl⟩
    rw [HG.out]
    go_wp2_with fail
    refine (alive_any w w [] (St.start w)).mono ?_
    rintro e w' ⟨rfl, hs⟩
    go_wp2_with fail
    go_ret
    exact ⟨rfl, hs.below⟩
  have hn60 : acts.length ≤ 60 := by omega
  have HG := Lib.hid (decide_eq_false hg)
  clear hg
  generalize hf : actsF (fun _ => 0) acts = f at *
  have HF := Lib.hid hf
  clear hf
  go_enter Try.func5, Try.ntmps5
  go_wp2_with fail
  refine (great_any w a _ cap hn).mono ?_
  rintro e w' ⟨rfl, rfl⟩
  rw [HG.out]
  go_wp2_with fail
  refine (made_any w w [] (St.start w) a cap acts H.out hn60).mono ?_
  rintro e w1 ⟨c, rfl, h1⟩
  rw [HF.out] at h1
  have hz := zero36
  have h2 := (h1.allocRow (cellsF 128 fun _ => .bool false) 36)
  have h3 := (h2.allocRow (cellsF 128 fun _ => .bool false) 36)
  have e2 : (w1.alloc (.cells (cellsF 128 fun _ => .bool false) 36)).heap.size = w1.heap.size + 1 := by simp
  rw [e2] at h3
  clear h1 h2 e2
  have h4 : St w [bitsBlk w1.heap.size (gbit 8 f 0), bitsBlk (w1.heap.size + 1) (gbit 64 f 0), mapP c f] _ := h3.pick 3 [1, 0, 2]
  clear h3
  go_wp2_with fail
  generalize w1.heap.size = b1 at *
  go_loopw [6] (fun i wr => ∃ k : Nat, k ≤ 1024 ∧ i = .int .i64 k ∧ St w [bitsBlk b1 (gbit 8 f k), bitsBlk (b1 + 1) (gbit 64 f k), mapP c f] wr) (fun i _ => 1024 - (intOf i).toNat)
  case atStart => exact ⟨0, Nat.zero_le _, rfl, h4⟩
  case round =>
    clear h4
    obtain ⟨k, hk, rfl, hs1⟩ := hrel
    by_cases hlt : k < 1024
    · have hm := hs1.pick 3 [2]
      by_cases h0 : f k = 0
      · have b0 : (f k != 0) = false := by simp [h0]
        have E1 := Lib.hid (gbit_same (d := 8) h0)
        have E2 := Lib.hid (gbit_same (d := 64) h0)
        clear h0
        go_wp2_with fail
        refine (get_in w wr [] c f hm k hlt).mono ?_
        rintro e w' ⟨rfl, rfl⟩
        go_wp2_with fail
        go_roundw
        case rel => exact ⟨k + 1, hlt, by go_num, by rw [E1.out, E2.out]; exact hs1⟩
        case measure => simp [intOf]; omega
      · have b0 : (f k != 0) = true := by simp [h0]
        have E1 := Lib.hid (gbit_more (d := 8) h0)
        have E2 := Lib.hid (gbit_more (d := 64) h0)
        clear h0
        have s1 := hs1.set (k / 8) (.bool true)
        rw [cellsF_set _ _ (by omega)] at s1
        have s2 := s1.swap.set (k / 64) (.bool true)
        rw [cellsF_set _ _ (by omega)] at s2
        have z1 := hs1.frozen (k / 8)
        have y1 := hs1.cell (cellsF_get (fun q => Value.bool (gbit 8 f k q)) (show k / 8 < 128 by omega))
        have y2 := s1.swap.cell (cellsF_get (fun q => Value.bool (gbit 64 f k q)) (show k / 64 < 128 by omega))
        have z2 := s1.swap.frozen (k / 64)
        go_wp2_with fail
        refine (get_in w wr [] c f hm k hlt).mono ?_
        rintro e w' ⟨rfl, rfl⟩
        go_wp2_with fail
        go_roundw
        case rel =>
          refine ⟨k + 1, hlt, by go_num, ?_⟩
          rw [E1.out, E2.out]
          have e1 : (fun q => Value.bool (upd (gbit 8 f k) (k / 8) true q)) = upd (fun q => .bool (gbit 8 f k q)) (k / 8) (.bool true) := by funext q; unfold upd; split <;> rfl
          have e2 : (fun q => Value.bool (upd (gbit 64 f k) (k / 64) true q)) = upd (fun q => .bool (gbit 64 f k q)) (k / 64) (.bool true) := by funext q; unfold upd; split <;> rfl
          unfold bitsBlk
          rw [e1, e2]
          exact s2.swap
        case measure => simp [intOf]; omega
    · have e : k = 1024 := by omega
      subst e
      have l1 := cnt_leaves f
      have l2 := cnt_mids f
      have q1 : ∀ q, q < 128 → wr.cell? ⟨b1, q, none⟩ = some (.bool (gbit 8 f 1024 q)) := fun q hq => hs1.cell (cellsF_get _ hq)
      have q2 : ∀ q, q < 128 → wr.cell? ⟨b1 + 1, q, none⟩ = some (.bool (gbit 64 f 1024 q)) := fun q hq => hs1.swap.cell (cellsF_get _ hq)
      have hm := hs1.pick 3 [2]
      clear hs1
      generalize gbit 8 f 1024 = u1 at *
      generalize gbit 64 f 1024 = u2 at *
      have L1 := Lib.hid l1
      have L2 := Lib.hid l2
      have Q1 := Lib.hid q1
      have Q2 := Lib.hid q2
      clear l1 l2 q1 q2
      go_wp2_with fail
      go_loop [7, 8, 9] (fun m l i => ∃ k : Nat, k ≤ 128 ∧ i = .int .i64 k ∧ m = .int .i64 (cnt k u2) ∧ l = .int .i64 (cnt k u1)) (fun _ _ i => 128 - (intOf i).toNat)
      case atStart => exact ⟨0, by omega, rfl, rfl, rfl⟩
      case round =>
        obtain ⟨k, hk, rfl, rfl, rfl⟩ := hrel
        have m1 := cnt_le k u1
        have m2 := cnt_le k u2
        by_cases hlt : k < 128
        · have c1 := Q1.out k hlt
          have c2 := Q2.out k hlt
          cases hu1 : u1 k <;> cases hu2 : u2 k <;> rw [hu1] at c1 <;> rw [hu2] at c2
          · have E1 := Lib.hid (cnt_false hu1)
            have E2 := Lib.hid (cnt_false hu2)
            clear hu1 hu2
            go_wp2_with fail
            go_round
            case rel => exact ⟨k + 1, hlt, by go_num, by rw [E2.out]; first | done | go_num, by rw [E1.out]; first | done | go_num⟩
            case measure => simp [intOf]; omega
          · have E1 := Lib.hid (cnt_false hu1)
            have E2 := Lib.hid (cnt_true hu2)
            clear hu1 hu2
            go_wp2_with fail
            go_round
            case rel => exact ⟨k + 1, hlt, by go_num, by rw [E2.out]; first | done | go_num, by rw [E1.out]; first | done | go_num⟩
            case measure => simp [intOf]; omega
          · have E1 := Lib.hid (cnt_true hu1)
            have E2 := Lib.hid (cnt_false hu2)
            clear hu1 hu2
            go_wp2_with fail
            go_round
            case rel => exact ⟨k + 1, hlt, by go_num, by rw [E2.out]; first | done | go_num, by rw [E1.out]; first | done | go_num⟩
            case measure => simp [intOf]; omega
          · have E1 := Lib.hid (cnt_true hu1)
            have E2 := Lib.hid (cnt_true hu2)
            clear hu1 hu2
            go_wp2_with fail
            go_round
            case rel => exact ⟨k + 1, hlt, by go_num, by rw [E2.out]; first | done | go_num, by rw [E1.out]; first | done | go_num⟩
            case measure => simp [intOf]; omega
        · have e : k = 128 := by omega
          subst e
          rw [L1.out, L2.out]
          go_wp2_with fail
          refine (nodes_any w wr [] c f hm).mono ?_
          rintro e w' ⟨rfl, rfl⟩
          go_wp2_with fail
          refine (alive_any w _ _ hm).mono ?_
          rintro e w' ⟨rfl, hs⟩
          go_wp2_with fail
          go_ret
          exact ⟨rfl, hs.below⟩
end Go.Proofs.Ythknghkiogiajaa

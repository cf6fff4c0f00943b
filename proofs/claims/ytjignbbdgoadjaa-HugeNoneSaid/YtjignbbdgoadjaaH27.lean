/-
  The reference's Ordered.
-/
import Derived.Test.YtjignbbdgoadjaaH26
namespace Go.Proofs.Ytjignbbdgoadjaa
open Go.RowKit

theorem Reads.take1 {w : World} {b off n cap : Nat} {xs : List Value} (h : Reads w 1 (.slice (some ⟨b, off, none⟩) n cap) n xs) {k : Nat} (hk : k ≤ n) : Reads w 1 (.slice (some ⟨b, off, none⟩) k cap) k (xs.take k) := by
  have hl : xs.length = n := by simpa using h.1
  refine ⟨by rw [List.length_take]; omega, ?_⟩
  rcases h.2 with ⟨hv, _⟩ | ⟨b1, off1, sp1, cap1, hv, hn, hsp, hc⟩
  · cases hv
  · cases hv
    exact .inr ⟨b, off, none, cap, rfl, by omega, .inl rfl, fun i x hi => hc i x (by
      rw [List.getElem?_take] at hi
      split at hi
      · exact hi
      · cases hi)⟩
theorem Reads.drop1 {w : World} {b off n cap : Nat} {xs : List Value} (h : Reads w 1 (.slice (some ⟨b, off, none⟩) n cap) n xs) {k : Nat} (hk : k ≤ n) : Reads w 1 (.slice (some ⟨b, off + k, none⟩) (n - k) (cap - k)) (n - k) (xs.drop k) := by
  have hl : xs.length = n := by simpa using h.1
  refine ⟨by rw [List.length_drop]; omega, ?_⟩
  rcases h.2 with ⟨hv, _⟩ | ⟨b1, off1, sp1, cap1, hv, hn, hsp, hc⟩
  · cases hv
  · cases hv
    exact .inr ⟨b, off + k, none, cap - k, rfl, by omega, .inl rfl, fun i x hi => by
      rw [List.getElem?_drop] at hi
      rw [Nat.add_assoc]
      exact hc _ _ hi⟩
theorem Reads.zero (w : World) (a : Addr) {n cap : Nat} {xs : List Value} (hn : n = 0) (hx : xs = []) : Reads w 1 (.slice (some a) n cap) n xs := by
  subst hn hx
  exact ⟨rfl, .inr ⟨a.block, a.off, a.spot, cap, rfl, Nat.zero_le _, .inr rfl, fun i x h => by simp at h⟩⟩
def natCells (l : List Nat) : List Value := l.map fun (h : Nat) => Value.int .i64 (h : Int)
theorem natCells_one (l : List Nat) : ∀ u ∈ natCells l, u.oneCell' = true := by
  intro u hu
  unfold natCells at hu
  simp only [List.mem_map] at hu
  obtain ⟨p, _, rfl⟩ := hu
  rfl
theorem natCells_len (l : List Nat) : (natCells l).length = l.length := by simp [natCells]

set_option maxRecDepth 10000 in
set_option maxHeartbeats 8000000 in
theorem rOrdered_any (w0 w : World) (F : List HP) (c N : Nat) (s : Nat → Int) (hN : N ≤ 64) (hN0 : 0 < N) (hok : okSt N s) (hs : St w0 (trk 77 c (16 * N) s :: F) w) :
    Calls Try.prog 74 #[.pointer (some ⟨c, 0, none⟩)] w fun e w' => ∃ a cap, e = .returned (.slice a (ordL s N).length cap) ∧ St w0 (natsP (.slice a (ordL s N).length cap) (ordL s N) :: trk 77 c (16 * N) s :: F) w' := by
  rw [← ordN_all]
  obtain ⟨i0, hi, hz0, hz1, hz2⟩ := info_parts info3
  obtain ⟨b, off, cap, c0, hcap, _⟩ := TrAt.of (by omega) hs
  have HOK := Lib.hid hok
  clear hok
  go_enter Try.func74, Try.ntmps74
  go_wp2_with (first | (go_at_call 50; refine (rmade_true _ _ _ _ _ _ (by omega) c0).mono ?_; rintro e w' ⟨rfl, rfl⟩))
  clear c0 hcap
  go_loopw [3, 4] (fun v i' wr => ∃ (k : Nat) (l : List Nat) (a : Option Addr) (cap : Nat), k ≤ N ∧ i' = .int .i64 k ∧ Hid (ordN s k = l) ∧ v = .slice a l.length cap ∧ (l.length = 0 → a = none ∧ cap = 0) ∧ St w0 (natsP v l :: trk 77 c (16 * N) s :: F) wr) (fun _ i' _ => N - (intOf i').toNat)
  case atStart => exact ⟨0, [], none, 0, Nat.zero_le _, rfl, Lib.hid rfl, rfl, fun _ => ⟨rfl, rfl⟩, hs.arr_nil 3 1⟩
  case round =>
    obtain ⟨k, l, a, cap, hk, rfl, hl, rfl, hnil, hs1⟩ := hrel
    obtain ⟨b, off, tcap, ht⟩ := TrAt.of (by omega) (hs1.front 1)
    have c0 := ht.1
    by_cases hlt : k < N
    · have hll : l.length ≤ k := by have := ordN_len s k; rw [hl.out] at this; exact this
      have hstep : Hid (ordN s (k + 1) = if 0 < ofS s k 2 then l.takeWhile (fun g => bef s g k) ++ k :: l.dropWhile (fun g => bef s g k) else l) := Lib.hid (by show (if _ then _ else _) = _; rw [hl.out])
      have HK := Lib.hid (rof_any wr c b off tcap N s hN ht k hlt 2)
      have HM := Lib.hid fun x (hx : x ∈ l) => (ordN_mem (s := s) (k := k)).1 (by rw [hl.out]; exact hx)
      have HB := Lib.hid fun x (hx : x < N) (hb : 0 < ofS s x 2) (hbk : 0 < ofS s k 2) => rBefore_any wr c b off tcap N s hN HOK.out ht x k hx hlt (present_of HOK.out hx hb) (present_of HOK.out hlt hbk)
      have dk : decide ((k : Int) < (N : Int)) = true := decide_eq_true (by omega)
      clear ht
      by_cases hq : 0 < ofS s k 2
      · rw [if_pos hq] at hstep
        have HQ := Lib.hid hq
        have dq : ((ofS s k 2 : Nat) : Int) ≠ 0 := by omega
        have dq2 : (((ofS s k 2 : Nat) : Int) == 0) = false := by rw [beq_eq_false_iff_ne]; exact dq
        clear hq dq
        generalize ofS s k 2 = q at *
        go_wp2_with fail
        refine HK.out.mono ?_
        rintro e w' ⟨rfl, rfl⟩
        go_wp2_with fail
        by_cases hz : l.length = 0
        · have hl0 : l = [] := List.eq_nil_of_length_eq_zero hz
          obtain ⟨rfl, rfl⟩ := hnil hz
          subst hl0
          have g1 := hs1.arr_nil 3 1
          have r1 : Reads wr 1 (.slice none 0 0) 0 (natCells (([] : List Nat).take 0)) := Reads.nil wr 1
          go_loop [5] (fun a' => a' = .int .i64 0) (fun a' => 0)
          case atStart => rfl
          case round =>
            obtain rfl := hrel
            have hN2 := Lib.hid (show ordN s (k + 1) = ([] : List Nat).take 0 ++ k :: ([] : List Nat).drop 0 by
              rw [hstep.out]
              have hw := take_while_is (p := fun g => bef s g k) (l := ([] : List Nat)) (k := 0) (Nat.le_refl 0) (fun i x h => by omega) (fun y hy => by simp at hy)
              rw [hw.1, hw.2])
            go_wp2_with (first
              | (at_builtin; refine wpList_append_st rfl _ _ 33 rfl 3 i0 _ 1 8 Try.underlying33 hi hz0 hz1 hz2 rfl (.slice none 0 0) _ rfl rfl 0 [] (by exact g1) 0 (natCells (([] : List Nat).take 0)) (by exact r1) (natCells_one _) (by unfold maxLen; omega) (by omega) ?_; intro v5 w5 g2 e5; clear e5; rw [List.nil_append, Nat.zero_add] at g2; obtain ⟨a5, p5, rfl⟩ := (HP.arr_reads g2).form; have g3 := (g2.newArr 3 1 1 [.int .i64 k] rfl (by decide)); have r3 := HP.arr_reads g3; have g4 := g3.swap)
              | (at_builtin; refine wpList_append_st rfl _ _ 33 rfl 3 i0 _ 1 8 Try.underlying33 hi hz0 hz1 hz2 rfl (.slice a5 0 p5) _ rfl rfl 0 (natCells (([] : List Nat).take 0)) (by exact g4) 1 [.int .i64 k] (by exact r3) (natCells_one [k]) (by unfold maxLen; omega) (by omega) ?_; intro v6 w6 g5 e6; clear e6; obtain ⟨a6, p6, rfl⟩ := (HP.arr_reads g5).form; have r5 := (Reads.nil w6 1))
              | (at_builtin; refine wpList_append_st rfl _ _ 33 rfl 3 i0 _ 1 8 Try.underlying33 hi hz0 hz1 hz2 rfl (.slice a6 (0 + 1) p6) _ rfl rfl (0 + 1) (natCells (([] : List Nat).take 0) ++ [.int .i64 k]) (by exact g5) (0) (natCells (([] : List Nat).drop 0)) (by first | exact r5 | exact Reads.zero _ _ (by omega) (by rw [List.drop_of_length_le (by omega)]; rfl)) (natCells_one _) (by unfold maxLen; omega) (by omega) ?_; intro v7 w7 g6 e7; clear e7; obtain ⟨a7, p7, rfl⟩ := (HP.arr_reads g6).form))
            go_roundw
            case rel =>
              have eN := hN2.out
              have hlen : (([] : List Nat).take 0 ++ k :: ([] : List Nat).drop 0).length = 0 + 1 + (0) := by first | (simp; done) | (simp; omega)
              refine ⟨k + 1, ([] : List Nat).take 0 ++ k :: ([] : List Nat).drop 0, a7, p7, hlt, by go_num, Lib.hid eN, by rw [hlen], fun h => by rw [hlen] at h; omega, ?_⟩
              have g7 := g6.pick 4 [0, 3]
              have ec : natCells (([] : List Nat).take 0) ++ [.int .i64 k] ++ natCells (([] : List Nat).drop 0) = (([] : List Nat).take 0 ++ k :: ([] : List Nat).drop 0).map fun (h : Nat) => Value.int .i64 (h : Int) := by
                simp [natCells]
              unfold natsP
              rw [hlen, ← ec]
              exact g7
            case measure => simp [intOf]; omega
        · obtain ⟨ob, ooff, ha, hcp⟩ : ∃ ob ooff, a = some ⟨ob, ooff, none⟩ ∧ l.length ≤ cap := by
            rcases HP.arr_form hs1 with ⟨_, h0⟩ | ⟨b1, o1, c1, hv, hc⟩
            · omega
            · injection hv with e1 e2 e3
              exact ⟨b1, o1, e1, by omega⟩
          subst ha
          have hr0 := HP.arr_reads hs1
          have g1 := hs1.arr_nil 3 1
          clear hnil
          go_loop [5] (fun a' => ∃ j : Nat, j ≤ l.length ∧ a' = .int .i64 j ∧ Hid (∀ i x, i < j → l[i]? = some x → bef s x k = true)) (fun a' => l.length + 1 - (intOf a').toNat)
          case atStart => exact ⟨0, Nat.zero_le _, rfl, Lib.hid fun i x h => by omega⟩
          case round =>
            obtain ⟨j, hj, rfl, hall⟩ := hrel
            have ij0 : (0 : Int) ≤ (j : Int) := by omega
            have ij1 : (j : Int) ≤ (l.length : Int) := by omega
            have ij2 : (l.length : Int) ≤ (cap : Int) := by omega
            have ij3 : (j : Int) ≤ (cap : Int) := by omega
            have r1 := hr0.take1 hj
            rw [← List.map_take] at r1
            by_cases hjl : j < l.length
            · obtain ⟨x, hx⟩ : ∃ x, l[j]? = some x := ⟨l[j], List.getElem?_eq_getElem hjl⟩
              have hxm := HM.out x (List.mem_of_getElem? hx)
              have HBx := HB.out x (by omega) hxm.2 HQ.out
              have HBX := Lib.hid HBx
              have cx := HP.arr_cell hs1 (p := j) (x := .int .i64 (x : Int)) (by rw [List.getElem?_map, hx]; rfl)
              have dj : decide ((j : Int) < (l.length : Int)) = true := decide_eq_true (by omega)
              have HX := Lib.hid hx
              clear HBx hx
              cases hb : bef s x k with
              | true =>
                rw [hb] at HBX
                have HBT := Lib.hid hb
                clear hb
                go_wp2_with fail
                refine HBX.out.mono ?_
                rintro e w' ⟨rfl, rfl⟩
                go_wp2_with fail
                go_round
                case rel =>
                  refine ⟨j + 1, hjl, by go_num, Lib.hid fun i y hi hy => ?_⟩
                  by_cases e : i = j
                  · subst e
                    rw [HX.out] at hy
                    obtain rfl := Option.some.inj hy
                    exact HBT.out
                  · exact hall.out i y (by omega) hy
                case measure => simp [intOf]; omega
              | false =>
                rw [hb] at HBX
                have HBT := Lib.hid hb
                clear hb
                have hN2 := Lib.hid (show ordN s (k + 1) = l.take j ++ k :: l.drop j by
                  rw [hstep.out]
                  have hw := take_while_is (p := fun g => bef s g k) (l := l) (k := j) hj (fun i x h1 h2 => hall.out i x h1 h2) (fun y hy => by rw [HX.out] at hy; obtain rfl := Option.some.inj hy; exact HBT.out)
                  rw [hw.1, hw.2])
                go_wp2_with fail
                refine HBX.out.mono ?_
                rintro e w' ⟨rfl, rfl⟩
                go_wp2_with (first
                  | (at_builtin; refine wpList_append_st rfl _ _ 33 rfl 3 i0 _ 1 8 Try.underlying33 hi hz0 hz1 hz2 rfl (.slice none 0 0) _ rfl rfl 0 [] (by exact g1) j (natCells (l.take j)) (by exact r1) (natCells_one _) (by unfold maxLen; omega) (by omega) ?_; intro v5 w5 g2 e5; clear e5; rw [List.nil_append, Nat.zero_add] at g2; obtain ⟨a5, p5, rfl⟩ := (HP.arr_reads g2).form; have g3 := (g2.newArr 3 1 1 [.int .i64 k] rfl (by decide)); have r3 := HP.arr_reads g3; have g4 := g3.swap)
                  | (at_builtin; refine wpList_append_st rfl _ _ 33 rfl 3 i0 _ 1 8 Try.underlying33 hi hz0 hz1 hz2 rfl (.slice a5 j p5) _ rfl rfl j (natCells (l.take j)) (by exact g4) 1 [.int .i64 k] (by exact r3) (natCells_one [k]) (by unfold maxLen; omega) (by omega) ?_; intro v6 w6 g5 e6; clear e6; obtain ⟨a6, p6, rfl⟩ := (HP.arr_reads g5).form; have r5 := (by have q5 := (HP.arr_reads (g5.front 2)).drop1 hj; rw [← List.map_drop] at q5; exact q5))
                  | (at_builtin; refine wpList_append_st rfl _ _ 33 rfl 3 i0 _ 1 8 Try.underlying33 hi hz0 hz1 hz2 rfl (.slice a6 (j + 1) p6) _ rfl rfl (j + 1) (natCells (l.take j) ++ [.int .i64 k]) (by exact g5) (l.length - j) (natCells (l.drop j)) (by first | exact r5 | exact Reads.zero _ _ (by omega) (by rw [List.drop_of_length_le (by omega)]; rfl)) (natCells_one _) (by unfold maxLen; omega) (by omega) ?_; intro v7 w7 g6 e7; clear e7; obtain ⟨a7, p7, rfl⟩ := (HP.arr_reads g6).form))
                go_roundw
                case rel =>
                  have eN := hN2.out
                  have hlen : (l.take j ++ k :: l.drop j).length = j + 1 + (l.length - j) := by first | (simp; done) | (simp; omega)
                  refine ⟨k + 1, l.take j ++ k :: l.drop j, a7, p7, hlt, by go_num, Lib.hid eN, by rw [hlen], fun h => by rw [hlen] at h; omega, ?_⟩
                  have g7 := g6.pick 4 [0, 3]
                  have ec : natCells (l.take j) ++ [.int .i64 k] ++ natCells (l.drop j) = (l.take j ++ k :: l.drop j).map fun (h : Nat) => Value.int .i64 (h : Int) := by
                    simp [natCells]
                  unfold natsP
                  rw [hlen, ← ec]
                  exact g7
                case measure => simp [intOf]; omega
            · have dj : decide ((j : Int) < (l.length : Int)) = false := decide_eq_false (by omega)
              rcases Nat.lt_or_ge j cap with hjc | hjc
              · have ijc : (j : Int) < (cap : Int) := by omega
                have hN2 := Lib.hid (show ordN s (k + 1) = l.take j ++ k :: l.drop j by
                  rw [hstep.out]
                  have hw := take_while_is (p := fun g => bef s g k) (l := l) (k := j) hj (fun i x h1 h2 => hall.out i x h1 h2) (fun y hy => by have := (List.getElem?_eq_some_iff.1 hy).1; omega)
                  rw [hw.1, hw.2])
                go_wp2_with (first
                  | (at_builtin; refine wpList_append_st rfl _ _ 33 rfl 3 i0 _ 1 8 Try.underlying33 hi hz0 hz1 hz2 rfl (.slice none 0 0) _ rfl rfl 0 [] (by exact g1) j (natCells (l.take j)) (by exact r1) (natCells_one _) (by unfold maxLen; omega) (by omega) ?_; intro v5 w5 g2 e5; clear e5; rw [List.nil_append, Nat.zero_add] at g2; obtain ⟨a5, p5, rfl⟩ := (HP.arr_reads g2).form; have g3 := (g2.newArr 3 1 1 [.int .i64 k] rfl (by decide)); have r3 := HP.arr_reads g3; have g4 := g3.swap)
                  | (at_builtin; refine wpList_append_st rfl _ _ 33 rfl 3 i0 _ 1 8 Try.underlying33 hi hz0 hz1 hz2 rfl (.slice a5 j p5) _ rfl rfl j (natCells (l.take j)) (by exact g4) 1 [.int .i64 k] (by exact r3) (natCells_one [k]) (by unfold maxLen; omega) (by omega) ?_; intro v6 w6 g5 e6; clear e6; obtain ⟨a6, p6, rfl⟩ := (HP.arr_reads g5).form; have r5 := (by have q5 := (HP.arr_reads (g5.front 2)).drop1 hj; rw [← List.map_drop] at q5; exact q5))
                  | (at_builtin; refine wpList_append_st rfl _ _ 33 rfl 3 i0 _ 1 8 Try.underlying33 hi hz0 hz1 hz2 rfl (.slice a6 (j + 1) p6) _ rfl rfl (j + 1) (natCells (l.take j) ++ [.int .i64 k]) (by exact g5) (l.length - j) (natCells (l.drop j)) (by first | exact r5 | exact Reads.zero _ _ (by omega) (by rw [List.drop_of_length_le (by omega)]; rfl)) (natCells_one _) (by unfold maxLen; omega) (by omega) ?_; intro v7 w7 g6 e7; clear e7; obtain ⟨a7, p7, rfl⟩ := (HP.arr_reads g6).form))
                go_roundw
                case rel =>
                  have eN := hN2.out
                  have hlen : (l.take j ++ k :: l.drop j).length = j + 1 + (l.length - j) := by first | (simp; done) | (simp; omega)
                  refine ⟨k + 1, l.take j ++ k :: l.drop j, a7, p7, hlt, by go_num, Lib.hid eN, by rw [hlen], fun h => by rw [hlen] at h; omega, ?_⟩
                  have g7 := g6.pick 4 [0, 3]
                  have ec : natCells (l.take j) ++ [.int .i64 k] ++ natCells (l.drop j) = (l.take j ++ k :: l.drop j).map fun (h : Nat) => Value.int .i64 (h : Int) := by
                    simp [natCells]
                  unfold natsP
                  rw [hlen, ← ec]
                  exact g7
                case measure => simp [intOf]; omega
              · obtain rfl : cap = j := by omega
                have HD := Lib.hid (show l.drop cap = [] from List.drop_of_length_le (by omega))
                have hN2 := Lib.hid (show ordN s (k + 1) = l.take cap ++ k :: l.drop cap by
                  rw [hstep.out]
                  have hw := take_while_is (p := fun g => bef s g k) (l := l) (k := cap) hj (fun i x h1 h2 => hall.out i x h1 h2) (fun y hy => by have := (List.getElem?_eq_some_iff.1 hy).1; omega)
                  rw [hw.1, hw.2])
                go_wp2_with (first
                  | (at_builtin; refine wpList_append_st rfl _ _ 33 rfl 3 i0 _ 1 8 Try.underlying33 hi hz0 hz1 hz2 rfl (.slice none 0 0) _ rfl rfl 0 [] (by exact g1) cap (natCells (l.take cap)) (by exact r1) (natCells_one _) (by unfold maxLen; omega) (by omega) ?_; intro v5 w5 g2 e5; clear e5; rw [List.nil_append, Nat.zero_add] at g2; obtain ⟨a5, p5, rfl⟩ := (HP.arr_reads g2).form; have g3 := (g2.newArr 3 1 1 [.int .i64 k] rfl (by decide)); have r3 := HP.arr_reads g3; have g4 := g3.swap)
                  | (at_builtin; refine wpList_append_st rfl _ _ 33 rfl 3 i0 _ 1 8 Try.underlying33 hi hz0 hz1 hz2 rfl (.slice a5 cap p5) _ rfl rfl cap (natCells (l.take cap)) (by exact g4) 1 [.int .i64 k] (by exact r3) (natCells_one [k]) (by unfold maxLen; omega) (by omega) ?_; intro v6 w6 g5 e6; clear e6; obtain ⟨a6, p6, rfl⟩ := (HP.arr_reads g5).form; have r5 := (by have q5 := (HP.arr_reads (g5.front 2)).drop1 hj; rw [← List.map_drop] at q5; exact q5))
                  | (at_builtin; refine wpList_append_st rfl _ _ 33 rfl 3 i0 _ 1 8 Try.underlying33 hi hz0 hz1 hz2 rfl (.slice a6 (cap + 1) p6) _ rfl rfl (cap + 1) (natCells (l.take cap) ++ [.int .i64 k]) (by exact g5) 0 [] (Reads.zero _ _ rfl rfl) (fun u hu => by cases hu) (by unfold maxLen; omega) (by omega) ?_; intro v7 w7 g6 e7; clear e7; obtain ⟨a7, p7, rfl⟩ := (HP.arr_reads g6).form))
                go_roundw
                case rel =>
                  have eN := hN2.out
                  have hlen : (l.take cap ++ k :: l.drop cap).length = cap + 1 + 0 := by rw [HD.out]; simp; omega
                  refine ⟨k + 1, l.take cap ++ k :: l.drop cap, a7, p7, hlt, by go_num, Lib.hid eN, by rw [hlen], fun h => by rw [hlen] at h; omega, ?_⟩
                  have g7 := g6.pick 4 [0, 3]
                  have ec : natCells (l.take cap) ++ [.int .i64 k] ++ [] = (l.take cap ++ k :: l.drop cap).map fun (h : Nat) => Value.int .i64 (h : Int) := by
                    simp [natCells, HD.out]
                  unfold natsP
                  rw [hlen, ← ec]
                  exact g7
                case measure => simp [intOf]; omega
      · rw [if_neg hq] at hstep
        have dq : (((ofS s k 2 : Nat) : Int) == 0) = true := by rw [beq_iff_eq]; omega
        clear hq
        go_wp2_with fail
        refine HK.out.mono ?_
        rintro e w' ⟨rfl, rfl⟩
        go_wp2_with fail
        go_roundw
        case rel => exact ⟨k + 1, l, a, cap, hlt, by go_num, hstep, rfl, hnil, hs1⟩
        case measure => simp [intOf]; omega
    · have dk : decide ((k : Int) < (N : Int)) = false := decide_eq_false (by omega)
      have e : Hid (ordN s N = l) := Lib.hid (by rw [show N = k by omega]; exact hl.out)
      clear ht hnil
      go_wp2_with fail
      go_ret
      have e := e.out
      exact ⟨a, cap, by rw [e]; rfl, by rw [e]; exact hs1⟩
end Go.Proofs.Ytjignbbdgoadjaa

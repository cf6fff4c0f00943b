/-
  The statement PagemapNext: its walk.
-/
import Derived.Test.YthknghkiogiajaaP12
namespace Go.Proofs.Ythknghkiogiajaa
open Go.RowKit

set_option maxRecDepth 10000 in
set_option maxHeartbeats 4000000 in
theorem next_walk (a : Option Addr) (cap : Nat) (acts : List ActV) (w : World) (h : ActsAt w (.slice a acts.length cap) acts) (hn : acts.length ≤ 9223372036854775807) :
    Calls Try.prog 4 #[.slice a acts.length cap] w fun e w' => e = .returned (.bool true) ∧ Below w.heap.size w w' := by
  have H := Lib.hid h
  clear h
  by_cases hg : 60 < acts.length
  · have HG := Lib.hid (decide_eq_true hg)
    clear hg
    go_enter Try.func4, Try.ntmps4
    go_wp2_with fail
    refine (great_any w a _ cap hn).mono ?_
    rintro e w' ⟨rfl, rfl⟩
    rw [HG.out]
    go_wp2_with fail
    refine (alive_any w w [] (St.start w)).mono ?_
    rintro e w' ⟨rfl, hs⟩
    go_wp2_with fail
    go_ret
    exact ⟨rfl, hs.below⟩
  have hn60 : acts.length ≤ 60 := by omega
  have HG := Lib.hid (decide_eq_false hg)
  clear hg
  have hok := fOk_acts acts fOk_zero
  generalize hf : actsF (fun _ => 0) acts = f at *
  have HF := Lib.hid hf
  have HOK := Lib.hid hok
  clear hf hok
  go_enter Try.func4, Try.ntmps4
  go_wp2_with fail
  refine (great_any w a _ cap hn).mono ?_
  rintro e w' ⟨rfl, rfl⟩
  rw [HG.out]
  go_wp2_with fail
  refine (made_any w w [] (St.start w) a cap acts H.out hn60).mono ?_
  rintro e w1 ⟨c, rfl, h1⟩
  rw [HF.out] at h1
  go_wp2_with fail
  go_loop [4, 5] (fun at' i => ∃ (k : Nat) (av : Int), k ≤ 1024 ∧ i = .int .i64 k ∧ at' = .int .i64 av ∧ -5 ≤ av ∧ av ≤ k ∧ Hid (∀ r : Nat, r < k → av ≤ r → f r = 0)) (fun _ i => 1024 - (intOf i).toNat)
  case atStart => exact ⟨0, -5, by omega, rfl, rfl, by omega, by omega, Lib.hid fun r h => by omega⟩
  case round =>
    obtain ⟨k, av, hk, rfl, rfl, ha1, ha2, hz⟩ := hrel
    by_cases hlt : k < 1024
    · by_cases h0 : f k = 0
      · have b0 : (f k == 0) = true := by simp [h0]
        have H0 := Lib.hid h0
        clear h0
        go_wp2_with fail
        refine (get_in w w1 [] c f h1 k hlt).mono ?_
        rintro e w' ⟨rfl, rfl⟩
        go_wp2_with fail
        go_round
        case rel =>
          refine ⟨k + 1, av, hlt, by go_num, rfl, ha1, by omega, Lib.hid fun r h2 h3 => ?_⟩
          by_cases e : r = k
          · rw [e]; exact H0.out
          · exact hz.out r (by omega) h3
        case measure => simp [intOf]; omega
      · have b0 : (f k == 0) = false := by simp [h0]
        have hnx : isNext f av (.tuple #[.int .i64 k, .int .i64 (f k), .int .i64 0]) := .inl ⟨k, hlt, ha2, h0, hz.out, rfl⟩
        have HX := Lib.hid hnx
        have t1 : ((k : Int) != (k : Int)) = false := by simp
        have t2 : (f k != f k) = false := by simp
        clear h0 hnx
        go_wp2_with fail
        refine (get_in w w1 [] c f h1 k hlt).mono ?_
        rintro e w' ⟨rfl, rfl⟩
        go_wp2_with fail
        refine (next_any w w1 [] c f HOK.out h1 av).mono ?_
        rintro e w' ⟨v, rfl, hv, rfl⟩
        obtain rfl := isNext_one hv HX.out
        clear hv
        go_wp2_with fail
        refine (get_in w w1 [] c f h1 k hlt).mono ?_
        rintro e w' ⟨rfl, rfl⟩
        go_wp2_with fail
        go_round
        case rel => exact ⟨k + 1, (k : Int) + 1, hlt, by go_num, rfl, by omega, by omega, Lib.hid fun r h2 h3 => by omega⟩
        case measure => simp [intOf]; omega
    · have e : k = 1024 := by omega
      subst e
      have hnx : isNext f av (.tuple #[.int .i64 0, .int .i64 0, .int .i64 4]) := .inr ⟨hz.out, rfl⟩
      have HX := Lib.hid hnx
      clear hnx
      go_wp2_with fail
      refine (next_any w w1 [] c f HOK.out h1 av).mono ?_
      rintro e w' ⟨v, rfl, hv, rfl⟩
      obtain rfl := isNext_one hv HX.out
      clear hv
      go_wp2_with fail
      refine (alive_any w w1 _ h1).mono ?_
      rintro e w' ⟨rfl, hs⟩
      go_wp2_with fail
      go_ret
      exact ⟨rfl, hs.below⟩
end Go.Proofs.Ythknghkiogiajaa

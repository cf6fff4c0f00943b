/-
  A slice in a block of its own, cut and stored to; the batches of the law TransferStack.
-/
import Derived.Test.YthlmjdkpkikcpaaT16
namespace Go.Proofs.Ythlmjdkpkikcpaa
open Go.RowKit

variable {w0 w : World} {F : List HP} {t : TypeId} {sz n : Nat} {v : Value} {xs : List Value}

/-- 'v[k:]' -/
theorem HP.arr_from {b off off' n k cap cap' : Nat} {xs : List Value} (hk : k ≤ n) (hp : (off' = off + k ∧ cap' = cap - k) ∨ (off' = off ∧ cap' = 0 ∧ cap = k)) (m : HL) :
    (HP.arr t 1 (.slice (some ⟨b, off, none⟩) n cap) n xs).sat m → (HP.arr t 1 (.slice (some ⟨b, off', none⟩) (n - k) cap') (n - k) (xs.drop k)).sat m := by
  rintro ⟨hl, ⟨hv, _⟩ | ⟨b1, off1, cap1, c, hv, hn, hm, hs, hx, hc⟩⟩
  · cases hv
  · cases hv
    refine ⟨by rw [List.length_drop]; omega, .inr ⟨b, off', cap', c, rfl, ?_, ?_, ?_, fun i x hi => ?_, hc⟩⟩
    · rcases hp with ⟨_, h⟩ | ⟨_, h, h2⟩ <;> omega
    · rcases hp with ⟨_, h⟩ | ⟨_, h, h2⟩ <;> omega
    · rcases hp with ⟨h, h'⟩ | ⟨h, h', h2⟩ <;> omega
    · rw [List.getElem?_drop] at hi
      rcases hp with ⟨h, _⟩ | ⟨h, h', h2⟩
      · rw [h, Nat.add_assoc]; exact hx _ _ hi
      · rw [List.getElem?_eq_none (by omega)] at hi; cases hi

/-- the block that it lies in -/
theorem HP.arr_blk (h : St w0 (HP.arr t 1 v n xs :: F) w) (hn : 0 < n) :
    ∃ b off cap c, v = .slice (some ⟨b, off, none⟩) n cap ∧ off + n ≤ c.size ∧ St w0 (HP.blk b c t :: F) w := by
  obtain ⟨hb, m, ⟨m1, m2, ap, e, ⟨hl, ⟨hv, h0, _⟩ | ⟨b, off, cap, c, hv, hc, hm, hs, hx, hme⟩⟩, h2⟩, hh⟩ := h
  · omega
  · exact ⟨b, off, cap, c, hv, by omega, hb, m, ⟨m1, m2, ap, e, hme, h2⟩, hh⟩

/-- the numbers of a batch -/
def batchL (f : Int) (n : Nat) : List Int := (List.range n).map fun (i : Nat) => f + (i : Int)
theorem batchL_length (f : Int) (n : Nat) : (batchL f n).length = n := by simp [batchL]
theorem batchL_succ (f : Int) (n : Nat) : batchL f (n + 1) = batchL f n ++ [f + n] := by simp [batchL, List.range_succ]

set_option maxHeartbeats 1000000 in
theorem batch_any (w0 w : World) (F : List HP) (many f : Int) (n : Nat) (hm : many = n) (hn : n ≤ 32) (h0 : 0 ≤ f) (h1 : f ≤ 100000) (hs : St w0 F w) :
    Calls Try.prog 11 #[.int .i64 many, .int .i64 f] w fun e w' => ∃ a cap, e = .returned (.slice a n cap) ∧ St w0 (ints (.slice a n cap) (batchL f n) :: F) w' := by
  subst hm
  obtain ⟨i0, hi, hz0, hz1, hz2⟩ := info_parts info3
  go_enter Try.func11, Try.ntmps11
  go_wp2_with fail
  go_loopw [5, 6] (fun v i wr => ∃ (k : Nat) (xs : List Int) (a : Option Addr) (cap : Nat), k ≤ n ∧ i = .int .i64 k ∧ Hid (xs = batchL f k) ∧ v = .slice a xs.length cap ∧ St w0 (ints v xs :: F) wr) (fun _ i _ => n - (intOf i).toNat)
  case atStart => exact ⟨0, [], none, 0, Nat.zero_le _, rfl, Lib.hid rfl, rfl, hs.arr_nil 3 1⟩
  case round =>
    obtain ⟨k, xs, a, cap, hk, rfl, hxs, rfl, hs1⟩ := hrel
    have hxl := congrArg List.length hxs.out
    rw [batchL_length] at hxl
    have HXL := Lib.hid hxl
    have hx32 : xs.length ≤ 32 := by omega
    clear hxl
    by_cases hlt : k < n
    · have hs2 := hs1.oneArr 3 (.int .i64 (f + k))
      go_wp2_with (at_builtin; refine wpList_append_st rfl _ _ 27 rfl 3 i0 _ 1 8 Try.underlying27 hi hz0 hz1 hz2 rfl _ _ rfl rfl xs.length (xs.map (Value.int .i64)) (hs2.front 1) 1 [.int .i64 (f + k)] (HP.arr_reads hs2) (by intro u hu; simp at hu; subst hu; rfl) (by unfold maxLen; omega) (by omega) ?_; intro v3 w3 hs3 hv3; clear hv3; obtain ⟨a3, p3, rfl⟩ := (HP.arr_reads hs3).form)
      go_roundw
      case rel =>
        refine ⟨k + 1, xs ++ [f + k], a3, p3, hlt, by go_num, Lib.hid ?_, ?_, ?_⟩
        · rw [hxs.out, batchL_succ]
        · rw [List.length_append]; rfl
        · unfold ints
          rw [List.length_append, List.map_append]
          exact hs3.pick 2 [0]
      case measure => simp [intOf]; omega
    · have hkn : k = n := by omega
      subst hkn
      go_wp2_with fail
      go_ret
      have e := hxs.out
      subst e
      rw [batchL_length] at hs1 ⊢
      exact ⟨_, _, rfl, hs1⟩

theorem rowsC_append : ∀ (vs us : List Value) (xs ys : List (List Int)), vs.length = xs.length → rowsC (vs ++ us) (xs ++ ys) = rowsC vs xs * rowsC us ys
  | [], us, [], ys, _ => by simp only [List.nil_append, rowsC]; rw [HP.emp_sep]
  | v0 :: vs, us, x0 :: xs, ys, h => by
    simp only [List.cons_append, rowsC]
    rw [rowsC_append vs us xs ys (by simpa using h), HP.sep_assoc]
theorem Reads.take {w : World} {a : Addr} {n k cap : Nat} {xs : List Value} (h : Reads w 1 (.slice (some a) n cap) n xs) (hk : k ≤ n) : Reads w 1 (.slice (some a) k cap) k (xs.take k) := by
  have hl : xs.length = n := by simpa using h.1
  rcases h.2 with ⟨h, _⟩ | ⟨b1, off1, sp1, cap1, hv, hn, hs, hc⟩
  · cases h
  · cases hv
    refine ⟨by rw [List.length_take]; omega, .inr ⟨b1, off1, sp1, cap, rfl, by omega, ?_, fun i x hi => ?_⟩⟩
    · rcases hs with h | h
      · exact .inl h
      · exact .inr (by omega)
    · refine hc _ _ ?_
      have hlt := (List.getElem?_eq_some_iff.1 hi).1
      rw [List.length_take] at hlt
      rwa [List.getElem?_take_of_lt (by omega)] at hi
theorem rowsAt_take {w : World} {a : Addr} {n k cap : Nat} {vs : List Value} {bs : List (List Int)} (h : RowsAt w (.slice (some a) n cap) n vs bs) (hk : k ≤ n) : RowsAt w (.slice (some a) k cap) k (vs.take k) (bs.take k) := by
  obtain ⟨h1, h2, h3⟩ := h
  refine ⟨h1.take hk, by rw [List.length_take]; omega, fun i b hb => ?_⟩
  have hlt := (List.getElem?_eq_some_iff.1 hb).1
  rw [List.length_take] at hlt
  rw [List.getElem?_take_of_lt (by omega)] at hb ⊢
  exact h3 i b hb
/-- held, from behind the first k -/
theorem rows_from {w0 w : World} {F : List HP} {b off off' k cap cap' : Nat} {vs : List Value} {bs : List (List Int)} (hvl : vs.length = bs.length) (hk : k ≤ bs.length) (hp : (off' = off + k ∧ cap' = cap - k) ∨ (off' = off ∧ cap' = 0 ∧ cap = k))
    (h : St w0 (HP.arr 27 1 (.slice (some ⟨b, off, none⟩) bs.length cap) bs.length vs :: rowsC vs bs :: F) w) : St w0 (rows (.slice (some ⟨b, off', none⟩) (bs.length - k) cap') (bs.drop k) :: F) w := by
  have h1 := (h.mono (HP.arr_from hk hp)).swap
  rw [rowsC_split k vs bs hvl] at h1
  have h2 := ((St.two.1 h1).drop).swap
  have h3 : St w0 (HP.arr 27 1 (.slice (some ⟨b, off', none⟩) (bs.length - k) cap') (bs.drop k).length (vs.drop k) :: rowsC (vs.drop k) (bs.drop k) :: F) w := by rw [List.length_drop]; exact h2
  exact rows_shut h3
end Go.Proofs.Ythlmjdkpkikcpaa

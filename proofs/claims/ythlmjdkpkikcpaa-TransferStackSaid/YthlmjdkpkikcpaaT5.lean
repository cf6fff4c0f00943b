/-
  Objects and Clone of a cache of package transfer.
-/
import Derived.Test.YthlmjdkpkikcpaaT4
namespace Go.Proofs.Ythlmjdkpkikcpaa
open Go.RowKit

theorem wpList_append_make {P : Program} {w0 w : World} {F : List HP} {ops : Array Oper} {rest : List Oper} {o : Oper} {a : Act} {Q : Exit → Act → World → Prop} (hgd : o.guard = none) (s x : Operand) (tt ti : TypeId)
    (ho : o.op = .call { callee := .builtin .append, args := #[s, x], argTypes := #[tt, ti] })
    (e : TypeId) (i : TypeInfo) (z : Value) (bytes : Nat) (ht : P.underlying tt = some (.slice e)) (hti : P.underlying ti = some (.int .i64)) (hi : P.info? e = some i) (hz : i.zero = some z)
    (hsize : i.size = 1) (hby : i.bytes = bytes) (hzs : z.cells.size = 1) (n : Nat) (h0 : 0 < n)
    (hs : a.eval s = .slice none 0 0) (hy : a.eval x = .int .i64 n) (h : St w0 F w)
    (h63 : n ≤ maxLen) (hbytes : n * bytes ≤ 140737488355328)
    (hK : ∀ b cap xs w', n ≤ cap → St w0 (HP.arr e 1 (.slice (some ⟨b, 0, none⟩) n cap) n xs :: F) w' → wpList P ops Q rest (a.put o.dst (.slice (some ⟨b, 0, none⟩) n cap)) w') : wpList P ops Q (o :: rest) a w := by
  refine wpList_plain hgd fun _ hK' => ?_
  subst hby
  have hm : maxLen = 9223372036854775807 := by decide
  have hge := grownCap_ge w n 0 e
  have hcm : grownCap w n 0 e ≤ maxLen := grownCap_le_maxLen w n 0 e h63
  have hfit := growslice_fits (bytes := i.bytes) h0 hbytes
  have hrun : (Builtin.append_ #[tt, ti] o.type #[.slice none 0 0, .int .i64 n]).run P w =
      .ok (.slice (some ⟨w.heap.size, 0, none⟩) n (grownCap w n 0 e)) (w.drew.alloc (.cells (Builtin.zeroCells z.cells n ++ Builtin.zeroCells z.cells (grownCap w n 0 e - n)) e)) := by
    have hn : n ≠ 0 := by omega
    have hw : IntKind.i64.wrap (n : Int) = n := IntWalk.i64_in _ (by omega)
    have hneg : ¬ ((n : Int) < 0) := by omega
    have hb48 : ¬ (281474976710656 < (n : Int) * (i.bytes : Int)) := by
      have : (n : Int) * (i.bytes : Int) = ((n * i.bytes : Nat) : Int) := by simp
      omega
    have h63' : ¬ (9223372036854775807 < (n : Int)) := by omega
    have h48' : ¬ (281474976710656 < Builtin.nextslicecap n 0 * i.bytes) := by omega
    simp [Builtin.append_, run_underlying ht, run_underlying hti, sizeOf, typeInfo, zeroValue, hi, hz, hsize, hn, hw, hneg, hb48, h63', h48', Question.forced, newRow, grownCap, run_firstCells_none, asInt, asIntOf]
  unfold Oper.wp execOp
  simp only [ho, resolve, invoke, builtin, Sem.run_bind, Sem.run_pure, Result.andThen_ok, List.map_toArray, List.map_cons, List.map_nil, hs, hy, hrun]
  refine hK' _ _ (hK w.heap.size (grownCap w n 0 e) (Builtin.zeroCells z.cells n).toList _ hge ?_)
  have h2 := h.drew.allocRow (Builtin.zeroCells z.cells n ++ Builtin.zeroCells z.cells (grownCap w n 0 e - n)) e
  refine h2.mono (HP.arr_of_blk ?_ hge hcm ?_ fun j u hu => ?_)
  · rw [Array.length_toList, size_zeroCells, hzs]
  · simp only [Array.size_append, size_zeroCells, hzs]; omega
  · have hj := (List.getElem?_eq_some_iff.1 hu).1
    rw [Nat.zero_add, Array.getElem?_append_left (by simpa using hj)]
    simpa using hu

theorem grow_nil (w0 w : World) (F : List HP) (n : Nat) (hn : n ≤ 1000000) (hs : St w0 F w) :
    Calls Try.prog 44 #[.slice none 0 0, .int .i64 n] w fun e w' => ∃ a cap, e = .returned (.slice a 0 cap) ∧ St w0 (HP.arr 3 1 (.slice a 0 cap) 0 [] :: F) w' := by
  obtain ⟨i0, hi, hz0, hz1, hz2⟩ := info_parts info3
  by_cases h0 : n = 0
  · subst h0
    go_enter Try.func44, Try.ntmps44
    go_wp2
    go_ret
    exact ⟨_, _, rfl, hs.arr_nil 3 1⟩
  · have hp : 0 < n := by omega
    have hd : decide (0 < n) = true := by simp; omega
    clear h0
    go_enter Try.func44, Try.ntmps44
    go_wp2_with (at_builtin; refine wpList_append_make rfl _ _ 27 3 rfl 3 i0 _ 8 Try.underlying27 Try.underlying3 hi hz0 hz1 hz2 rfl n hp rfl rfl hs (by unfold maxLen; omega) (by omega) ?_; intro b cap xs w' hcap hs')
    have hs2 := hs'.mono (HP.arr_take (k := 0) (Nat.zero_le n) hcap)
    rw [Nat.zero_mul, List.take_zero] at hs2
    go_wp2
    go_ret
    exact ⟨_, _, rfl, hs2⟩

def sumLen (bs : List (List Int)) : Nat := (bs.map List.length).sum
theorem sumLen_take_succ (bs : List (List Int)) (k : Nat) (b : List Int) (h : bs[k]? = some b) : sumLen (bs.take (k + 1)) = sumLen (bs.take k) + b.length := by
  rw [List.take_add_one, h]
  simp [sumLen]
theorem sumLen_take_le (bs : List (List Int)) (k : Nat) : sumLen (bs.take k) ≤ sumLen bs := by
  have h : sumLen bs = sumLen (bs.take k) + sumLen (bs.drop k) := by
    unfold sumLen
    rw [← List.sum_append, ← List.map_append, List.take_append_drop]
  omega
/-- all objects, batch by batch -/
def flat (bs : List (List Int)) : List Int := bs.flatten
theorem flatten_length (bs : List (List Int)) : (flat bs).length = sumLen bs := by simp [flat, sumLen, List.length_flatten]
theorem flatten_take_succ (bs : List (List Int)) (k : Nat) (b : List Int) (h : bs[k]? = some b) : flat (bs.take (k + 1)) = flat (bs.take k) ++ b := by
  unfold flat
  rw [List.take_add_one, h]
  simp

/-- what slices.Concat reads -/
def RowsAt (w : World) (v : Value) (n : Nat) (vs : List Value) (bs : List (List Int)) : Prop :=
  Reads w 1 v n vs ∧ bs.length = n ∧ ∀ (k : Nat) (b : List Int), bs[k]? = some b → ∃ a cap, vs[k]? = some (Value.slice a b.length cap) ∧ IntsAt w (.slice a b.length cap) b

set_option maxHeartbeats 1000000 in
theorem concat_any (w0 w : World) (F : List HP) (a : Option Addr) (n cap : Nat) (vs : List Value) (bs : List (List Int)) (hs : St w0 F w) (hr : ∀ w', St w0 F w' → RowsAt w' (.slice a n cap) n vs bs)
    (hn : n ≤ 1000) (hsum : sumLen bs ≤ 1000000) :
    Calls Try.prog 34 #[.slice a n cap] w fun e w' => ∃ a' c', e = .returned (.slice a' (flat bs).length c') ∧ St w0 (ints (.slice a' (flat bs).length c') (flat bs) :: F) w' := by
  obtain ⟨i0, hi, hz0, hz1, hz2⟩ := info_parts info3
  have hbl := (hr w hs).2.1
  by_cases h0 : n = 0
  · subst h0
    have hbs : bs = [] := List.eq_nil_of_length_eq_zero hbl
    subst hbs
    clear hr
    go_enter Try.func34, Try.ntmps34
    go_wp2_with fail
    go_loop [3, 11] (fun t i => i = .int .i64 0 ∧ t = .int .i64 0) (fun _ i => 0)
    case atStart => exact ⟨rfl, rfl⟩
    case round =>
      obtain ⟨rfl, rfl⟩ := hrel
      go_wp2_with fail
      refine (grow_nil w0 w F 0 (by omega) hs).mono ?_
      rintro e w1 ⟨a1, p1, rfl, hs1⟩
      go_wp2_with fail
      go_loop [6, 27] (fun v i => i = .int .i64 0 ∧ v = .slice a1 0 p1) (fun _ i => 0)
      case atStart => exact ⟨rfl, rfl⟩
      case round =>
        obtain ⟨rfl, rfl⟩ := hrel
        go_wp2
        go_ret
        exact ⟨_, _, rfl, hs1⟩
  · obtain ⟨b0, off, cap', hv, hcap, _⟩ := (hr w hs).1.lies (by omega)
    cases hv
    clear h0
    have hcell : ∀ w', St w0 F w' → ∀ (k : Nat) (b : List Int), bs[k]? = some b → ∃ ak ck, w'.cell? ⟨b0, off + k, none⟩ = some (.slice ak b.length ck) ∧ IntsAt w' (.slice ak b.length ck) b := by
      intro w' hs' k b hb
      obtain ⟨h1, h2, h3⟩ := hr w' hs'
      obtain ⟨ak, ck, hv, hi⟩ := h3 k b hb
      have hkn : k < bs.length := (List.getElem?_eq_some_iff.1 hb).1
      obtain ⟨b0, off, cap', he, hc, hx⟩ := h1.lies (by omega)
      cases he
      exact ⟨ak, ck, hx k _ hv, hi⟩
    have HC := Lib.hid hcell
    clear hcell hr
    go_enter Try.func34, Try.ntmps34
    go_wp2
    go_loop [3, 11] (fun t i => ∃ k : Nat, k ≤ n ∧ i = .int .i64 k ∧ t = .int .i64 (sumLen (bs.take k) : Nat)) (fun _ i => n - (intOf i).toNat)
    case atStart => exact ⟨0, Nat.zero_le _, rfl, by simp [sumLen]⟩
    case round =>
      obtain ⟨k, hk, rfl, rfl⟩ := hrel
      have hle := sumLen_take_le bs k
      by_cases hlt : k < n
      · obtain ⟨b, hb⟩ : ∃ b, bs[k]? = some b := ⟨bs[k], List.getElem?_eq_getElem (by omega)⟩
        obtain ⟨ak, ck, hc, _⟩ := HC.out w hs k b hb
        have hle2 := sumLen_take_le bs (k + 1)
        have HT := Lib.hid (sumLen_take_succ bs k b hb)
        have hbl2 : b.length ≤ 1000000 := by have := HT.out; omega
        clear hb
        go_wp2
        go_round
        case rel => exact ⟨k + 1, by omega, by go_num, by rw [HT.out]; go_num⟩
        case measure => simp [intOf]; omega
      · have hkn : k = n := by omega
        have hle2 : sumLen (bs.take n) = sumLen bs := by rw [← hbl, List.take_length]
        have HK := Lib.hid hkn
        have HL := Lib.hid hle2
        clear hkn hle2
        go_wp2_with fail
        refine (grow_nil w0 w F _ (by omega) hs).mono ?_
        rintro e w1 ⟨a1, p1, rfl, hs1⟩
        go_wp2_with fail
        go_loopw [6, 27] (fun v i wr => ∃ k : Nat, k ≤ n ∧ i = .int .i64 k ∧ ∃ a2 p2, v = .slice a2 (flat (bs.take k)).length p2 ∧ St w0 (ints v (flat (bs.take k)) :: F) wr) (fun _ i _ => n - (intOf i).toNat)
        case atStart => exact ⟨0, Nat.zero_le _, rfl, a1, p1, by simp [flat], by simpa [ints, flat] using hs1⟩
        case round =>
          obtain ⟨k, hk, rfl, a2, p2, rfl, hs2⟩ := hrel
          have hfl := flatten_length (bs.take k)
          have hle := sumLen_take_le bs k
          by_cases hlt : k < n
          · obtain ⟨b, hb⟩ : ∃ b, bs[k]? = some b := ⟨bs[k], List.getElem?_eq_getElem (by omega)⟩
            obtain ⟨ak, ck, hc, hib⟩ := HC.out wr hs2.drop k b hb
            have hle2 := sumLen_take_le bs (k + 1)
            have hts := sumLen_take_succ bs k b hb
            have hbb : (flat (bs.take k)).length + b.length ≤ 1000000 := by omega
            have HF := Lib.hid (flatten_take_succ bs k b hb)
            clear hb hts hfl
            go_wp2_with (at_builtin; refine wpList_append_st rfl _ _ 27 rfl 3 i0 _ 1 8 Try.underlying27 hi hz0 hz1 hz2 rfl _ _ rfl rfl (flat (bs.take k)).length ((flat (bs.take k)).map (Value.int .i64)) hs2 b.length (b.map (Value.int .i64)) hib (oneCell_ints b) (by unfold maxLen; omega) (by omega) ?_; intro v3 w3 hs3 hv3; clear hv3; obtain ⟨a3, p3, rfl⟩ := (HP.arr_reads hs3).form)
            go_roundw
            case rel =>
              refine ⟨k + 1, by omega, by go_num, a3, p3, ?_, ?_⟩
              · rw [HF.out, List.length_append]
              · unfold ints
                rw [HF.out, List.length_append, List.map_append]
                exact hs3
            case measure => simp [intOf]; omega
          · have hkn : k = n := by omega
            have HK := Lib.hid hkn
            have HB := Lib.hid hbl
            clear hkn hfl
            go_wp2
            go_ret
            have e : bs.take k = bs := by rw [HK.out, ← HB.out, List.take_length]
            rw [e] at hs2 ⊢
            exact ⟨_, _, rfl, hs2⟩
end Go.Proofs.Ythlmjdkpkikcpaa

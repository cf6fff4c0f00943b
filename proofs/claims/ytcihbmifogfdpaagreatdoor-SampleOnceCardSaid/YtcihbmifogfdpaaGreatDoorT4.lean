/-
  strings.Builder: what a builder of the call's own holds; WriteString, String.
-/
import Derived.Test.YtcihbmifogfdpaaGreatDoorT3
import Derived.Lib.UnsafeStr
namespace Go.Proofs.YtcihbmifogfdpaaGreatDoor
open Go.RowKit

/-- a string's bytes as cells -/
def bytesC (x : ByteArray) : List Value := x.data.toList.map fun b => .int .u8 b.toNat
theorem bytesC_len (x : ByteArray) : (bytesC x).length = x.size := by
  simp only [bytesC, List.length_map, Array.length_toList]
  rfl
theorem bytesC_one (x : ByteArray) : ∀ u ∈ bytesC x, u.oneCell' = true := by
  intro u hu
  obtain ⟨b, _, rfl⟩ := List.mem_map.1 hu
  rfl
theorem firstCells_str {P : Program} (x : ByteArray) (sz : Nat) (w : World) : (Builtin.firstCells sz x.size (.string x)).run P w = .ok (bytesC x).toArray w := by
  have : x.extract 0 x.size = x := by simp
  simp only [Builtin.firstCells, this, Sem.run_pure]
  congr 1
  apply Array.ext'
  simp [bytesC]
/-- behind an append: the row as it was, or a new one -/
def offLike (v v' : Value) : Prop := ∀ a m c, v' = .slice (some a) m c → a.off = 0 ∨ ∃ m' c', v = .slice (some a) m' c'
section
variable {w0 w : World} {F : List HP} {v : Value} {n : Nat} {xs : List Value}
theorem run_append_str {P : Program} (tt tx ty e : TypeId) (htx : P.underlying tx = some .string) (i : TypeInfo) (z : Value) (size bytes : Nat) (ht : P.underlying tt = some (.slice e)) (hi : P.info? e = some i) (hz : i.zero = some z)
    (hsize : i.size = size) (hby : i.bytes = bytes) (hzs : z.cells.size = size)
    (h : St w0 (HP.arr e size v n xs :: F) w) (x : ByteArray) (k : Nat) (hk : k = x.size) (h1size : size = 1)
    (h63 : n + k ≤ maxLen) (hbytes : (n + k) * bytes ≤ 140737488355328) :
    ∃ v' w', (Builtin.append_ #[tt, tx] ty #[v, .string x]).run P w = .ok v' w' ∧ St w0 (HP.arr e size v' (n + k) (xs ++ bytesC x) :: F) w' ∧ (v' = .slice none 0 0 ↔ v = .slice none 0 0 ∧ x.size = 0) ∧ offLike v v' := by
  subst hsize
  subst hby
  subst hk
  obtain ⟨k, hk⟩ : ∃ k, x.size = k := ⟨_, rfl⟩
  obtain ⟨ys, hys⟩ : ∃ ys, bytesC x = ys := ⟨_, rfl⟩
  have hrl : ys.length = k * i.size := by rw [← hys, ← hk, h1size, Nat.mul_one, bytesC_len]
  have h1 : ∀ u ∈ ys, u.oneCell' = true := by rw [← hys]; exact bytesC_one x
  have hLst : ∀ w, (Builtin.lenOf (.string x)).run P w = .ok k w := fun w => by rw [← hk]; rfl
  have hFst : ∀ w, (Builtin.firstCells i.size k (.string x)).run P w = .ok ys.toArray w := fun w => by rw [← hys, ← hk]; exact firstCells_str x _ w
  rw [hk] at h63 hbytes
  rw [hys, hk]
  have hsmall : n + k ≤ 9223372036854775807 := by simp only [maxLen] at h63; omega
  have hlx : xs.length = n * i.size := by
    obtain ⟨_, m, ⟨m1, m2, _, e, h1, _⟩, hc⟩ := h
    exact h1.1
  have hlen : (xs ++ ys).length = (n + k) * i.size := by rw [List.length_append, hlx, hrl, Nat.add_mul]
  have hrv : Reads w i.size v n xs := HP.arr_reads h
  -- a new row
  have grown : ∀ (cap : Nat), n + k ≤ cap → cap ≤ maxLen → ∀ (w1 : World), w1 = w.drew →
      St w0 (HP.arr e i.size (.slice (some ⟨w.heap.size, 0, none⟩) (n + k) cap) (n + k) (xs ++ ys) :: F) (w1.alloc (.cells (xs.toArray ++ ys.toArray ++ Builtin.zeroCells z.cells (cap - (n + k))) e)) := by
    intro cap hc hcm w1 hw1
    subst hw1
    have h2 := h.drop.drew.allocRow (xs.toArray ++ ys.toArray ++ Builtin.zeroCells z.cells (cap - (n + k))) e
    refine h2.mono (HP.arr_of_blk hlen hc hcm ?_ fun j u hu => ?_)
    · simp only [Array.size_append, List.size_toArray, size_zeroCells, hzs, hlx, hrl, ← Nat.add_mul]
      rw [Nat.zero_add]
      exact Nat.mul_le_mul_right _ (by omega)
    · have hj : j < (xs ++ ys).length := (List.getElem?_eq_some_iff.1 hu).1
      rw [Nat.zero_add, Array.getElem?_append_left (by simpa using hj), List.append_toArray, List.getElem?_toArray]
      exact hu
  by_cases hroom : ∃ a cap, v = .slice a n cap ∧ n + k ≤ cap
  · obtain ⟨a, cap, rfl, hroom⟩ := hroom
    obtain ⟨hb, m, ⟨m1, m2, ha, em, hA, hF⟩, hc⟩ := h
    rcases hA.2 with ⟨hv, hn, _⟩ | ⟨b, off, cap', c, hv, hn, hcm, hcs, hx, hm⟩
    · cases hv
      have hk : k = 0 := by omega
      subst hk
      have : ys = [] := List.eq_nil_of_length_eq_zero (by simpa using hrl)
      subst this
      have : xs = [] := List.eq_nil_of_length_eq_zero (by simpa using hlx)
      subst this
      refine ⟨.slice none 0 0, w, ?_, ⟨hb, m, ⟨m1, m2, ha, em, hA, hF⟩, hc⟩, by simp, fun _ _ _ h => by cases h⟩
      simp [Builtin.append_, run_underlying ht, run_underlying htx, sizeOf, typeInfo, hi, hLst, hFst]
    · cases hv
      have hblk : St w0 (HP.blk b c e :: F) w := ⟨hb, m, ⟨m1, m2, ha, em, hm, hF⟩, hc⟩
      have hfit : (off + n * i.size) + ys.length ≤ c.size := by
        rw [hrl]
        have : n * i.size + k * i.size ≤ cap * i.size := by rw [← Nat.add_mul]; exact Nat.mul_le_mul_right _ hroom
        omega
      have hst := run_storeCells_at P b (off + n * i.size) e ys 0 c w hblk.row (by simpa using hfit) h1
      simp only [Nat.add_zero] at hst
      refine ⟨.slice (some ⟨b, off, none⟩) (n + k) cap, _, ?_, (hblk.setRow (c' := (c.toList.take (off + n * i.size) ++ ys ++ c.toList.drop (off + n * i.size + ys.length)).toArray)).mono (HP.arr_of_blk hlen hroom hcm ?_ fun j u hu => ?_), ?_⟩
      · simp [Builtin.append_, run_underlying ht, run_underlying htx, sizeOf, typeInfo, hi, hLst, hroom, hFst, Addr.add_lit, hst]
      · simp only [List.size_toArray, List.length_append, List.length_take, List.length_drop, Array.length_toList]
        omega
      · have hj : j < (xs ++ ys).length := (List.getElem?_eq_some_iff.1 hu).1
        rw [List.length_append] at hj
        rw [List.getElem?_toArray, List.append_assoc]
        by_cases hjx : j < xs.length
        · rw [List.getElem?_append_left hjx] at hu
          rw [List.getElem?_append_left (by rw [List.length_take, Array.length_toList]; omega), List.getElem?_take_of_lt (by omega), Array.getElem?_toList]
          exact hx j u hu
        · rw [List.getElem?_append_right (by omega)] at hu
          have ht : (c.toList.take (off + n * i.size)).length = off + n * i.size := by rw [List.length_take, Array.length_toList]; omega
          rw [List.getElem?_append_right (by rw [ht]; omega), ht, List.getElem?_append_left (by omega)]
          rw [← hu]
          congr 1
          omega
      · exact ⟨by simp, fun _ _ _ h => by cases h; exact .inr ⟨_, _, rfl⟩⟩
  · obtain ⟨a, cap, rfl⟩ := hrv.form
    have hcap : cap < n + k := by
      rcases Nat.lt_or_ge cap (n + k) with h | h
      · exact h
      · exact absurd ⟨a, cap, rfl, h⟩ hroom
    have hge := grownCap_ge w (n + k) cap e
    have hcm : grownCap w (n + k) cap e ≤ maxLen := grownCap_le_maxLen w (n + k) cap e h63
    have hfit := growslice_fits (bytes := i.bytes) hcap hbytes
    have hn : ¬ (n + k ≤ cap) := by omega
    have h63' : ¬ (9223372036854775807 < ((n : Int) + (k : Int))) := by omega
    have h48' : ¬ (281474976710656 < Builtin.nextslicecap (n + k) cap * i.bytes) := by omega
    refine ⟨_, _, ?_, grown _ hge hcm w.drew rfl, ?_⟩
    · have hf := hFst w.drew
      have hfo := (hrv.drew).firstCells (P := P)
      simp [Builtin.append_, run_underlying ht, run_underlying htx, sizeOf, typeInfo, zeroValue, hi, hz, hLst, hn, h63', h48', Question.forced, hf, hfo, newRow, grownCap]
      congr 2
      apply Array.ext'
      simp [List.append_assoc]
    · have hk0 : k ≠ 0 := by
        intro hk
        subst hk
        rcases hrv.2 with ⟨hv, h0⟩ | ⟨_, _, _, _, hv, hle, _⟩
        · omega
        · cases hv; omega
      exact ⟨by simp [hk0], fun _ _ _ h => by cases h; exact .inl rfl⟩
end

theorem wpList_append_str {P : Program} {w0 w : World} {F : List HP} {v : Value} {n : Nat} {xs : List Value} {ops : Array Oper} {rest : List Oper} {o : Oper} {a : Act} {Q : Exit → Act → World → Prop} (hgd : o.guard = none) (s x : Operand) (tt tx : TypeId) (htx : P.underlying tx = some .string)
    (ho : o.op = .call { callee := .builtin .append, args := #[s, x], argTypes := #[tt, tx] })
    (e : TypeId) (i : TypeInfo) (z : Value) (bytes : Nat) (ht : P.underlying tt = some (.slice e)) (hi : P.info? e = some i) (hz : i.zero = some z)
    (hsize : i.size = 1) (hby : i.bytes = bytes) (hzs : z.cells.size = 1)
    (y : ByteArray) (hs : a.eval s = v) (hy : a.eval x = .string y) (h : St w0 (HP.arr e 1 v n xs :: F) w)
    (h63 : n + y.size ≤ maxLen) (hbytes : (n + y.size) * bytes ≤ 140737488355328)
    (hK : ∀ v' w', St w0 (HP.arr e 1 v' (n + y.size) (xs ++ bytesC y) :: F) w' → (v' = .slice none 0 0 ↔ v = .slice none 0 0 ∧ y.size = 0) ∧ offLike v v' → wpList P ops Q rest (a.put o.dst v') w') : wpList P ops Q (o :: rest) a w := by
  refine wpList_plain hgd fun _ hK' => ?_
  obtain ⟨v', w', hrun, h2, h3⟩ := run_append_str (P := P) tt tx o.type e htx i z 1 bytes ht hi hz hsize hby hzs h y y.size rfl rfl h63 hbytes
  unfold Oper.wp execOp
  simp only [ho, resolve, invoke, builtin, Sem.run_bind, Sem.run_pure, Result.andThen_ok, List.map_toArray, List.map_cons, List.map_nil, hs, hy, hrun]
  exact hK' _ _ (hK v' w' h2 h3)

/-- what a builder of the call's own holds -/
def offZ (v : Value) : Prop := ∀ a m c, v = .slice (some a) m c → a.off = 0
theorem offLike.z {v v' : Value} (h : offLike v v') (hv : offZ v) : offZ v' := fun a m c e => (h a m c e).elim id fun ⟨m', c', e'⟩ => hv a m' c' e'
def bldP (b : Nat) (l : List UInt8) : HP := HP.ex fun p : Option Addr => HP.ex fun v : Value => HP.pur ((p = none ∨ p = some ⟨b, 0, none⟩) ∧ offZ v ∧ (l = [] → v = .slice none 0 0)) * (HP.blk b #[.pointer p, v] 156 * HP.arr 5 1 v l.length (Lib.byteCells l))
section
variable {w0 w : World} {F : List HP} {b : Nat} {l : List UInt8}
theorem bld_open (h : St w0 (bldP b l :: F) w) : ∃ p v, (p = none ∨ p = some ⟨b, 0, none⟩) ∧ (offZ v ∧ (l = [] → v = .slice none 0 0)) ∧ St w0 (HP.blk b #[.pointer p, v] 156 :: HP.arr 5 1 v l.length (Lib.byteCells l) :: F) w := by
  obtain ⟨p, h⟩ := St.ex.1 h
  obtain ⟨v, h⟩ := St.ex.1 h
  obtain ⟨⟨h1, h2⟩, h⟩ := St.pur.1 (St.two.1 h)
  exact ⟨p, v, h1, h2, St.two.1 h⟩
theorem bld_shut {p : Option Addr} {v : Value} (hp : p = none ∨ p = some ⟨b, 0, none⟩) (hv : offZ v ∧ (l = [] → v = .slice none 0 0)) (h : St w0 (HP.blk b #[.pointer p, v] 156 :: HP.arr 5 1 v l.length (Lib.byteCells l) :: F) w) : St w0 (bldP b l :: F) w :=
  St.ex.2 ⟨p, St.ex.2 ⟨v, St.two.2 (St.pur.2 ⟨⟨hp, hv⟩, St.two.2 h⟩)⟩⟩
end
theorem bytesC_eq (s : ByteArray) : bytesC s = Lib.byteCells s.data.toList := rfl

end Go.Proofs.YtcihbmifogfdpaaGreatDoor

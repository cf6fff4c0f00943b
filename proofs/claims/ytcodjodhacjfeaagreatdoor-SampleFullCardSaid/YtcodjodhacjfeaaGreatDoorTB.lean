/-
  Several texts in one: T4, T5, T6, T7, T8.
-/
import Derived.Test.YtcodjodhacjfeaaGreatDoorT3
import Derived.Lib.UnsafeStr
import Derived.Shelf.Strings.BuilderK
import Derived.Lib.ItoaLen
import Derived.Lib.AppendIntMem
/-! strings.Builder: what a builder of the call's own holds; WriteString, String. -/
section
namespace Go.Proofs.YtcodjodhacjfeaaGreatDoor
open Go.RowKit

/-- a string's bytes as cells -/
def bytesC (x : ByteArray) : List Value := x.data.toList.map fun b => .int .u8 b.toNat
theorem bytesC_len (x : ByteArray) : (bytesC x).length = x.size := by
  simp only [bytesC, List.length_map, Array.length_toList]
  rfl
theorem bytesC_one (x : ByteArray) : ∀ u ∈ bytesC x, u.oneCell' = true := by
  intro u hu
  obtain ⟨b, _, rfl⟩ := List.mem_map.1 hu
  rfl
theorem firstCells_str {P : Program} (x : ByteArray) (sz : Nat) (w : World) : (Builtin.firstCells sz x.size (.string x)).run P w = .ok (bytesC x).toArray w := by
  have : x.extract 0 x.size = x := by simp
  simp only [Builtin.firstCells, this, Sem.run_pure]
  congr 1
  apply Array.ext'
  simp [bytesC]
/-- behind an append: the row as it was, or a new one -/
def offLike (v v' : Value) : Prop := ∀ a m c, v' = .slice (some a) m c → a.off = 0 ∨ ∃ m' c', v = .slice (some a) m' c'
section
variable {w0 w : World} {F : List HP} {v : Value} {n : Nat} {xs : List Value}
theorem run_append_str {P : Program} (tt tx ty e : TypeId) (htx : P.underlying tx = some .string) (i : TypeInfo) (z : Value) (size bytes : Nat) (ht : P.underlying tt = some (.slice e)) (hi : P.info? e = some i) (hz : i.zero = some z)
    (hsize : i.size = size) (hby : i.bytes = bytes) (hzs : z.cells.size = size)
    (h : St w0 (HP.arr e size v n xs :: F) w) (x : ByteArray) (k : Nat) (hk : k = x.size) (h1size : size = 1)
    (h63 : n + k ≤ maxLen) (hbytes : (n + k) * bytes ≤ 140737488355328) :
    ∃ v' w', (Builtin.append_ #[tt, tx] ty #[v, .string x]).run P w = .ok v' w' ∧ St w0 (HP.arr e size v' (n + k) (xs ++ bytesC x) :: F) w' ∧ (v' = .slice none 0 0 ↔ v = .slice none 0 0 ∧ x.size = 0) ∧ offLike v v' := by
  subst hsize
  subst hby
  subst hk
  obtain ⟨k, hk⟩ : ∃ k, x.size = k := ⟨_, rfl⟩
  obtain ⟨ys, hys⟩ : ∃ ys, bytesC x = ys := ⟨_, rfl⟩
  have hrl : ys.length = k * i.size := by rw [← hys, ← hk, h1size, Nat.mul_one, bytesC_len]
  have h1 : ∀ u ∈ ys, u.oneCell' = true := by rw [← hys]; exact bytesC_one x
  have hLst : ∀ w, (Builtin.lenOf (.string x)).run P w = .ok k w := fun w => by rw [← hk]; rfl
  have hFst : ∀ w, (Builtin.firstCells i.size k (.string x)).run P w = .ok ys.toArray w := fun w => by rw [← hys, ← hk]; exact firstCells_str x _ w
  rw [hk] at h63 hbytes
  rw [hys, hk]
  have hsmall : n + k ≤ 9223372036854775807 := by simp only [maxLen] at h63; omega
  have hlx : xs.length = n * i.size := by
    obtain ⟨_, m, ⟨m1, m2, _, e, h1, _⟩, hc⟩ := h
    exact h1.1
  have hlen : (xs ++ ys).length = (n + k) * i.size := by rw [List.length_append, hlx, hrl, Nat.add_mul]
  have hrv : Reads w i.size v n xs := HP.arr_reads h
  -- a new row
  have grown : ∀ (cap : Nat), n + k ≤ cap → cap ≤ maxLen → ∀ (w1 : World), w1 = w.drew →
      St w0 (HP.arr e i.size (.slice (some ⟨w.heap.size, 0, none⟩) (n + k) cap) (n + k) (xs ++ ys) :: F) (w1.alloc (.cells (xs.toArray ++ ys.toArray ++ Builtin.zeroCells z.cells (cap - (n + k))) e)) := by
    intro cap hc hcm w1 hw1
    subst hw1
    have h2 := h.drop.drew.allocRow (xs.toArray ++ ys.toArray ++ Builtin.zeroCells z.cells (cap - (n + k))) e
    refine h2.mono (HP.arr_of_blk hlen hc hcm ?_ fun j u hu => ?_)
    · simp only [Array.size_append, List.size_toArray, size_zeroCells, hzs, hlx, hrl, ← Nat.add_mul]
      rw [Nat.zero_add]
      exact Nat.mul_le_mul_right _ (by omega)
    · have hj : j < (xs ++ ys).length := (List.getElem?_eq_some_iff.1 hu).1
      rw [Nat.zero_add, Array.getElem?_append_left (by simpa using hj), List.append_toArray, List.getElem?_toArray]
      exact hu
  by_cases hroom : ∃ a cap, v = .slice a n cap ∧ n + k ≤ cap
  · obtain ⟨a, cap, rfl, hroom⟩ := hroom
    obtain ⟨hb, m, ⟨m1, m2, ha, em, hA, hF⟩, hc⟩ := h
    rcases hA.2 with ⟨hv, hn, _⟩ | ⟨b, off, cap', c, hv, hn, hcm, hcs, hx, hm⟩
    · cases hv
      have hk : k = 0 := by omega
      subst hk
      have : ys = [] := List.eq_nil_of_length_eq_zero (by simpa using hrl)
      subst this
      have : xs = [] := List.eq_nil_of_length_eq_zero (by simpa using hlx)
      subst this
      refine ⟨.slice none 0 0, w, ?_, ⟨hb, m, ⟨m1, m2, ha, em, hA, hF⟩, hc⟩, by simp, fun _ _ _ h => by cases h⟩
      simp [Builtin.append_, run_underlying ht, run_underlying htx, sizeOf, typeInfo, hi, hLst, hFst]
    · cases hv
      have hblk : St w0 (HP.blk b c e :: F) w := ⟨hb, m, ⟨m1, m2, ha, em, hm, hF⟩, hc⟩
      have hfit : (off + n * i.size) + ys.length ≤ c.size := by
        rw [hrl]
        have : n * i.size + k * i.size ≤ cap * i.size := by rw [← Nat.add_mul]; exact Nat.mul_le_mul_right _ hroom
        omega
      have hst := run_storeCells_at P b (off + n * i.size) e ys 0 c w hblk.row (by simpa using hfit) h1
      simp only [Nat.add_zero] at hst
      refine ⟨.slice (some ⟨b, off, none⟩) (n + k) cap, _, ?_, (hblk.setRow (c' := (c.toList.take (off + n * i.size) ++ ys ++ c.toList.drop (off + n * i.size + ys.length)).toArray)).mono (HP.arr_of_blk hlen hroom hcm ?_ fun j u hu => ?_), ?_⟩
      · simp [Builtin.append_, run_underlying ht, run_underlying htx, sizeOf, typeInfo, hi, hLst, hroom, hFst, Addr.add_lit, hst]
      · simp only [List.size_toArray, List.length_append, List.length_take, List.length_drop, Array.length_toList]
        omega
      · have hj : j < (xs ++ ys).length := (List.getElem?_eq_some_iff.1 hu).1
        rw [List.length_append] at hj
        rw [List.getElem?_toArray, List.append_assoc]
        by_cases hjx : j < xs.length
        · rw [List.getElem?_append_left hjx] at hu
          rw [List.getElem?_append_left (by rw [List.length_take, Array.length_toList]; omega), List.getElem?_take_of_lt (by omega), Array.getElem?_toList]
          exact hx j u hu
        · rw [List.getElem?_append_right (by omega)] at hu
          have ht : (c.toList.take (off + n * i.size)).length = off + n * i.size := by rw [List.length_take, Array.length_toList]; omega
          rw [List.getElem?_append_right (by rw [ht]; omega), ht, List.getElem?_append_left (by omega)]
          rw [← hu]
          congr 1
          omega
      · exact ⟨by simp, fun _ _ _ h => by cases h; exact .inr ⟨_, _, rfl⟩⟩
  · obtain ⟨a, cap, rfl⟩ := hrv.form
    have hcap : cap < n + k := by
      rcases Nat.lt_or_ge cap (n + k) with h | h
      · exact h
      · exact absurd ⟨a, cap, rfl, h⟩ hroom
    have hge := grownCap_ge w (n + k) cap e
    have hcm : grownCap w (n + k) cap e ≤ maxLen := grownCap_le_maxLen w (n + k) cap e h63
    have hfit := growslice_fits (bytes := i.bytes) hcap hbytes
    have hn : ¬ (n + k ≤ cap) := by omega
    have h63' : ¬ (9223372036854775807 < ((n : Int) + (k : Int))) := by omega
    have h48' : ¬ (281474976710656 < Builtin.nextslicecap (n + k) cap * i.bytes) := by omega
    refine ⟨_, _, ?_, grown _ hge hcm w.drew rfl, ?_⟩
    · have hf := hFst w.drew
      have hfo := (hrv.drew).firstCells (P := P)
      simp [Builtin.append_, run_underlying ht, run_underlying htx, sizeOf, typeInfo, zeroValue, hi, hz, hLst, hn, h63', h48', Question.forced, hf, hfo, newRow, grownCap]
      congr 2
      apply Array.ext'
      simp [List.append_assoc]
    · have hk0 : k ≠ 0 := by
        intro hk
        subst hk
        rcases hrv.2 with ⟨hv, h0⟩ | ⟨_, _, _, _, hv, hle, _⟩
        · omega
        · cases hv; omega
      exact ⟨by simp [hk0], fun _ _ _ h => by cases h; exact .inl rfl⟩
end

theorem wpList_append_str {P : Program} {w0 w : World} {F : List HP} {v : Value} {n : Nat} {xs : List Value} {ops : Array Oper} {rest : List Oper} {o : Oper} {a : Act} {Q : Exit → Act → World → Prop} (hgd : o.guard = none) (s x : Operand) (tt tx : TypeId) (htx : P.underlying tx = some .string)
    (ho : o.op = .call { callee := .builtin .append, args := #[s, x], argTypes := #[tt, tx] })
    (e : TypeId) (i : TypeInfo) (z : Value) (bytes : Nat) (ht : P.underlying tt = some (.slice e)) (hi : P.info? e = some i) (hz : i.zero = some z)
    (hsize : i.size = 1) (hby : i.bytes = bytes) (hzs : z.cells.size = 1)
    (y : ByteArray) (hs : a.eval s = v) (hy : a.eval x = .string y) (h : St w0 (HP.arr e 1 v n xs :: F) w)
    (h63 : n + y.size ≤ maxLen) (hbytes : (n + y.size) * bytes ≤ 140737488355328)
    (hK : ∀ v' w', St w0 (HP.arr e 1 v' (n + y.size) (xs ++ bytesC y) :: F) w' → (v' = .slice none 0 0 ↔ v = .slice none 0 0 ∧ y.size = 0) ∧ offLike v v' → wpList P ops Q rest (a.put o.dst v') w') : wpList P ops Q (o :: rest) a w := by
  refine wpList_plain hgd fun _ hK' => ?_
  obtain ⟨v', w', hrun, h2, h3⟩ := run_append_str (P := P) tt tx o.type e htx i z 1 bytes ht hi hz hsize hby hzs h y y.size rfl rfl h63 hbytes
  unfold Oper.wp execOp
  simp only [ho, resolve, invoke, builtin, Sem.run_bind, Sem.run_pure, Result.andThen_ok, List.map_toArray, List.map_cons, List.map_nil, hs, hy, hrun]
  exact hK' _ _ (hK v' w' h2 h3)

/-- what a builder of the call's own holds -/
def offZ (v : Value) : Prop := ∀ a m c, v = .slice (some a) m c → a.off = 0
theorem offLike.z {v v' : Value} (h : offLike v v') (hv : offZ v) : offZ v' := fun a m c e => (h a m c e).elim id fun ⟨m', c', e'⟩ => hv a m' c' e'
def bldP (b : Nat) (l : List UInt8) : HP := HP.ex fun p : Option Addr => HP.ex fun v : Value => HP.pur ((p = none ∨ p = some ⟨b, 0, none⟩) ∧ offZ v ∧ (l = [] → v = .slice none 0 0)) * (HP.blk b #[.pointer p, v] 157 * HP.arr 5 1 v l.length (Lib.byteCells l))
section
variable {w0 w : World} {F : List HP} {b : Nat} {l : List UInt8}
theorem bld_open (h : St w0 (bldP b l :: F) w) : ∃ p v, (p = none ∨ p = some ⟨b, 0, none⟩) ∧ (offZ v ∧ (l = [] → v = .slice none 0 0)) ∧ St w0 (HP.blk b #[.pointer p, v] 157 :: HP.arr 5 1 v l.length (Lib.byteCells l) :: F) w := by
  obtain ⟨p, h⟩ := St.ex.1 h
  obtain ⟨v, h⟩ := St.ex.1 h
  obtain ⟨⟨h1, h2⟩, h⟩ := St.pur.1 (St.two.1 h)
  exact ⟨p, v, h1, h2, St.two.1 h⟩
theorem bld_shut {p : Option Addr} {v : Value} (hp : p = none ∨ p = some ⟨b, 0, none⟩) (hv : offZ v ∧ (l = [] → v = .slice none 0 0)) (h : St w0 (HP.blk b #[.pointer p, v] 157 :: HP.arr 5 1 v l.length (Lib.byteCells l) :: F) w) : St w0 (bldP b l :: F) w :=
  St.ex.2 ⟨p, St.ex.2 ⟨v, St.two.2 (St.pur.2 ⟨⟨hp, hv⟩, St.two.2 h⟩)⟩⟩
end
theorem bytesC_eq (s : ByteArray) : bytesC s = Lib.byteCells s.data.toList := rfl

end Go.Proofs.YtcodjodhacjfeaaGreatDoor
end

/-! strings.Builder: copyCheck, WriteString, String. -/
section
namespace Go.Proofs.YtcodjodhacjfeaaGreatDoor
open Go.RowKit

theorem info_builder : ∃ j, Tryz.prog.info? 157 = some j ∧ j.size = 2 := Option.map_eq_some_iff.1 (show (Tryz.prog.info? 157).map (·.size) = some 2 by kernel_rfl)
set_option maxRecDepth 10000 in
set_option maxHeartbeats 1000000 in
theorem copyCheck_any (w0 w : World) (F : List HP) (b : Nat) (p : Option Addr) (v : Value) (hp : p = none ∨ p = some ⟨b, 0, none⟩) (hs : St w0 (HP.blk b #[.pointer p, v] 157 :: F) w) :
    Calls Tryz.prog 121 #[.pointer (some ⟨b, 0, none⟩)] w fun e w' => e = .returned (.tuple #[]) ∧ St w0 (HP.blk b #[.pointer (some ⟨b, 0, none⟩), v] 157 :: F) w' := by
  obtain ⟨c0, c1⟩ := St.cells2 hs
  have hf := St.frozen hs 0
  have hset := St.set hs 0 (.pointer (some ⟨b, 0, none⟩))
  simp at hset
  have hsh : w.shape? b = some (157, 2) := by simp [World.shape?, St.row hs]
  obtain ⟨j, hj, hjs⟩ := info_builder
  rcases hp with rfl | rfl
  · have H := Lib.hid hset
    clear hset hs
    go_enter Tryz.func121, Tryz.ntmps121
    go_wp2
    rw [Lib.run_to_unsafe w ⟨b, 0, none⟩ Tryz.underlying155 Tryz.underlying300 hj (by rw [hjs]; decide) hsh (Nat.zero_lt_succ 1)]
    refine (?_ : Oper.upon _ _ _ _ _ (.ok (.value _) _))
    rw [Oper.upon_value]
    go_wp2
    rw [Cl.noEscape_call]
    refine (?_ : Oper.upon _ _ _ _ _ (.ok (.value _) _))
    rw [Oper.upon_value]
    go_wp2
    rw [Lib.run_from_unsafe w ⟨b, 0, none⟩ Tryz.underlying300 Tryz.underlying155 hj hsh (by kernel_rfl)]
    refine (?_ : Oper.upon _ _ _ _ _ (.ok (.value _) _))
    rw [Oper.upon_value]
    go_wp2
    go_end0
    exact ⟨rfl, H.out⟩
  · have H := Lib.hid hs
    clear hset hs
    go_enter Tryz.func121, Tryz.ntmps121
    go_wp2
    rw [Lib.run_neq_ptr_same w _ Tryz.underlying155 hj]
    go_wp2
    go_end0
    exact ⟨rfl, H.out⟩

end Go.Proofs.YtcodjodhacjfeaaGreatDoor
end

/-! strings.Builder: WriteString, String. -/
section
namespace Go.Proofs.YtcodjodhacjfeaaGreatDoor
open Go.RowKit

theorem info_byte : ∃ i : TypeInfo, Tryz.prog.info? 5 = some i ∧ i.zero = some (.int .u8 0) ∧ i.size = 1 ∧ i.bytes = 1 := info_parts (show (Tryz.prog.info? 5).map (fun i => (i.zero, i.size, i.bytes)) = some (some (.int .u8 0), 1, 1) by kernel_rfl)
set_option maxRecDepth 10000 in
set_option maxHeartbeats 1000000 in
theorem write_any (w0 w : World) (F : List HP) (b : Nat) (l : List UInt8) (s : ByteArray) (hl : l.length + s.size ≤ 1099511627776) (hs : St w0 (bldP b l :: F) w) :
    Calls Tryz.prog 79 #[.pointer (some ⟨b, 0, none⟩), .string s] w fun e w' => e = .returned (.tuple #[.int .i64 s.size, .nilIface]) ∧ St w0 (bldP b (l ++ s.data.toList) :: F) w' := by
  obtain ⟨p, v, hp, hv, h⟩ := bld_open hs
  obtain ⟨i, hi, hz, hsi, hby⟩ := info_byte
  obtain ⟨a, cap, rfl⟩ := (HP.arr_reads h.swap).form
  have HI := Lib.hid hi; have HZ := Lib.hid hz; have HS := Lib.hid hsi; have HB := Lib.hid hby
  have HL : Hid (l.length + s.size ≤ maxLen) := Lib.hid (by simp only [maxLen]; omega)
  have HL2 : Hid ((l.length + s.size) * 1 ≤ 140737488355328) := Lib.hid (by omega)
  have HV := Lib.hid hv
  have HH := Lib.hid h
  have HPP := Lib.hid hp
  clear hs hi hz hsi hby hl hv h hp
  go_enter Tryz.func79, Tryz.ntmps79
  go_wp2_with (first
    | (go_at_call 121; refine (copyCheck_any _ _ _ _ _ _ HPP.out HH.out).mono ?_; rintro e w1 ⟨rfl, h1⟩; obtain ⟨c0, c1⟩ := St.cells2 h1; have H1 := Lib.hid h1; clear h1 HH)
    | (at_builtin; refine wpList_append_str rfl _ _ 69 9 Tryz.underlying9 rfl 5 i _ 1 Tryz.underlying69 HI.out HZ.out HS.out HB.out rfl s rfl rfl H1.out.swap HL.out HL2.out ?_; intro v' w2 h2 hlk; obtain ⟨a3, cap3, rfl⟩ := (HP.arr_reads h2).form; have f1 := St.frozen h2.swap 1; obtain ⟨d0, d1⟩ := St.cells2 h2.swap; have HK := Lib.hid hlk; have H2 := Lib.hid h2; clear h2 hlk))
  go_ret2
  refine ⟨rfl, ?_⟩
  have h3 := St.set H2.out.swap 1 (.slice a3 (l.length + s.size) cap3)
  simp at h3
  refine bld_shut (.inr rfl) ⟨HK.out.2.z HV.out.1, fun h => ?_⟩ ?_
  · have h7 := List.append_eq_nil_iff.1 h
    exact HK.out.1.2 ⟨HV.out.2 h7.1, by rw [Lib.size_eq, h7.2]; rfl⟩
  rw [List.length_append, show s.data.toList.length = s.size from rfl]
  rw [bytesC_eq] at h3
  simpa [Lib.byteCells] using h3
end Go.Proofs.YtcodjodhacjfeaaGreatDoor
end

/-! strings.Builder.String. -/
section
namespace Go.Proofs.YtcodjodhacjfeaaGreatDoor
open Go.RowKit

theorem arr_blk {w0 w : World} {F : List HP} {t : TypeId} {g off n cap : Nat} {xs : List Value} (h : St w0 (HP.arr t 1 (.slice (some ⟨g, off, none⟩) n cap) n xs :: F) w) :
    ∃ c : Array Value, off + cap ≤ c.size ∧ n ≤ cap ∧ (∀ i x, xs[i]? = some x → c[off + i]? = some x) ∧ St w0 (HP.blk g c t :: F) w := by
  obtain ⟨hb, m, ⟨m1, m2, ha, em, hA, hF⟩, hc⟩ := h
  rcases hA.2 with ⟨hv, hn, _⟩ | ⟨b, off', cap', c, hv, hn, hcm, hcs, hx, hm⟩
  · cases hv
  · cases hv
    exact ⟨c, by omega, hn, hx, hb, m, ⟨m1, m2, ha, em, hm, hF⟩, hc⟩
set_option maxRecDepth 10000 in
set_option maxHeartbeats 1000000 in
theorem string_any (w0 w : World) (F : List HP) (b : Nat) (l : List UInt8) (hlen : l.length ≤ 9223372036854775807) (hs : St w0 (bldP b l :: F) w) :
    Calls Tryz.prog 81 #[.pointer (some ⟨b, 0, none⟩)] w fun e w' => e = .returned (.string ⟨l.toArray⟩) ∧ Below w0.heap.size w0 w' := by
  obtain ⟨p, v, hp, hv, h⟩ := bld_open hs
  obtain ⟨c0, c1⟩ := St.cells2 h
  have HB := Lib.hid h.below
  rcases (HP.arr_form h.swap) with ⟨rfl, hn⟩ | ⟨g, off, cap, rfl, hcap⟩
  · have hl : l = [] := List.eq_nil_of_length_eq_zero hn
    subst hl
    clear hs h hv hp hn
    have hSD : ∀ ts ty W, (Builtin.unsafeSliceData_ ts ty #[.slice none 0 0]).run Tryz.prog W = .ok (.pointer none) W := fun ts ty W => rfl
    have hUS : ∀ ty W, (Builtin.unsafeString_ #[215, 3] ty #[.pointer none, .int .i64 0]).run Tryz.prog W = .ok (.string .empty) W := fun ty W => Lib.run_unsafeString_none _ _ _ _ _
    go_enter Tryz.func81, Tryz.ntmps81
    go_wp2_with fail
    refine wp_region_tail_drew 10 (by kernel_rfl) (by kernel_rfl) ?_
    simp only [List.take_succ_cons, List.take_zero, List.drop_succ_cons, List.drop_zero]
    repeat still_step
    refine wpStill_nil ?_
    go_wp2_with fail
    go_ret
    exact ⟨rfl, HB.out.drew⟩
  · have hz : off = 0 := hv.1 _ _ _ rfl
    subst hz
    have hne : l ≠ [] := fun h9 => by have := hv.2 h9; cases this
    have hl1 : 1 ≤ l.length := by cases l with | nil => exact absurd rfl hne | cons => simp
    have hc0 : cap ≠ 0 := by omega
    obtain ⟨c, hcs, _, hcx, hst⟩ := arr_blk h.swap
    have hsh : w.drew.shape? g = some (5, c.size) := by
      have := St.row hst
      show w.shape? g = _
      simp [World.shape?, this]
    have hcell : ∀ j x, l[j]? = some x → w.drew.cell? ((⟨g, 0, none⟩ : Addr).add j) = some (.int .u8 x.toNat) := by
      intro j x hx
      have h1 : c[0 + j]? = some (.int .u8 x.toNat) := hcx j _ (by simp [Lib.byteCells, hx])
      show w.cell? _ = _
      have h2 := St.cell hst h1
      simpa [Addr.add_lit] using h2
    have hUS := Lib.run_unsafeString_row (P := Tryz.prog) w.drew 215 3 9 5 Tryz.underlying215 (by kernel_rfl) g c.size hsh l hne (by omega) hlen hcell
    have hSD : ∀ ts ty W, (Builtin.unsafeSliceData_ ts ty #[.slice (some ⟨g, 0, none⟩) l.length cap]).run Tryz.prog W = .ok (.pointer (some ⟨g, 0, none⟩)) W := fun ts ty W => Lib.run_unsafeSliceData_row W ts ty ⟨g, 0, none⟩ l.length cap hc0
    have HG : Hid (w0.heap.size ≤ g) := Lib.hid (St.old hst)
    clear hs h hv hp hsh hcell hst hcx hcs hl1 hc0
    go_enter Tryz.func81, Tryz.ntmps81
    go_wp2_with fail
    refine wp_region_tail_drew 10 (by kernel_rfl) (by kernel_rfl) ?_
    simp only [List.take_succ_cons, List.take_zero, List.drop_succ_cons, List.drop_zero]
    repeat still_step
    refine wpStill_nil ?_
    go_wp2_with fail
    go_ret
    exact ⟨rfl, Lib.below_freeze HB.out.drew HG.out _⟩
end Go.Proofs.YtcodjodhacjfeaaGreatDoor
end

/-! text. -/
section
namespace Go.Proofs.YtcodjodhacjfeaaGreatDoor
open Go.RowKit

def numT (x : Int) : List UInt8 := 32 :: Lib.itoa x
def rowT (r : Rw) : List UInt8 := r.site.data.toList ++ (numT r.a ++ numT r.b ++ numT r.c ++ numT r.d) ++ [10]
def textL (l : List Rw) : List UInt8 := l.flatMap rowT
/-- rows whose text is short -/
def Short (l : List Rw) : Prop := l.length ≤ 1000000 ∧ ∀ r ∈ l, r.site.size ≤ 1000
def Pow10 (w : World) : Prop := Lib.TabIs Tryz.prog w "internal/strconv.uint64pow10" .u64 Lib.pow10Tab
theorem Pow10.grow {w w' : World} (h : Pow10 w) (hb : Below w.heap.size w w') : Pow10 w' := by
  unfold Pow10 Lib.TabIs World.var? at *
  cases hg : Tryz.prog.globalNamed "internal/strconv.uint64pow10" with
  | none => rw [hg] at h; cases h
  | some g =>
    rw [hg] at h
    simp only [Option.bind_some] at h ⊢
    cases hb2 : w.heap[g]? with
    | none => rw [hb2] at h; cases h
    | some o =>
      rw [hb.block g (Array.getElem?_eq_some_iff.1 hb2).1]
      exact h
theorem itoa_any (w : World) (x : Int) (hx : i64r x) (ht : Pow10 w) :
    Calls Tryz.prog 80 #[.int .i64 x] w fun e w' => e = .returned (.string ⟨(Lib.itoa x).toArray⟩) ∧ Below w.heap.size w w' :=
  (Any.strconv_Itoa Tryz.lItoa x hx.1 hx.2 w ht).mono fun _ _ ⟨h1, k, os, h2⟩ => ⟨h1, h2 ▸ Lib.below_grow _ w (Nat.le_refl _) k os⟩
theorem numT_len {x : Int} (hx : i64r x) : (numT x).length ≤ 22 := by
  have := Lib.itoa_length_le x hx.1 hx.2
  simp [numT]; omega
theorem rowT_len {r : Rw} (hr : r.wf) (hs : r.site.size ≤ 1000) : (rowT r).length ≤ 1100 := by
  have h1 := numT_len hr.a
  have h2 := numT_len hr.b
  have h3 := numT_len hr.c
  have h4 := numT_len hr.d
  have h5 : r.site.data.toList.length ≤ 1000 := hs
  simp only [rowT, List.length_append, List.length_singleton]
  omega
theorem textL_len : ∀ {l : List Rw}, (∀ r ∈ l, r.wf) → (∀ r ∈ l, r.site.size ≤ 1000) → (textL l).length ≤ 1100 * l.length
  | [], _, _ => by simp [textL]
  | r :: l, h1, h2 => by
    have a1 := textL_len (l := l) (fun r hr => h1 r (List.mem_cons_of_mem _ hr)) (fun r hr => h2 r (List.mem_cons_of_mem _ hr))
    have a2 := rowT_len (h1 r (List.mem_cons_self ..)) (h2 r (List.mem_cons_self ..))
    simp only [textL, List.flatMap_cons, List.length_append, List.length_cons] at *
    omega
theorem textL_take {l : List Rw} {k : Nat} {r : Rw} (hk : l[k]? = some r) : textL (l.take (k + 1)) = textL (l.take k) ++ rowT r := by
  rw [List.take_add_one, hk]
  simp [textL]

theorem St.cells5 {w0 w : World} {L : List HP} {b : Nat} {a0 a1 a2 a3 a4 : Value} {t : TypeId} (h : St w0 (HP.blk b #[a0, a1, a2, a3, a4] t :: L) w) :
    w.cell? ⟨b, 0, none⟩ = some a0 ∧ w.cell? ⟨b, 1, none⟩ = some a1 ∧ w.cell? ⟨b, 2, none⟩ = some a2 ∧ w.cell? ⟨b, 3, none⟩ = some a3 ∧ w.cell? ⟨b, 4, none⟩ = some a4 :=
  ⟨h.cell rfl, h.cell rfl, h.cell rfl, h.cell rfl, h.cell rfl⟩
set_option maxRecDepth 10000 in
set_option maxHeartbeats 4000000 in
theorem text_any (w : World) (a : Option Addr) (cap : Nat) (l : List Rw) (hw : ∀ r ∈ l, r.wf) (hsh : Short l) (ht : Pow10 w) (hr : RowsAt w (.slice a l.length cap) l) :
    Calls Tryz.prog 48 #[.slice a l.length cap] w fun e w' => e = .returned (.string ⟨(textL l).toArray⟩) ∧ Below w.heap.size w w' := by
  have HR := Lib.hid hr
  have HW := Lib.hid hw
  have HT := Lib.hid ht
  have HSH := Lib.hid hsh
  have hl6 := hsh.1
  have h0 := (St.start w).allocRow #[.pointer none, .slice none 0 0] 157
  have hB0 : Hid (St w [bldP w.heap.size []] (w.alloc (.cells #[.pointer none, .slice none 0 0] 157))) :=
    Lib.hid (bld_shut (.inl rfl) ⟨fun _ _ _ h => (by cases h), fun _ => rfl⟩ ((h0.arr_nil 5 1).swap))
  clear hr hw ht hsh h0
  go_enter Tryz.func48, Tryz.ntmps48
  go_wp2
  go_loopw [10] (fun i wr => ∃ k : Nat, k ≤ l.length ∧ i = .int .i64 k ∧ Hid (St w [bldP w.heap.size (textL (l.take k))] wr)) (fun i _ => l.length - (intOf i).toNat)
  case atStart => exact ⟨0, Nat.zero_le _, rfl, hB0⟩
  case round =>
    clear hB0
    obtain ⟨k, hk, rfl, HS⟩ := hrel
    by_cases hlt : k < l.length
    · obtain ⟨r, hrk⟩ : ∃ r, l[k]? = some r := ⟨l[k], List.getElem?_eq_getElem hlt⟩
      have hk0 : (0 : Int) ≤ (k : Int) := Int.natCast_nonneg _
      have hk1 : (k : Int) < (l.length : Int) := by omega
      obtain ⟨b, off, cap', e1, c0, c1, c2, c3, c4⟩ := RowsAt.at (Reads.grow HR.out HS.out.below) hrk
      have hwf := Lib.hid (HW.out r (List.mem_of_getElem? hrk))
      have HTK := Lib.hid (textL_take hrk)
      have hlen : Hid ((textL (l.take k)).length ≤ 1100 * 1000000) := Lib.hid (by
        have h1 := textL_len (l := l.take k) (fun r hr => HW.out r (List.mem_of_mem_take hr)) (fun r hr => HSH.out.2 r (List.mem_of_mem_take hr))
        have h2 := HSH.out.1
        rw [List.length_take] at h1
        have : min k l.length ≤ 1000000 := by omega
        omega)
      have hsz : Hid (r.site.size ≤ 1000) := Lib.hid (HSH.out.2 r (List.mem_of_getElem? hrk))
      injection e1 with e1 e1b e1c
      subst e1 e1c
      clear e1b hrk
      obtain ⟨s, na, nb, nc, nd⟩ := r
      simp only at c0 c1 c2 c3 c4 hsz
      have hSA := Lib.hid (HS.out.allocRow #[.string s, .int .i64 na, .int .i64 nb, .int .i64 nc, .int .i64 nd] 63)
      have hx4 : ∀ m : Nat, m < 4 → ∃ x, [na, nb, nc, nd][m]? = some x ∧ i64r x ∧ ∀ w9, (Instr.index 108 (.agg #[Value.int .i64 na, .int .i64 nb, .int .i64 nc, .int .i64 nd]) (.int .i64 (m : Int))).run Tryz.prog w9 = .ok (.int .i64 x) w9 := by
        intro m hm
        rcases (by omega : m = 0 ∨ m = 1 ∨ m = 2 ∨ m = 3) with h | h | h | h <;> subst h
        · exact ⟨_, rfl, hwf.out.a, fun w9 => by kernel_rfl⟩
        · exact ⟨_, rfl, hwf.out.b, fun w9 => by kernel_rfl⟩
        · exact ⟨_, rfl, hwf.out.c, fun w9 => by kernel_rfl⟩
        · exact ⟨_, rfl, hwf.out.d, fun w9 => by kernel_rfl⟩
      have HX := Lib.hid hx4
      have cN : Hid (∀ w3, Calls Tryz.prog 78 #[.agg #[.string s, .int .i64 na, .int .i64 nb, .int .i64 nc, .int .i64 nd]] w3 fun e w' => e = .returned (.agg #[.int .i64 na, .int .i64 nb, .int .i64 nc, .int .i64 nd]) ∧ Below w3.heap.size w3 w') := Lib.hid fun w3 => numbers_any w3 ⟨s, na, nb, nc, nd⟩
      clear HS hx4
      go_wp2_with (first
        | (go_at_call 79; refine (write_any _ _ _ _ _ _ (by have := hlen.out; have := hsz.out; omega) hSA.out.swap).mono ?_; rintro e w2 ⟨rfl, h2⟩; obtain ⟨y0, y1, y2, y3, y4⟩ := St.cells5 h2.swap; have H2 := Lib.hid h2; clear h2 hSA)
        | (go_at_call 78; refine (cN.out _).mono ?_; rintro e w3 ⟨rfl, h3⟩; have H3 := Lib.hid (H2.out.grow h3); clear h3))
      clear y0 y1 y2 y3 y4 H2 cN
      go_loopw [19] (fun i wx => ∃ m : Nat, m ≤ 4 ∧ i = .int .i64 m ∧ Hid (St w [bldP w.heap.size (textL (l.take k) ++ s.data.toList ++ ([na, nb, nc, nd].take m).flatMap numT), HP.blk wr.heap.size #[.string s, .int .i64 na, .int .i64 nb, .int .i64 nc, .int .i64 nd] 63] wx)) (fun i _ => 4 - (intOf i).toNat)
      case atStart => exact ⟨0, Nat.zero_le _, rfl, Lib.hid (by simpa using H3.out)⟩
      case round =>
        clear H3
        obtain ⟨m, hm, rfl, HM⟩ := hrel
        have hmlen : Hid ((([na, nb, nc, nd].take m).flatMap numT).length ≤ 88) := Lib.hid (by
          have a1 := numT_len hwf.out.a
          have a2 := numT_len hwf.out.b
          have a3 := numT_len hwf.out.c
          have a4 := numT_len hwf.out.d
          rcases (by omega : m = 0 ∨ m = 1 ∨ m = 2 ∨ m = 3 ∨ m = 4) with h | h | h | h | h <;> subst h <;> simp [List.flatMap_cons] at * <;> omega)
        by_cases hm4 : m = 4
        · subst hm4
          go_wp2_with (first
            | (go_at_call 79; refine (write_any _ _ _ _ _ _ (by have := hlen.out; have := hsz.out; have := hmlen.out; simp only [List.length_append]; have h10 : s.data.toList.length = s.size := rfl; have h11 : (⟨#[10]⟩ : ByteArray).size = 1 := rfl; omega) HM.out).mono ?_; rintro e w4 ⟨rfl, h4⟩; have H4 := Lib.hid h4; clear h4))
          go_roundw
          case rel =>
            refine ⟨k + 1, hlt, by go_num, Lib.hid ?_⟩
            have h5 := H4.out.swap.drop
            rw [HTK.out]
            simpa [rowT, List.flatMap_cons] using h5
          case measure => simp [intOf]; omega
        · obtain ⟨x, hx1, hx2, hx3⟩ := HX.out m (by omega)
          have m0 : (0 : Int) ≤ (m : Int) := Int.natCast_nonneg _
          have m1 : (m : Int) < 4 := by omega
          have HX1 := Lib.hid hx1
          have HX2 := Lib.hid hx2
          have HT2 := Lib.hid (HT.out.grow HM.out.below)
          clear hx1 hx2
          have hil : ¬ 9223372036854775807 < 1 + (Lib.itoa x).length := by have := Lib.itoa_length_le x HX2.out.1 HX2.out.2; omega
          have hlw : (textL (l.take k) ++ s.data.toList ++ ([na, nb, nc, nd].take m).flatMap numT).length + ((⟨#[32]⟩ : ByteArray) ++ ⟨(Lib.itoa x).toArray⟩).size ≤ 1099511627776 := by
            have h0 := Lib.itoa_length_le x HX2.out.1 HX2.out.2
            have h1 := hlen.out; have h2 := hsz.out; have h3 := hmlen.out
            have h10 : s.data.toList.length = s.size := rfl
            have h11 : ((⟨#[32]⟩ : ByteArray) ++ ⟨(Lib.itoa x).toArray⟩).size = 1 + (Lib.itoa x).length := by simp [ByteArray.size]; omega
            simp only [List.length_append]
            omega
          have HLW := Lib.hid hlw
          clear hlw
          go_wp2_with (first
            | (go_at_call 80; refine (itoa_any _ _ HX2.out HT2.out).mono ?_; rintro e w4 ⟨rfl, h4⟩; have H4 := Lib.hid (HM.out.grow h4); clear h4)
            | (go_at_call 79; refine (write_any _ _ _ _ _ _ HLW.out H4.out).mono ?_; rintro e w5 ⟨rfl, h5⟩; have H5 := Lib.hid h5; clear h5))
          go_roundw
          case rel =>
            refine ⟨m + 1, by omega, by go_num, Lib.hid ?_⟩
            have h6 := H5.out
            have h7 : ([na, nb, nc, nd].take (m + 1)).flatMap numT = ([na, nb, nc, nd].take m).flatMap numT ++ numT x := by
              rw [List.take_add_one, HX1.out]
              simp
            rw [h7]
            simpa [numT] using h6
          case measure => simp [intOf]; omega
    · have hk1 : ¬ (k : Int) < (l.length : Int) := by omega
      have hke : l.take k = l := List.take_of_length_le (by omega)
      rw [hke] at HS
      have hlen : Hid ((textL l).length ≤ 9223372036854775807) := Lib.hid (by
        have h1 := textL_len HW.out HSH.out.2
        have h2 := HSH.out.1
        omega)
      go_wp2_with (first
        | (go_at_call 81; refine (string_any _ _ _ _ _ hlen.out HS.out).mono ?_; rintro e w2 ⟨rfl, hb⟩))
      go_ret
      exact ⟨rfl, hb⟩
end Go.Proofs.YtcodjodhacjfeaaGreatDoor
end

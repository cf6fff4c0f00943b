/-
  A slice that lies in a block of the call's own; what a slice reads as; append, as laws on assertions; for whatever program.
-/
import Derived.Test.YtcodjodhacjfeaaGreatDoorSl
import Derived.Deep.AppendLies
namespace Go.Proofs.YtcodjodhacjfeaaGreatDoor
open Go.RowKit

/-- The slice 'v' reads as 'n' elements of 'sz' cells each: these cells. -/
def Reads (w : World) (sz : Nat) (v : Value) (n : Nat) (xs : List Value) : Prop :=
  xs.length = n * sz ∧ ((v = .slice none 0 0 ∧ n = 0) ∨
    ∃ b off sp cap, v = .slice (some ⟨b, off, sp⟩) n cap ∧ n ≤ cap ∧ (sp = none ∨ n = 0) ∧ ∀ i x, xs[i]? = some x → w.cell? ⟨b, off + i, none⟩ = some x)

/-- The slice 'v' of 'n' elements of type 't' ('sz' cells each) lies in a block of its own, from some cell on; its cells are these. -/
def HP.arr (t : TypeId) (sz : Nat) (v : Value) (n : Nat) (xs : List Value) : HP := ⟨fun m =>
  xs.length = n * sz ∧ ((v = .slice none 0 0 ∧ n = 0 ∧ m = HL.none) ∨
    ∃ b off cap c, v = .slice (some ⟨b, off, none⟩) n cap ∧ n ≤ cap ∧ cap ≤ maxLen ∧ off + cap * sz ≤ c.size ∧ (∀ i x, xs[i]? = some x → c[off + i]? = some x) ∧
      m = HL.one b (.cells c t (0, 0)))⟩

section
variable {w0 w : World} {F : List HP} {t : TypeId} {sz : Nat} {v : Value} {n : Nat} {xs : List Value}

theorem Reads.nil (w : World) (sz : Nat) : Reads w sz (.slice none 0 0) 0 [] := ⟨by simp, .inl ⟨rfl, rfl⟩⟩
theorem Reads.of_cells {w w' : World} (h : Reads w sz v n xs) (hc : ∀ b o x, w.cell? ⟨b, o, none⟩ = some x → w'.cell? ⟨b, o, none⟩ = some x) : Reads w' sz v n xs := by
  refine ⟨h.1, ?_⟩
  rcases h.2 with h | ⟨b, off, sp, cap, hv, hn, hsp, h⟩
  · exact .inl h
  · exact .inr ⟨b, off, sp, cap, hv, hn, hsp, fun i x hx => hc _ _ _ (h i x hx)⟩
theorem Reads.same_heap {w w' : World} (h : Reads w sz v n xs) (he : w'.heap = w.heap) : Reads w' sz v n xs :=
  h.of_cells fun b o x hx => by simpa [World.cell?, he] using hx
theorem Reads.alloc {w : World} (h : Reads w sz v n xs) (o : Obj) : Reads (w.alloc o) sz v n xs :=
  h.of_cells fun b k x hx => by
    have hb := World.block_lt_of_cell? w _ hx
    rw [← hx]
    exact World.cell?_of_block (heap_alloc_old w o hb)
theorem Reads.drew {w : World} (h : Reads w sz v n xs) : Reads w.drew sz v n xs := h.same_heap rfl
/-- a slice of what came in -/
theorem St.reads0 {A : List HP} (h : St w0 A w) (hr : Reads w0 sz v n xs) : Reads w sz v n xs :=
  hr.of_cells fun _ _ _ hx => (h.was (World.block_lt_of_cell? w0 _ hx)).trans hx
theorem HP.arr_reads (h : St w0 (HP.arr t sz v n xs :: F) w) : Reads w sz v n xs := by
  obtain ⟨_, m, ⟨m1, m2, _, e, h1, _⟩, hc⟩ := h
  refine ⟨h1.1, ?_⟩
  rcases h1.2 with ⟨hv, hn, _⟩ | ⟨b, off, cap, c, hv, hn, _, _, hx, hm⟩
  · exact .inl ⟨hv, hn⟩
  · refine .inr ⟨b, off, none, cap, hv, hn, .inl rfl, fun i x hi => ?_⟩
    have := (hc b (.cells c t (0, 0)) (by rw [e, hm]; simp [HL.join, HL.one])).2
    simp [World.cell?, this, hx i x hi]
theorem HP.arr_form (h : St w0 (HP.arr t sz v n xs :: F) w) : (v = .slice none 0 0 ∧ n = 0) ∨ ∃ b off cap, v = .slice (some ⟨b, off, none⟩) n cap ∧ n ≤ cap := by
  obtain ⟨_, m, ⟨m1, m2, _, e, h1, _⟩, hc⟩ := h
  rcases h1.2 with ⟨hv, hn, _⟩ | ⟨b, off, cap, c, hv, hn, _⟩
  · exact .inl ⟨hv, hn⟩
  · exact .inr ⟨b, off, cap, hv, hn⟩
theorem Reads.len (h : Reads w sz v n xs) : xs.length = n * sz := h.1
theorem Reads.form (h : Reads w sz v n xs) : ∃ a cap, v = .slice a n cap := by
  rcases h.2 with ⟨rfl, rfl⟩ | ⟨b, off, sp, cap, rfl, _⟩
  · exact ⟨_, _, rfl⟩
  · exact ⟨_, _, rfl⟩
/-- where it lies, if it has an element -/
theorem Reads.lies (h : Reads w sz v n xs) (hn : 0 < n) : ∃ b off cap, v = .slice (some ⟨b, off, none⟩) n cap ∧ n ≤ cap ∧ ∀ i x, xs[i]? = some x → w.cell? ⟨b, off + i, none⟩ = some x := by
  rcases h.2 with ⟨_, h0⟩ | ⟨b, off, sp, cap, hv, hn', hsp, hc⟩
  · omega
  · rcases hsp with rfl | h0
    · exact ⟨b, off, cap, hv, hn', hc⟩
    · omega
theorem St.arr_nil {A : List HP} (h : St w0 A w) (t : TypeId) (sz : Nat) : St w0 (HP.arr t sz (.slice none 0 0) 0 [] :: A) w :=
  h.monol fun m a => ⟨HL.none, m, HL.apart_none m, rfl, ⟨by simp, .inl ⟨rfl, rfl, rfl⟩⟩, a⟩
theorem HP.arr_of_blk {b off cap : Nat} {c : Array Value} (hl : xs.length = n * sz) (hn : n ≤ cap) (hm : cap ≤ maxLen) (hs : off + cap * sz ≤ c.size) (hx : ∀ i x, xs[i]? = some x → c[off + i]? = some x) :
    ∀ m, (HP.blk b c t).sat m → (HP.arr t sz (.slice (some ⟨b, off, none⟩) n cap) n xs).sat m := fun _ h => ⟨hl, .inr ⟨b, off, cap, c, rfl, hn, hm, hs, hx, h⟩⟩

/-- a new row, full -/
theorem St.newArr (h : St w0 F w) (t : TypeId) (sz n : Nat) (xs : List Value) (hl : xs.length = n * sz) (hm : n ≤ maxLen) :
    St w0 (HP.arr t sz (.slice (some ⟨w.heap.size, 0, none⟩) n n) n xs :: F) (w.alloc (.cells xs.toArray t)) :=
  (h.allocRow xs.toArray t).mono (HP.arr_of_blk hl (Nat.le_refl n) hm (by simp [hl]) fun i x hx => by simpa using hx)
/-- 'v[:k]' or 'v[:k:cap']', k at most the length -/
theorem HP.arr_cut {a : Addr} {n k cap cap' : Nat} (hk : k ≤ n) (hkc : k ≤ cap') (hc' : cap' ≤ cap) (m : HL) : (HP.arr t sz (.slice (some a) n cap) n xs).sat m → (HP.arr t sz (.slice (some a) k cap') k (xs.take (k * sz))).sat m := by
  rintro ⟨hl, ⟨hv, _⟩ | ⟨b, off, cap1, c, hv, hn, hm, hs, hx, hc⟩⟩
  · cases hv
  · cases hv
    have hks : k * sz ≤ n * sz := Nat.mul_le_mul_right _ hk
    have hcs : cap' * sz ≤ cap * sz := Nat.mul_le_mul_right _ hc'
    refine ⟨by rw [List.length_take]; omega, .inr ⟨b, off, cap', c, rfl, hkc, by omega, by omega, fun i x hi => hx i x ?_, hc⟩⟩
    rw [List.getElem?_take] at hi
    split at hi
    · exact hi
    · cases hi
theorem HP.arr_take {a : Addr} {n k cap : Nat} (hk : k ≤ n) (hn : n ≤ cap) (m : HL) : (HP.arr t sz (.slice (some a) n cap) n xs).sat m → (HP.arr t sz (.slice (some a) k cap) k (xs.take (k * sz))).sat m :=
  HP.arr_cut hk (by omega) (Nat.le_refl _) m
/-- 'v[k:]' -/
theorem Reads.from {b off off' n k cap cap' : Nat} (h : Reads w 1 (.slice (some ⟨b, off, none⟩) n cap) n xs) (hk : k ≤ n) (hp : (off' = off + k ∧ cap' = cap - k) ∨ n - k = 0) :
    Reads w 1 (.slice (some ⟨b, off', none⟩) (n - k) cap') (n - k) (xs.drop k) := by
  have hl : xs.length = n := by simpa using h.1
  rcases h.2 with ⟨h, _⟩ | ⟨b1, off1, sp1, cap1, hv, hn, _, hc⟩
  · cases h
  · cases hv
    refine ⟨by rw [List.length_drop]; omega, .inr ⟨b, off', none, cap', rfl, ?_, .inl rfl, fun i x hi => ?_⟩⟩
    · rcases hp with ⟨_, h⟩ | h <;> omega
    · rw [List.getElem?_drop] at hi
      rcases hp with ⟨h, _⟩ | h
      · rw [h, Nat.add_assoc]; exact hc _ _ hi
      · rw [List.getElem?_eq_none (by omega)] at hi; cases hi
theorem Reads.firstCells {P : Program} (h : Reads w sz v n xs) : (Builtin.firstCells sz n v).run P w = .ok xs.toArray w := by
  rcases h.2 with ⟨rfl, rfl⟩ | ⟨b, off, sp, cap, rfl, _, rfl | rfl, hc⟩
  · have : xs = [] := List.eq_nil_of_length_eq_zero (by simpa using h.1)
    subst this
    exact run_firstCells_none w sz 0 0 0
  rotate_left
  · have : xs = [] := List.eq_nil_of_length_eq_zero (by simpa using h.1)
    subst this
    exact run_firstCells_some w sz 0 ⟨b, off, sp⟩ 0 cap [] (by simp) (fun j x hx => by simp at hx)
  · refine run_firstCells_some w sz n ⟨b, off, none⟩ n cap xs h.1 fun j x hx => ?_
    rw [Addr.add_lit]
    exact hc j x hx
theorem Reads.lenOf {P : Program} (h : Reads w sz v n xs) : (Builtin.lenOf v).run P w = .ok n w := by
  obtain ⟨a, cap, rfl⟩ := h.form
  simp [Builtin.lenOf]

/-- 'append(v, x...)' -/
theorem run_append_st {P : Program} (tt ty e : TypeId) (i : TypeInfo) (z : Value) (size bytes : Nat) (ht : P.underlying tt = some (.slice e)) (hi : P.info? e = some i) (hz : i.zero = some z)
    (hsize : i.size = size) (hby : i.bytes = bytes) (hzs : z.cells.size = size)
    (h : St w0 (HP.arr e size v n xs :: F) w) (x : Value) (k : Nat) (ys : List Value) (hr : Reads w size x k ys) (h1 : ∀ u ∈ ys, u.oneCell' = true)
    (h63 : n + k ≤ maxLen) (hbytes : (n + k) * bytes ≤ 140737488355328) :
    ∃ v' w', (Builtin.append_ #[tt, tt] ty #[v, x]).run P w = .ok v' w' ∧ St w0 (HP.arr e size v' (n + k) (xs ++ ys) :: F) w' ∧ (v' = .slice none 0 0 ↔ v = .slice none 0 0 ∧ k = 0) := by
  subst hsize
  subst hby
  have hsmall : n + k ≤ 9223372036854775807 := by simp only [maxLen] at h63; omega
  have hlx : xs.length = n * i.size := by
    obtain ⟨_, m, ⟨m1, m2, _, e, h1, _⟩, hc⟩ := h
    exact h1.1
  have hlen : (xs ++ ys).length = (n + k) * i.size := by rw [List.length_append, hlx, hr.len, Nat.add_mul]
  have hrv : Reads w i.size v n xs := HP.arr_reads h
  -- a new row
  have grown : ∀ (cap : Nat), n + k ≤ cap → cap ≤ maxLen → ∀ (w1 : World), w1 = w.drew →
      St w0 (HP.arr e i.size (.slice (some ⟨w.heap.size, 0, none⟩) (n + k) cap) (n + k) (xs ++ ys) :: F) (w1.alloc (.cells (xs.toArray ++ ys.toArray ++ Builtin.zeroCells z.cells (cap - (n + k))) e)) := by
    intro cap hc hcm w1 hw1
    subst hw1
    have h2 := h.drop.drew.allocRow (xs.toArray ++ ys.toArray ++ Builtin.zeroCells z.cells (cap - (n + k))) e
    refine h2.mono (HP.arr_of_blk hlen hc hcm ?_ fun j u hu => ?_)
    · simp only [Array.size_append, List.size_toArray, size_zeroCells, hzs, hlx, hr.len, ← Nat.add_mul]
      rw [Nat.zero_add]
      exact Nat.mul_le_mul_right _ (by omega)
    · have hj : j < (xs ++ ys).length := (List.getElem?_eq_some_iff.1 hu).1
      rw [Nat.zero_add, Array.getElem?_append_left (by simpa using hj), List.append_toArray, List.getElem?_toArray]
      exact hu
  by_cases hroom : ∃ a cap, v = .slice a n cap ∧ n + k ≤ cap
  · obtain ⟨a, cap, rfl, hroom⟩ := hroom
    obtain ⟨hb, m, ⟨m1, m2, ha, em, hA, hF⟩, hc⟩ := h
    rcases hA.2 with ⟨hv, hn, _⟩ | ⟨b, off, cap', c, hv, hn, hcm, hcs, hx, hm⟩
    · cases hv
      have hk : k = 0 := by omega
      subst hk
      have : ys = [] := List.eq_nil_of_length_eq_zero (by simpa using hr.len)
      subst this
      have : xs = [] := List.eq_nil_of_length_eq_zero (by simpa using hlx)
      subst this
      refine ⟨.slice none 0 0, w, ?_, ⟨hb, m, ⟨m1, m2, ha, em, hA, hF⟩, hc⟩, by simp⟩
      simp [Builtin.append_, run_underlying ht, sizeOf, typeInfo, hi, hr.lenOf, hr.firstCells]
    · cases hv
      have hblk : St w0 (HP.blk b c e :: F) w := ⟨hb, m, ⟨m1, m2, ha, em, hm, hF⟩, hc⟩
      have hfit : (off + n * i.size) + ys.length ≤ c.size := by
        rw [hr.len]
        have : n * i.size + k * i.size ≤ cap * i.size := by rw [← Nat.add_mul]; exact Nat.mul_le_mul_right _ hroom
        omega
      have hst := run_storeCells_at P b (off + n * i.size) e ys 0 c w hblk.row (by simpa using hfit) h1
      simp only [Nat.add_zero] at hst
      refine ⟨.slice (some ⟨b, off, none⟩) (n + k) cap, _, ?_, (hblk.setRow (c' := (c.toList.take (off + n * i.size) ++ ys ++ c.toList.drop (off + n * i.size + ys.length)).toArray)).mono (HP.arr_of_blk hlen hroom hcm ?_ fun j u hu => ?_), ?_⟩
      · simp [Builtin.append_, run_underlying ht, sizeOf, typeInfo, hi, hr.lenOf, hroom, hr.firstCells, Addr.add_lit, hst]
      · simp only [List.size_toArray, List.length_append, List.length_take, List.length_drop, Array.length_toList]
        omega
      · have hj : j < (xs ++ ys).length := (List.getElem?_eq_some_iff.1 hu).1
        rw [List.length_append] at hj
        rw [List.getElem?_toArray, List.append_assoc]
        by_cases hjx : j < xs.length
        · rw [List.getElem?_append_left hjx] at hu
          rw [List.getElem?_append_left (by rw [List.length_take, Array.length_toList]; omega), List.getElem?_take_of_lt (by omega), Array.getElem?_toList]
          exact hx j u hu
        · rw [List.getElem?_append_right (by omega)] at hu
          have ht : (c.toList.take (off + n * i.size)).length = off + n * i.size := by rw [List.length_take, Array.length_toList]; omega
          rw [List.getElem?_append_right (by rw [ht]; omega), ht, List.getElem?_append_left (by omega)]
          rw [← hu]
          congr 1
          omega
      · simp
  · obtain ⟨a, cap, rfl⟩ := hrv.form
    have hcap : cap < n + k := by
      rcases Nat.lt_or_ge cap (n + k) with h | h
      · exact h
      · exact absurd ⟨a, cap, rfl, h⟩ hroom
    have hge := grownCap_ge w (n + k) cap e
    have hcm : grownCap w (n + k) cap e ≤ maxLen := grownCap_le_maxLen w (n + k) cap e h63
    have hfit := growslice_fits (bytes := i.bytes) hcap hbytes
    have hn : ¬ (n + k ≤ cap) := by omega
    have h63' : ¬ (9223372036854775807 < ((n : Int) + (k : Int))) := by omega
    have h48' : ¬ (281474976710656 < Builtin.nextslicecap (n + k) cap * i.bytes) := by omega
    refine ⟨_, _, ?_, grown _ hge hcm w.drew rfl, ?_⟩
    · have hf := (hr.drew).firstCells (P := P)
      have hfo := (hrv.drew).firstCells (P := P)
      simp [Builtin.append_, run_underlying ht, sizeOf, typeInfo, zeroValue, hi, hz, hr.lenOf, hn, h63', h48', Question.forced, hf, hfo, newRow, grownCap]
      congr 2
      apply Array.ext'
      simp [List.append_assoc]
    · have : k ≠ 0 := by
        intro hk
        subst hk
        rcases hrv.2 with ⟨hv, h0⟩ | ⟨_, _, _, _, hv, hle, _⟩
        · omega
        · cases hv; omega
      simp [this]
theorem wp_append_st {P : Program} {o : Oper} {a : Act} {K : Act → World → Prop} {Q : Exit → Act → World → Prop} (s x : Operand) (tt : TypeId)
    (ho : o.op = .call { callee := .builtin .append, args := #[s, x], argTypes := #[tt, tt] })
    (e : TypeId) (i : TypeInfo) (z : Value) (size bytes : Nat) (ht : P.underlying tt = some (.slice e)) (hi : P.info? e = some i) (hz : i.zero = some z)
    (hsize : i.size = size) (hby : i.bytes = bytes) (hzs : z.cells.size = size)
    (v y : Value) (hs : a.eval s = v) (hy : a.eval x = y) (n : Nat) (xs : List Value) (h : St w0 (HP.arr e size v n xs :: F) w) (k : Nat) (ys : List Value) (hr : Reads w size y k ys) (h1 : ∀ u ∈ ys, u.oneCell' = true)
    (h63 : n + k ≤ maxLen) (hbytes : (n + k) * bytes ≤ 140737488355328)
    (hK : ∀ v' w', St w0 (HP.arr e size v' (n + k) (xs ++ ys) :: F) w' → (v' = .slice none 0 0 ↔ v = .slice none 0 0 ∧ k = 0) → K (a.put o.dst v') w') : o.wp P a w K Q := by
  obtain ⟨v', w', hrun, h2, h3⟩ := run_append_st (P := P) tt o.type e i z size bytes ht hi hz hsize hby hzs h y k ys hr h1 h63 hbytes
  unfold Oper.wp execOp
  simp only [ho, resolve, invoke, builtin, Sem.run_bind, Sem.run_pure, Result.andThen_ok, List.map_toArray, List.map_cons, List.map_nil, hs, hy, hrun]
  exact hK v' w' h2 h3
/-- for the walk -/
theorem wpList_append_st {P : Program} {ops : Array Oper} {rest : List Oper} {o : Oper} {a : Act} {Q : Exit → Act → World → Prop} (hgd : o.guard = none) (s x : Operand) (tt : TypeId)
    (ho : o.op = .call { callee := .builtin .append, args := #[s, x], argTypes := #[tt, tt] })
    (e : TypeId) (i : TypeInfo) (z : Value) (size bytes : Nat) (ht : P.underlying tt = some (.slice e)) (hi : P.info? e = some i) (hz : i.zero = some z)
    (hsize : i.size = size) (hby : i.bytes = bytes) (hzs : z.cells.size = size)
    (v y : Value) (hs : a.eval s = v) (hy : a.eval x = y) (n : Nat) (xs : List Value) (h : St w0 (HP.arr e size v n xs :: F) w) (k : Nat) (ys : List Value) (hr : Reads w size y k ys) (h1 : ∀ u ∈ ys, u.oneCell' = true)
    (h63 : n + k ≤ maxLen) (hbytes : (n + k) * bytes ≤ 140737488355328)
    (hK : ∀ v' w', St w0 (HP.arr e size v' (n + k) (xs ++ ys) :: F) w' → (v' = .slice none 0 0 ↔ v = .slice none 0 0 ∧ k = 0) → wpList P ops Q rest (a.put o.dst v') w') : wpList P ops Q (o :: rest) a w :=
  wpList_plain hgd fun _ hK' => wp_append_st s x tt ho e i z size bytes ht hi hz hsize hby hzs v y hs hy n xs h k ys hr h1 h63 hbytes fun v' w' h2 h3 => hK' _ _ (hK v' w' h2 h3)
/-- at a step of a region that draws -/
theorem step_append_st {P : Program} {ops : Array Oper} {o : Oper} {a : Act} {K : Act → World → Prop} {Q : Exit → Act → World → Prop} {E : Prop} (hgd : o.guard = none) (s x : Operand) (tt : TypeId)
    (ho : o.op = .call { callee := .builtin .append, args := #[s, x], argTypes := #[tt, tt] })
    (e : TypeId) (i : TypeInfo) (z : Value) (size bytes : Nat) (ht : P.underlying tt = some (.slice e)) (hi : P.info? e = some i) (hz : i.zero = some z)
    (hsize : i.size = size) (hby : i.bytes = bytes) (hzs : z.cells.size = size)
    (v y : Value) (hs : a.eval s = v) (hy : a.eval x = y) (n : Nat) (xs : List Value) (h : St w0 (HP.arr e size v n xs :: F) w) (k : Nat) (ys : List Value) (hr : Reads w size y k ys) (h1 : ∀ u ∈ ys, u.oneCell' = true)
    (h63 : n + k ≤ maxLen) (hbytes : (n + k) * bytes ≤ 140737488355328)
    (hK : ∀ v' w', St w0 (HP.arr e size v' (n + k) (xs ++ ys) :: F) w' → (v' = .slice none 0 0 ↔ v = .slice none 0 0 ∧ k = 0) → K (a.put o.dst v') w') :
    if Region.wanted o (yielded ops a.tmps) = true then Oper.wp P o a w K Q else E := by
  have hw : Region.wanted o (yielded ops a.tmps) = true := by simp [Region.wanted, hgd]
  rw [if_pos hw]
  exact wp_append_st s x tt ho e i z size bytes ht hi hz hsize hby hzs v y hs hy n xs h k ys hr h1 h63 hbytes hK
end
end Go.Proofs.YtcodjodhacjfeaaGreatDoor

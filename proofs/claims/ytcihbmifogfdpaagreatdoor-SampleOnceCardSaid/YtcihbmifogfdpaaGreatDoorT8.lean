/-
  text.
-/
import Derived.Test.YtcihbmifogfdpaaGreatDoorT7
import Derived.Lib.ItoaLen
import Derived.Lib.AppendIntMem
namespace Go.Proofs.YtcihbmifogfdpaaGreatDoor
open Go.RowKit

def numT (x : Int) : List UInt8 := 32 :: Lib.itoa x
def rowT (r : Rw) : List UInt8 := r.site.data.toList ++ (numT r.a ++ numT r.b ++ numT r.c ++ numT r.d) ++ [10]
def textL (l : List Rw) : List UInt8 := l.flatMap rowT
/-- rows whose text is short -/
def Short (l : List Rw) : Prop := l.length ≤ 1000000 ∧ ∀ r ∈ l, r.site.size ≤ 1000
def Pow10 (w : World) : Prop := Lib.TabIs Tryz.prog w "internal/strconv.uint64pow10" .u64 Lib.pow10Tab
theorem Pow10.grow {w w' : World} (h : Pow10 w) (hb : Below w.heap.size w w') : Pow10 w' := by
  unfold Pow10 Lib.TabIs World.var? at *
  cases hg : Tryz.prog.globalNamed "internal/strconv.uint64pow10" with
  | none => rw [hg] at h; cases h
  | some g =>
    rw [hg] at h
    simp only [Option.bind_some] at h ⊢
    cases hb2 : w.heap[g]? with
    | none => rw [hb2] at h; cases h
    | some o =>
      rw [hb.block g (Array.getElem?_eq_some_iff.1 hb2).1]
      exact h
theorem itoa_any (w : World) (x : Int) (hx : i64r x) (ht : Pow10 w) :
    Calls Tryz.prog 92 #[.int .i64 x] w fun e w' => e = .returned (.string ⟨(Lib.itoa x).toArray⟩) ∧ Below w.heap.size w w' :=
  (Any.strconv_Itoa Tryz.lItoa x hx.1 hx.2 w ht).mono fun e w' ⟨h1, k, os, h2⟩ => ⟨h1, h2 ▸ Lib.below_grow _ w (Nat.le_refl _) k os⟩
theorem numT_len {x : Int} (hx : i64r x) : (numT x).length ≤ 22 := by
  have := Lib.itoa_length_le x hx.1 hx.2
  simp [numT]; omega
theorem rowT_len {r : Rw} (hr : r.wf) (hs : r.site.size ≤ 1000) : (rowT r).length ≤ 1100 := by
  have h1 := numT_len hr.a
  have h2 := numT_len hr.b
  have h3 := numT_len hr.c
  have h4 := numT_len hr.d
  have h5 : r.site.data.toList.length ≤ 1000 := hs
  simp only [rowT, List.length_append, List.length_singleton]
  omega
theorem textL_len : ∀ {l : List Rw}, (∀ r ∈ l, r.wf) → (∀ r ∈ l, r.site.size ≤ 1000) → (textL l).length ≤ 1100 * l.length
  | [], _, _ => by simp [textL]
  | r :: l, h1, h2 => by
    have a1 := textL_len (l := l) (fun r hr => h1 r (List.mem_cons_of_mem _ hr)) (fun r hr => h2 r (List.mem_cons_of_mem _ hr))
    have a2 := rowT_len (h1 r (List.mem_cons_self ..)) (h2 r (List.mem_cons_self ..))
    simp only [textL, List.flatMap_cons, List.length_append, List.length_cons] at *
    omega
theorem textL_take {l : List Rw} {k : Nat} {r : Rw} (hk : l[k]? = some r) : textL (l.take (k + 1)) = textL (l.take k) ++ rowT r := by
  rw [List.take_add_one, hk]
  simp [textL]

theorem St.cells5 {w0 w : World} {L : List HP} {b : Nat} {a0 a1 a2 a3 a4 : Value} {t : TypeId} (h : St w0 (HP.blk b #[a0, a1, a2, a3, a4] t :: L) w) :
    w.cell? ⟨b, 0, none⟩ = some a0 ∧ w.cell? ⟨b, 1, none⟩ = some a1 ∧ w.cell? ⟨b, 2, none⟩ = some a2 ∧ w.cell? ⟨b, 3, none⟩ = some a3 ∧ w.cell? ⟨b, 4, none⟩ = some a4 :=
  ⟨h.cell rfl, h.cell rfl, h.cell rfl, h.cell rfl, h.cell rfl⟩
set_option maxRecDepth 10000 in
set_option maxHeartbeats 4000000 in
theorem text_any (w : World) (a : Option Addr) (cap : Nat) (l : List Rw) (hw : ∀ r ∈ l, r.wf) (hsh : Short l) (ht : Pow10 w) (hr : RowsAt w (.slice a l.length cap) l) :
    Calls Tryz.prog 48 #[.slice a l.length cap] w fun e w' => e = .returned (.string ⟨(textL l).toArray⟩) ∧ Below w.heap.size w w' := by
  have HR := Lib.hid hr
  have HW := Lib.hid hw
  have HT := Lib.hid ht
  have HSH := Lib.hid hsh
  have hl6 := hsh.1
  have h0 := (St.start w).allocRow #[.pointer none, .slice none 0 0] 156
  have hB0 : Hid (St w [bldP w.heap.size []] (w.alloc (.cells #[.pointer none, .slice none 0 0] 156))) :=
    Lib.hid (bld_shut (.inl rfl) ⟨fun _ _ _ h => (by cases h), fun _ => rfl⟩ ((h0.arr_nil 5 1).swap))
  clear hr hw ht hsh h0
  go_enter Tryz.func48, Tryz.ntmps48
  go_wp2
  go_loopw [10] (fun i wr => ∃ k : Nat, k ≤ l.length ∧ i = .int .i64 k ∧ Hid (St w [bldP w.heap.size (textL (l.take k))] wr)) (fun i _ => l.length - (intOf i).toNat)
  case atStart => exact ⟨0, Nat.zero_le _, rfl, hB0⟩
  case round =>
    clear hB0
    obtain ⟨k, hk, rfl, HS⟩ := hrel
    by_cases hlt : k < l.length
    · obtain ⟨r, hrk⟩ : ∃ r, l[k]? = some r := ⟨l[k], List.getElem?_eq_getElem hlt⟩
      have hk0 : (0 : Int) ≤ (k : Int) := Int.natCast_nonneg _
      have hk1 : (k : Int) < (l.length : Int) := by omega
      obtain ⟨b, off, cap', e1, c0, c1, c2, c3, c4⟩ := RowsAt.at (Reads.grow HR.out HS.out.below) hrk
      have hwf := Lib.hid (HW.out r (List.mem_of_getElem? hrk))
      have HTK := Lib.hid (textL_take hrk)
      have hlen : Hid ((textL (l.take k)).length ≤ 1100 * 1000000) := Lib.hid (by
        have h1 := textL_len (l := l.take k) (fun r hr => HW.out r (List.mem_of_mem_take hr)) (fun r hr => HSH.out.2 r (List.mem_of_mem_take hr))
        have h2 := HSH.out.1
        rw [List.length_take] at h1
        have : min k l.length ≤ 1000000 := by omega
        omega)
      have hsz : Hid (r.site.size ≤ 1000) := Lib.hid (HSH.out.2 r (List.mem_of_getElem? hrk))
      injection e1 with e1 e1b e1c
      subst e1 e1c
      clear e1b hrk
      obtain ⟨s, na, nb, nc, nd⟩ := r
      simp only at c0 c1 c2 c3 c4 hsz
      have hSA := Lib.hid (HS.out.allocRow #[.string s, .int .i64 na, .int .i64 nb, .int .i64 nc, .int .i64 nd] 47)
      have hx4 : ∀ m : Nat, m < 4 → ∃ x, [na, nb, nc, nd][m]? = some x ∧ i64r x ∧ ∀ w9, (Instr.index 105 (.agg #[Value.int .i64 na, .int .i64 nb, .int .i64 nc, .int .i64 nd]) (.int .i64 (m : Int))).run Tryz.prog w9 = .ok (.int .i64 x) w9 := by
        intro m hm
        rcases (by omega : m = 0 ∨ m = 1 ∨ m = 2 ∨ m = 3) with h | h | h | h <;> subst h
        · exact ⟨_, rfl, hwf.out.a, fun w9 => by kernel_rfl⟩
        · exact ⟨_, rfl, hwf.out.b, fun w9 => by kernel_rfl⟩
        · exact ⟨_, rfl, hwf.out.c, fun w9 => by kernel_rfl⟩
        · exact ⟨_, rfl, hwf.out.d, fun w9 => by kernel_rfl⟩
      have HX := Lib.hid hx4
      have cN : Hid (∀ w3, Calls Tryz.prog 90 #[.agg #[.string s, .int .i64 na, .int .i64 nb, .int .i64 nc, .int .i64 nd]] w3 fun e w' => e = .returned (.agg #[.int .i64 na, .int .i64 nb, .int .i64 nc, .int .i64 nd]) ∧ Below w3.heap.size w3 w') := Lib.hid fun w3 => numbers_any w3 ⟨s, na, nb, nc, nd⟩
      clear HS hx4
      go_wp2_with (first
        | (go_at_call 91; refine (write_any _ _ _ _ _ _ (by have := hlen.out; have := hsz.out; omega) hSA.out.swap).mono ?_; rintro e w2 ⟨rfl, h2⟩; obtain ⟨y0, y1, y2, y3, y4⟩ := St.cells5 h2.swap; have H2 := Lib.hid h2; clear h2 hSA)
        | (go_at_call 90; refine (cN.out _).mono ?_; rintro e w3 ⟨rfl, h3⟩; have H3 := Lib.hid (H2.out.grow h3); clear h3))
      clear y0 y1 y2 y3 y4 H2 cN
      go_loopw [19] (fun i wx => ∃ m : Nat, m ≤ 4 ∧ i = .int .i64 m ∧ Hid (St w [bldP w.heap.size (textL (l.take k) ++ s.data.toList ++ ([na, nb, nc, nd].take m).flatMap numT), HP.blk wr.heap.size #[.string s, .int .i64 na, .int .i64 nb, .int .i64 nc, .int .i64 nd] 47] wx)) (fun i _ => 4 - (intOf i).toNat)
      case atStart => exact ⟨0, Nat.zero_le _, rfl, Lib.hid (by simpa using H3.out)⟩
      case round =>
        clear H3
        obtain ⟨m, hm, rfl, HM⟩ := hrel
        have hmlen : Hid ((([na, nb, nc, nd].take m).flatMap numT).length ≤ 88) := Lib.hid (by
          have a1 := numT_len hwf.out.a
          have a2 := numT_len hwf.out.b
          have a3 := numT_len hwf.out.c
          have a4 := numT_len hwf.out.d
          rcases (by omega : m = 0 ∨ m = 1 ∨ m = 2 ∨ m = 3 ∨ m = 4) with h | h | h | h | h <;> subst h <;> simp [List.flatMap_cons] at * <;> omega)
        by_cases hm4 : m = 4
        · subst hm4
          go_wp2_with (first
            | (go_at_call 91; refine (write_any _ _ _ _ _ _ (by have := hlen.out; have := hsz.out; have := hmlen.out; simp only [List.length_append]; have h10 : s.data.toList.length = s.size := rfl; have h11 : (⟨#[10]⟩ : ByteArray).size = 1 := rfl; omega) HM.out).mono ?_; rintro e w4 ⟨rfl, h4⟩; have H4 := Lib.hid h4; clear h4))
          go_roundw
          case rel =>
            refine ⟨k + 1, hlt, by go_num, Lib.hid ?_⟩
            have h5 := H4.out.swap.drop
            rw [HTK.out]
            simpa [rowT, List.flatMap_cons] using h5
          case measure => simp [intOf]; omega
        · obtain ⟨x, hx1, hx2, hx3⟩ := HX.out m (by omega)
          have m0 : (0 : Int) ≤ (m : Int) := Int.natCast_nonneg _
          have m1 : (m : Int) < 4 := by omega
          have HX1 := Lib.hid hx1
          have HX2 := Lib.hid hx2
          have HT2 := Lib.hid (HT.out.grow HM.out.below)
          clear hx1 hx2
          have hil : ¬ 9223372036854775807 < 1 + (Lib.itoa x).length := by have := Lib.itoa_length_le x HX2.out.1 HX2.out.2; omega
          have hlw : (textL (l.take k) ++ s.data.toList ++ ([na, nb, nc, nd].take m).flatMap numT).length + ((⟨#[32]⟩ : ByteArray) ++ ⟨(Lib.itoa x).toArray⟩).size ≤ 1099511627776 := by
            have h0 := Lib.itoa_length_le x HX2.out.1 HX2.out.2
            have h1 := hlen.out; have h2 := hsz.out; have h3 := hmlen.out
            have h10 : s.data.toList.length = s.size := rfl
            have h11 : ((⟨#[32]⟩ : ByteArray) ++ ⟨(Lib.itoa x).toArray⟩).size = 1 + (Lib.itoa x).length := by simp [ByteArray.size]; omega
            simp only [List.length_append]
            omega
          have HLW := Lib.hid hlw
          clear hlw
          go_wp2_with (first
            | (go_at_call 92; refine (itoa_any _ _ HX2.out HT2.out).mono ?_; rintro e w4 ⟨rfl, h4⟩; have H4 := Lib.hid (HM.out.grow h4); clear h4)
            | (go_at_call 91; refine (write_any _ _ _ _ _ _ HLW.out H4.out).mono ?_; rintro e w5 ⟨rfl, h5⟩; have H5 := Lib.hid h5; clear h5))
          go_roundw
          case rel =>
            refine ⟨m + 1, by omega, by go_num, Lib.hid ?_⟩
            have h6 := H5.out
            have h7 : ([na, nb, nc, nd].take (m + 1)).flatMap numT = ([na, nb, nc, nd].take m).flatMap numT ++ numT x := by
              rw [List.take_add_one, HX1.out]
              simp
            rw [h7]
            simpa [numT] using h6
          case measure => simp [intOf]; omega
    · have hk1 : ¬ (k : Int) < (l.length : Int) := by omega
      have hke : l.take k = l := List.take_of_length_le (by omega)
      rw [hke] at HS
      have hlen : Hid ((textL l).length ≤ 9223372036854775807) := Lib.hid (by
        have h1 := textL_len HW.out HSH.out.2
        have h2 := HSH.out.1
        omega)
      go_wp2_with (first
        | (go_at_call 93; refine (string_any _ _ _ _ _ hlen.out HS.out).mono ?_; rintro e w2 ⟨rfl, hb⟩))
      go_ret
      exact ⟨rfl, hb⟩
end Go.Proofs.YtcihbmifogfdpaaGreatDoor

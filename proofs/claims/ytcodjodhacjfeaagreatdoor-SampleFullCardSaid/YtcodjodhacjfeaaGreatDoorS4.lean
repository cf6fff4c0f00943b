/-
  The reference's Digits and Rows.
-/
import Derived.Test.YtcodjodhacjfeaaGreatDoorOB
import Derived.Test.YtcodjodhacjfeaaGreatDoorQ1
import Derived.Lib.ItoaLen
import Derived.Laws.IdiomStrings
import Derived.Deep.QuietTactic
import Derived.BigQuiet
import Derived.Laws.StructEq
namespace Go.Proofs.YtcodjodhacjfeaaGreatDoor
open Go.RowKit
def dgB (k : Nat) : UInt8 := UInt8.ofNat (48 + k)
def byteI (x : Int) : ByteArray := ⟨#[dgB x.toNat]⟩
theorem byteI_size (x : Int) : (byteI x).size = 1 := rfl
theorem conv1 (W : World) (x : Int) (h0 : 0 ≤ x) (h1 : x ≤ 9) :
    (convert 69 9 (.slice (some ⟨W.heap.size, 0, none⟩) 1 1)).run Tryz.prog (W.alloc (.cells #[.int .u8 (48 + x)] 5)) = .ok (.string (byteI x)) (W.alloc (.cells #[.int .u8 (48 + x)] 5)) := by
  have h2 : (UInt8.ofNat (48 + x.toNat)).toNat = 48 + x.toNat := digit_nat (by omega)
  have := run_convert_bytes_back (P := Tryz.prog) (W.alloc (.cells #[.int .u8 (48 + x)] 5)) 69 9 5 ⟨W.heap.size, 0, none⟩ 1 [UInt8.ofNat (48 + x.toNat)] Tryz.underlying69 Tryz.underlying5 Tryz.underlying9 (by
    intro j hj
    have hj0 : j = 0 := by simpa using hj
    subst hj0
    have e : ((UInt8.ofNat (48 + x.toNat)).toNat : Int) = 48 + x := by rw [h2]; omega
    simp only [List.getElem_cons_zero, e, Addr.add_lit, Nat.zero_add]
    simp)
  exact this
theorem cat_byte (x : Int) (acc : List UInt8) : byteI x ++ ⟨acc.toArray⟩ = ⟨(dgB x.toNat :: acc).toArray⟩ := by
  apply ByteArray.ext
  simp [byteI]
/-- where Digits stands -/
def DgAt (n m : Nat) (acc : List UInt8) : Prop := (0 < m → Lib.decDigits n = Lib.decDigits m ++ acc) ∧ (m = 0 → Lib.decDigits n = acc)
theorem DgAt.start (n : Nat) : DgAt n (n / 10) [dgB (n % 10)] :=
  ⟨fun h => decD_big (by omega), fun h => by rw [Lib.decDigits_one (by omega), show n % 10 = n by omega]; rfl⟩
theorem DgAt.next {n m : Nat} {acc : List UInt8} (h : DgAt n m acc) (hm : 0 < m) : DgAt n (m / 10) (dgB (m % 10) :: acc) :=
  ⟨fun h2 => by rw [h.1 hm, decD_big (by omega), List.append_assoc]; rfl, fun h2 => by rw [h.1 hm, Lib.decDigits_one (by omega), show m % 10 = m by omega]; rfl⟩
theorem DgAt.len {n m : Nat} {acc : List UInt8} (h : DgAt n m acc) (hn : n ≤ 9223372036854775807) : acc.length ≤ 20 := by
  have h1 : (Lib.decDigits n).length ≤ 20 := by rw [Lib.decDigits_length]; exact nDigits_le 19 n (by omega)
  rcases Nat.eq_zero_or_pos m with e | e
  · rw [← h.2 e]; exact h1
  · rw [h.1 e, List.length_append] at h1; omega
set_option maxRecDepth 10000 in
set_option maxHeartbeats 2000000 in
/-- a number that is not below 0 -/
theorem rdig_nat (w : World) (n : Nat) (hn : n ≤ 9223372036854775807) :
    Calls Tryz.prog 8 #[.int .i64 (n : Int)] w fun e w' => e = .returned (.string ⟨(Lib.decDigits n).toArray⟩) ∧ Below w.heap.size w w' := by
  have g0 : ¬ (n : Int) < 0 := by omega
  have m0 : (0 : Int) ≤ (n : Int) % 10 := by omega
  have m1 : (n : Int) % 10 ≤ 9 := by omega
  have C1 := fun W => conv1 W _ m0 m1
  have HA := Lib.hid (DgAt.start n)
  have HW : Hid (Below w.heap.size w (w.alloc (.cells #[.int .u8 (48 + (n : Int) % 10)] 5))) := Lib.hid ((Below.refl _ w).alloc (Nat.le_refl _) _)
  go_enter Tryz.func8, Tryz.ntmps8
  go_wp2_with fail
  clear C1 g0
  go_loopw [0, 3] (fun m s wr => ∃ (k : Nat) (acc : List UInt8), k ≤ n ∧ m = .int .i64 k ∧ s = .string ⟨acc.toArray⟩ ∧ Hid (DgAt n k acc) ∧ Hid (Below w.heap.size w wr)) (fun m _ _ => (intOf m).toNat)
  case atStart => exact ⟨n / 10, [dgB (n % 10)], by omega, by go_num, by
    have : ((n : Int) % 10).toNat = n % 10 := by omega
    show Value.string (byteI _) = _
    unfold byteI
    rw [this], HA, HW⟩
  case round =>
    clear HA HW
    obtain ⟨k, acc, hk, rfl, rfl, HA, HB⟩ := hrel
    clear m0 m1
    by_cases hk0 : 0 < k
    · have HN := Lib.hid (HA.out.next hk0)
      have m0 : (0 : Int) ≤ (k : Int) % 10 := by omega
      have m1 : (k : Int) % 10 ≤ 9 := by omega
      have C1 := fun W => conv1 W _ m0 m1
      have C2 := cat_byte ((k : Int) % 10) acc
      have C3 : ¬ 9223372036854775807 < (byteI ((k : Int) % 10)).size + acc.length := by rw [byteI_size]; have := HA.out.len hn; omega
      have HW := Lib.hid (HB.out.alloc HB.out.size (.cells #[.int .u8 (48 + (k : Int) % 10)] 5))
      go_wp2_with fail
      go_roundw
      case rel => exact ⟨k / 10, _, by omega, by go_num, rfl, HN, HW⟩
      case measure => simp [intOf]; omega
    · have e : k = 0 := by omega
      subst e
      have HE := Lib.hid (HA.out.2 rfl)
      go_wp2_with fail
      go_ret
      exact ⟨by rw [HE.out]; rfl, HB.out⟩
def eqRw (r q : Rw) : Bool := decide (r.site = q.site) && decide (r.a = q.a) && decide (r.b = q.b) && decide (r.c = q.c) && decide (r.d = q.d)
theorem eqRw_iff {r q : Rw} : eqRw r q = true ↔ r = q := by
  obtain ⟨s, a, b, c, d⟩ := r
  obtain ⟨t, a', b', c', d'⟩ := q
  simp [eqRw, and_assoc]
instance : DecidableEq Rw := fun r q => decidable_of_iff (eqRw r q = true) eqRw_iff
section
variable {P : Program} {w : World}
theorem eqf_cons {d : Nat} {xs ys : Array Value} {f : Field} {fs : List Field} {u v : Value} {r q : Bool} (hn : f.name ≠ "_") (hx : (part f.type xs f.offset).run P w = .ok u w) (hy : (part f.type ys f.offset).run P w = .ok v w)
    (hr : (Op.equalIn d f.type u v).run P w = .ok r w) (hq : (Op.eqFields d xs ys fs).run P w = .ok q w) : (Op.eqFields d xs ys (f :: fs)).run P w = .ok (r && q) w := by
  unfold Op.eqFields
  rw [if_pos hn]
  simp only [Sem.run_bind, hx, hy, hr, Result.andThen_ok]
  cases r with
  | true => simpa using hq
  | false => simp
theorem eqf_nil {d : Nat} {xs ys : Array Value} : (Op.eqFields d xs ys []).run P w = .ok true w := by simp [Op.eqFields]
end
set_option maxRecDepth 100000 in
theorem row_neqx (d : Nat) (w : World) (s t : ByteArray) (a1 a2 a3 a4 b1 b2 b3 b4 : Int) : (Op.equalIn (d + 2) 63 (.agg #[.string s, .int .i64 a1, .int .i64 a2, .int .i64 a3, .int .i64 a4]) (.agg #[.string t, .int .i64 b1, .int .i64 b2, .int .i64 b3, .int .i64 b4])).run Tryz.prog w = .ok (s.toList == t.toList && (a1 == b1 && (a2 == b2 && (a3 == b3 && (a4 == b4 && true))))) w := by
  have ht : Tryz.prog.underlying 63 = some (.struct (Tryz.prog.fieldsOf 63)) := by kernel_rfl
  have h2 := ht.symm.trans Tryz.underlying63
  injection h2 with h3
  injection h3 with h4
  rw [run_equalIn_struct w (d + 1) _ _ _ ht (by kernel_rfl), h4]
  clear ht h4
  refine eqf_cons (u := .string s) (v := .string t) (by decide) (by simp [part, isAgg, run_underlying Tryz.underlying9]) (by simp [part, isAgg, run_underlying Tryz.underlying9]) (run_equalIn_string w d _ _ _ Tryz.underlying9) ?_
  refine eqf_cons (u := .int .i64 a1) (v := .int .i64 b1) (by decide) (by simp [part, isAgg, run_underlying Tryz.underlying3]) (by simp [part, isAgg, run_underlying Tryz.underlying3]) (run_equalIn_int w d _ _ _ _ _ Tryz.underlying3) ?_
  refine eqf_cons (u := .int .i64 a2) (v := .int .i64 b2) (by decide) (by simp [part, isAgg, run_underlying Tryz.underlying3]) (by simp [part, isAgg, run_underlying Tryz.underlying3]) (run_equalIn_int w d _ _ _ _ _ Tryz.underlying3) ?_
  refine eqf_cons (u := .int .i64 a3) (v := .int .i64 b3) (by decide) (by simp [part, isAgg, run_underlying Tryz.underlying3]) (by simp [part, isAgg, run_underlying Tryz.underlying3]) (run_equalIn_int w d _ _ _ _ _ Tryz.underlying3) ?_
  refine eqf_cons (u := .int .i64 a4) (v := .int .i64 b4) (by decide) (by simp [part, isAgg, run_underlying Tryz.underlying3]) (by simp [part, isAgg, run_underlying Tryz.underlying3]) (run_equalIn_int w d _ _ _ _ _ Tryz.underlying3) ?_
  exact eqf_nil
theorem row_neq (x y : Rw) (w : World) : (binOp .neq 63 x.val y.val).run Tryz.prog w = .ok (.bool (!decide (x = y))) w := by
  have he : decide (x = y) = (x.site.toList == y.site.toList && (x.a == y.a && (x.b == y.b && (x.c == y.c && (x.d == y.d && true))))) := by
    rw [Bool.eq_iff_iff, decide_eq_true_iff, ← eqRw_iff]
    simp [eqRw, and_assoc, Lib.toList_data]
    intro _ _ _ _
    exact ⟨fun h => by rw [h], fun h => ByteArray.ext h⟩
  have e := row_neqx 9998 w x.site y.site x.a x.b x.c x.d y.a y.b y.c y.d
  rw [← he] at e
  have e2 : (Op.equal 63 x.val y.val).run Tryz.prog w = .ok (decide (x = y)) w := e
  have h1 : x.val = .agg #[.string x.site, .int .i64 x.a, .int .i64 x.b, .int .i64 x.c, .int .i64 x.d] := rfl
  have h2 : y.val = .agg #[.string y.site, .int .i64 y.a, .int .i64 y.b, .int .i64 y.c, .int .i64 y.d] := rfl
  rw [h1, h2] at e2 ⊢
  simp [binOp, e2]
def agree (l m : List Rw) (k : Nat) : Prop := ∀ j, j < k → l[j]? = m[j]?
set_option maxRecDepth 10000 in
set_option maxHeartbeats 1000000 in
theorem rrows_any (w : World) (a a' : Option Addr) (cap cap' : Nat) (l m : List Rw) (hl : l.length ≤ 1000000) (hr1 : RowsAt w (.slice a l.length cap) l) (hr2 : RowsAt w (.slice a' m.length cap') m) :
    Calls Tryz.prog 12 #[.slice a l.length cap, .slice a' m.length cap'] w fun e w' => e = .returned (.bool (decide (l = m))) ∧ Below w.heap.size w w' := by
  by_cases hlen : l.length = m.length
  rotate_left
  · have hne : ((l.length : Int) != m.length) = true := bne_iff_ne.2 (by omega)
    have E := Lib.hid (decide_eq_false (fun h : l = m => hlen (by rw [h])))
    clear hlen
    go_enter Tryz.func12, Tryz.ntmps12
    go_wp2_with fail
    go_ret
    exact ⟨by rw [E.out]; rfl, Below.refl _ _⟩
  · have hne : ((l.length : Int) != m.length) = false := by simp [hlen]
    have HX := Lib.hid hr1
    have HY := Lib.hid hr2
    have HL := Lib.hid hlen
    clear hr1 hr2 hlen
    go_enter Tryz.func12, Tryz.ntmps12
    go_wp2_with fail
    go_loopw [5] (fun i wr => ∃ k : Nat, k ≤ l.length ∧ i = .int .i64 k ∧ Hid (agree l m k) ∧ ∃ n, wr = w.drewN n) (fun i _ => l.length - (intOf i).toNat)
    case atStart => exact ⟨0, Nat.zero_le _, rfl, Lib.hid (fun j hj => by omega), 0, rfl⟩
    case round =>
      obtain ⟨k, hk, rfl, HA, n, rfl⟩ := hrel
      by_cases hlt : k < l.length
      · obtain ⟨x, h1⟩ : ∃ x, l[k]? = some x := ⟨l[k], List.getElem?_eq_getElem hlt⟩
        obtain ⟨y, h2⟩ : ∃ y, m[k]? = some y := ⟨m[k]'(by have := HL.out; omega), List.getElem?_eq_getElem _⟩
        obtain ⟨xb, xo, xc, e1, x0, x1, x2, x3, x4⟩ := RowsAt.at HX.out h1
        obtain ⟨yb, yo, yc, e2, y0, y1, y2, y3, y4⟩ := RowsAt.at HY.out h2
        injection e1 with e1 e11 e12
        injection e2 with e2 e21 e22
        clear e11 e12 e21 e22
        subst e1 e2
        have hlt2 : k < m.length := by have := HL.out; omega
        have ik0 : (0 : Int) ≤ (k : Int) := by omega
        have ik1 : (k : Int) < (l.length : Int) := by omega
        have ik2 : (k : Int) < (m.length : Int) := by omega
        have H1 := Lib.hid h1
        have H2 := Lib.hid h2
        have bq := fun w => row_neq x y w
        clear h1 h2
        by_cases hxy : x = y
        · rw [decide_eq_true hxy] at bq
          have HXY := Lib.hid hxy
          clear hxy
          obtain ⟨s, a1, a2, a3, a4⟩ := x
          obtain ⟨t, b1, b2, b3, b4⟩ := y
          simp only [Rw.val] at bq x0 x1 x2 x3 x4 y0 y1 y2 y3 y4
          go_wp2_with fail
          go_quiet (fail)
          go_wp2_with fail
          go_roundw
          case rel => exact ⟨k + 1, hlt, by go_num, Lib.hid (fun j hj => by
            rcases Nat.lt_succ_iff_lt_or_eq.1 hj with h | h
            · exact HA.out j h
            · subst h; rw [H1.out, H2.out, HXY.out]), _, rfl⟩
          case measure => simp [intOf]; omega
        · rw [decide_eq_false hxy] at bq
          have E := Lib.hid (decide_eq_false (fun h : l = m => hxy (by
            have h3 := H1.out
            rw [h, H2.out] at h3
            exact (Option.some.inj h3).symm)))
          clear hxy
          obtain ⟨s, a1, a2, a3, a4⟩ := x
          obtain ⟨t, b1, b2, b3, b4⟩ := y
          simp only [Rw.val] at bq x0 x1 x2 x3 x4 y0 y1 y2 y3 y4
          go_wp2_with fail
          go_quiet (fail)
          go_wp2_with fail
          go_ret
          exact ⟨by rw [E.out]; rfl, Below.drewN' (Below.drewN' (Below.refl _ _) _) _⟩
      · have e : k = l.length := by omega
        subst e
        have E : Hid (decide (l = m) = true) := Lib.hid (decide_eq_true (List.ext_getElem? fun i => by
          by_cases hi : i < l.length
          · exact HA.out i hi
          · rw [List.getElem?_eq_none (by omega), List.getElem?_eq_none (by have := HL.out; omega)]))
        go_wp2_with fail
        go_ret
        exact ⟨by rw [E.out]; rfl, Below.drewN' (Below.refl _ _) _⟩
end Go.Proofs.YtcodjodhacjfeaaGreatDoor

/-
  Several texts in one: R1, R2, R3, R4, R5.
-/
import Derived.Test.YtcihbmifogfdpaaGreatDoorQ1
import Derived.Test.YtcihbmifogfdpaaGreatDoorQst
import Derived.Test.YtcihbmifogfdpaaGreatDoorProg
import Derived.WalkKit
import Derived.Lib.Hide
import Derived.Lib.ItoaLen
import Derived.Laws.IdiomStrings
import Derived.Test.YtcihbmifogfdpaaGreatDoorTA
import Derived.Deep.QuietTactic
import Derived.BigQuiet
import Derived.Laws.StructEq
/-! Chapter 14's reference: Site, Natural. -/
section
namespace Go.Proofs.YtcihbmifogfdpaaGreatDoor
open Go.RowKit

/-- a byte of a site -/
def siteN (c : Nat) : Bool := decide (97 ≤ c) && decide (c ≤ 122) || decide (48 ≤ c) && decide (c ≤ 57) || decide (c = 46) || decide (c = 95)
def siteC (l : List UInt8) : Bool := decide (1 ≤ l.length) && decide (l.length ≤ 16) && l.all fun b => siteN b.toNat
theorem siteC_not {l : List UInt8} {k : Nat} {b : UInt8} (h : l[k]? = some b) (hb : siteN b.toNat = false) : siteC l = false := by
  have : (l.all fun b => siteN b.toNat) = false := by
    rw [List.all_eq_false]
    exact ⟨b, List.mem_of_getElem? h, by simp [hb]⟩
  unfold siteC
  rw [this, Bool.and_false]
theorem siteC_yes {l : List UInt8} (h1 : 1 ≤ l.length) (h2 : l.length ≤ 16) (h : ∀ j b, j < l.length → l[j]? = some b → siteN b.toNat = true) : siteC l = true := by
  have : (l.all fun b => siteN b.toNat) = true := by
    rw [List.all_eq_true]
    intro b hb
    obtain ⟨i, hi, e⟩ := List.getElem_of_mem hb
    exact h i b hi (by rw [List.getElem?_eq_getElem hi, e])
  unfold siteC
  rw [this]
  simp [h1, h2]
set_option maxRecDepth 10000 in
set_option maxHeartbeats 2000000 in
theorem rsite_any (w : World) (s : ByteArray) (hs : s.size ≤ 9223372036854775807) :
    Calls Tryz.prog 59 #[.string s] w fun e w' => e = .returned (.bool (siteC s.data.toList)) ∧ w = w' := by
  have hlen : s.data.toList.length = s.size := rfl
  have A1 := Lib.hid (show ¬ 1 ≤ s.size → siteC s.data.toList = false from fun h => by simp [siteC, hlen, h])
  have A2 := Lib.hid (show ¬ s.size ≤ 16 → siteC s.data.toList = false from fun h => by simp [siteC, hlen, h])
  have A3 := Lib.hid (show 1 ≤ s.size → s.size ≤ 16 → (∀ j b, j < s.size → s.data.toList[j]? = some b → siteN b.toNat = true) → siteC s.data.toList = true from fun h1 h2 h => siteC_yes (by omega) (by omega) fun j b hj => h j b (by omega))
  clear hlen
  go_enter Tryz.func59, Tryz.ntmps59
  go_wp2_with fail
  · go_ret
    exact ⟨by rw [A2.out (by omega)]; rfl, rfl⟩
  · have hr : 1 ≤ (s.size : Int) ∧ (s.size : Int) ≤ 16 := by assumption
    have H1 := Lib.hid hr.1
    have H2 := Lib.hid hr.2
    clear hr
    go_loop [3, 4] (fun i _ => ∃ k : Nat, k ≤ s.size ∧ i = .int .i64 k ∧ Hid (∀ j b, j < k → s.data.toList[j]? = some b → siteN b.toNat = true)) (fun i _ => s.size - (intOf i).toNat)
    case atStart => exact ⟨0, Nat.zero_le _, rfl, Lib.hid (fun j b hj => by omega)⟩
    case round =>
      obtain ⟨k, hk, rfl, HN⟩ := hrel
      by_cases hlt : k < s.size
      · have hkb : s.data.toList[k]? = some s[k] := by rw [List.getElem?_eq_getElem (by simpa using hlt)]; rfl
        have HK := Lib.hid hkb
        have HN2 := Lib.hid (show siteN s[k].toNat = true → ∀ j b, j < k + 1 → s.data.toList[j]? = some b → siteN b.toNat = true from fun hb j b hj hjb => by
          rcases Nat.lt_succ_iff_lt_or_eq.1 hj with h | h
          · exact HN.out j b h hjb
          · subst h
            rw [HK.out] at hjb
            cases hjb
            exact hb)
        clear hkb HN
        go_wp2_with fail
        all_goals first
          | (go_ret
             refine ⟨?_, rfl⟩
             rw [siteC_not HK.out (by simp only [siteN]; simp at *; omega)]; rfl)
          | (go_round
             case rel => exact ⟨k + 1, by omega, by go_num, Lib.hid (HN2.out (by simp only [siteN]; simp at *; omega))⟩
             case measure => simp [intOf]; omega)
      · have e : k = s.size := by omega
        subst e
        go_wp2_with fail
        go_ret
        exact ⟨by rw [A3.out (by have := H1.out; omega) (by have := H2.out; omega) HN.out]; rfl, rfl⟩
  · go_ret
    exact ⟨by rw [A1.out (by omega)]; rfl, rfl⟩

/-! Natural -/
theorem natFrom_snoc (l : List UInt8) (n v : Nat) (b : UInt8) (h : natFrom n l = some v) (hb : 48 ≤ b.toNat ∧ b.toNat ≤ 57) : natFrom n (l ++ [b]) = some (10 * v + (b.toNat - 48)) := by
  rw [natFrom_app l [b] n v h, natFrom_cons, if_pos hb]
  rfl
theorem natFrom_bad : ∀ (l r : List UInt8) (n : Nat) (b : UInt8), ¬ (48 ≤ b.toNat ∧ b.toNat ≤ 57) → natFrom n (l ++ b :: r) = none
  | [], r, n, b, hb => by rw [List.nil_append, natFrom_cons, if_neg hb]
  | c :: l, r, n, b, hb => by
    rw [List.cons_append, natFrom_cons]
    split
    · exact natFrom_bad l r _ b hb
    · rfl
theorem natFrom_lt : ∀ (l : List UInt8) (n v : Nat), natFrom n l = some v → v < (n + 1) * 10 ^ l.length
  | [], n, v, h => by simp only [natFrom, Option.some.injEq] at h; subst h; simp
  | b :: l, n, v, h => by
    rw [natFrom_cons] at h
    split at h
    · have := natFrom_lt l _ v h
      rw [List.length_cons, Nat.pow_succ]
      refine Nat.lt_of_lt_of_le this ?_
      rw [Nat.mul_comm (10 ^ l.length) 10, ← Nat.mul_assoc]
      exact Nat.mul_le_mul_right _ (by omega)
    · cases h
theorem take_data (s : ByteArray) (k : Nat) (h : k < s.size) : s.data.toList.take (k + 1) = s.data.toList.take k ++ [s[k]] := by
  rw [List.take_succ_eq_append_getElem (by simpa using h)]; rfl
theorem data_cut (s : ByteArray) (k : Nat) (h : k < s.size) : s.data.toList = s.data.toList.take k ++ s[k] :: s.data.toList.drop (k + 1) := by
  conv => lhs; rw [← List.take_append_drop k s.data.toList, List.drop_eq_getElem_cons (by simpa using h)]
  rfl
end Go.Proofs.YtcihbmifogfdpaaGreatDoor
end

/-! The reference's Natural. -/
section
namespace Go.Proofs.YtcihbmifogfdpaaGreatDoor
open Go.RowKit

def natV (o : Option Nat) : Int := ((o.getD 0 : Nat) : Int)
theorem natP_bad {most : Nat} {l : List UInt8} (h : l.length < 1 ∨ most < l.length ∨ (1 < l.length ∧ l.head? = some 48)) : natP most l = none := by unfold natP; rw [if_pos h]
theorem natP_go {most : Nat} {l : List UInt8} (h : ¬ (l.length < 1 ∨ most < l.length ∨ (1 < l.length ∧ l.head? = some 48))) : natP most l = natFrom 0 l := by unfold natP; rw [if_neg h]
theorem head_data (s : ByteArray) (h : 0 < s.size) : s.data.toList.head? = some s[0] := by
  rw [List.head?_eq_getElem?, List.getElem?_eq_getElem (by simpa using h)]; rfl
/-- no prefix is too great -/
def FitsN (l : List UInt8) : Prop := ∀ k v, natFrom 0 (l.take k) = some v → v ≤ 9223372036854775807
theorem fits_short {l : List UInt8} (h : l.length ≤ 18) : FitsN l := fun k v hv => by
  have h1 := natFrom_lt _ _ _ hv
  have h2 : (l.take k).length ≤ 18 := by rw [List.length_take]; omega
  have h3 : 10 ^ (l.take k).length ≤ 10 ^ 18 := Nat.pow_le_pow_right (by decide) h2
  have h4 : (10 : Nat) ^ 18 = 1000000000000000000 := by decide
  omega
theorem take_all (s : ByteArray) : s.data.toList.take s.size = s.data.toList := List.take_of_length_le (Nat.le_refl _)
set_option maxRecDepth 10000 in
set_option maxHeartbeats 2000000 in
theorem natural_any (w : World) (s : ByteArray) (most : Nat) (hm : most ≤ 1000) (hs : s.size ≤ 9223372036854775807) (hf : s.size ≤ most → FitsN s.data.toList) :
    Calls Tryz.prog 54 #[.string s, .int .i64 (most : Int)] w fun e w' => e = .returned (.tuple #[.int .i64 (natV (natP most s.data.toList)), .bool (natP most s.data.toList).isSome]) ∧ w = w' := by
  have hlen : s.data.toList.length = s.size := rfl
  have HF := Lib.hid hf
  clear hf
  by_cases h0 : s.size < 1
  · have E := Lib.hid (natP_bad (most := most) (l := s.data.toList) (.inl (by omega)))
    have g0 : (s.size : Int) < 1 := by omega
    clear hlen h0
    go_enter Tryz.func54, Tryz.ntmps54
    go_wp2_with fail
    go_ret2
    exact ⟨by rw [E.out]; rfl, rfl⟩
  by_cases h1 : most < s.size
  · have E := Lib.hid (natP_bad (most := most) (l := s.data.toList) (.inr (.inl (by omega))))
    have g0 : ¬ (s.size : Int) < 1 := by omega
    have g1 : (most : Int) < (s.size : Int) := by omega
    clear hlen h0 h1
    go_enter Tryz.func54, Tryz.ntmps54
    go_wp2_with fail
    go_ret2
    exact ⟨by rw [E.out]; rfl, rfl⟩
  have hsm : s.size ≤ 1000 := by omega
  have HFF := Lib.hid (HF.out (by omega))
  clear HF
  have hpos : 0 < s.size := by omega
  have hhd := head_data s hpos
  -- the walk from the loop on
  have A1 := Lib.hid (show 1 < s.size → s[0].toNat = 48 → natP most s.data.toList = none from fun a b => natP_bad (.inr (.inr ⟨by omega, by rw [hhd]; exact congrArg some (UInt8.toNat_inj.1 b)⟩)))
  have A2 := Lib.hid (show ¬ (1 < s.size ∧ s[0].toNat = 48) → natP most s.data.toList = natFrom 0 s.data.toList from fun a => natP_go (by
    rintro (b | b | ⟨b, c⟩)
    · omega
    · omega
    · refine a ⟨by omega, ?_⟩
      rw [hhd, Option.some.injEq] at c
      rw [c]; rfl))
  have g0 : ¬ (s.size : Int) < 1 := by omega
  have g1 : ¬ (most : Int) < (s.size : Int) := by omega
  clear hhd hlen h0 h1
  go_enter Tryz.func54, Tryz.ntmps54
  go_wp2_with fail
  · have a1 : (1 : Int) < (s.size : Int) := by assumption
    have a2 : ((s[0].toNat : Int) == 48) = true := by assumption
    go_ret2
    exact ⟨by rw [A1.out (by omega) (by simp at a2; omega)]; rfl, rfl⟩
  all_goals
    have E : Hid (natP most s.data.toList = natFrom 0 s.data.toList) := Lib.hid (A2.out (by simp at *; omega))
    clear A1 A2 g0 g1
    go_loop [6, 7] (fun n i => ∃ k v : Nat, k ≤ s.size ∧ i = .int .i64 k ∧ n = .int .i64 v ∧ Hid (natFrom 0 (s.data.toList.take k) = some v)) (fun _ i => s.size - (intOf i).toNat)
    case atStart => exact ⟨0, 0, Nat.zero_le _, rfl, rfl, Lib.hid rfl⟩
    case round =>
      obtain ⟨k, v, hk, rfl, rfl, HN⟩ := hrel
      by_cases hlt : k < s.size
      · by_cases hd : 48 ≤ s[k].toNat ∧ s[k].toNat ≤ 57
        · have HS : Hid (natFrom 0 (s.data.toList.take (k + 1)) = some (10 * v + (s[k].toNat - 48))) := Lib.hid (by rw [take_data s k hlt]; exact natFrom_snoc _ _ _ _ HN.out hd)
          have hb := HFF.out _ _ HS.out
          obtain ⟨hd1, hd2⟩ := hd
          have i1 : ¬ ((s[k].toNat : Int) < 48) := by omega
          have i2 : ¬ ((57 : Int) < (s[k].toNat : Int)) := by omega
          have q1 : IntKind.u8.wrap ((s[k].toNat : Int) - 48) = ((s[k].toNat - 48 : Nat) : Int) := by
            have : (s[k].toNat : Int) - 48 = ((s[k].toNat - 48 : Nat) : Int) := by omega
            rw [this]
            simp [IntKind.wrap, IntKind.signed, IntKind.bits]
            omega
          go_wp2_with fail
          go_round
          case rel => exact ⟨k + 1, 10 * v + (s[k].toNat - 48), by omega, by go_num, by go_num, HS⟩
          case measure => simp [intOf]; omega
        · have HB : Hid (natFrom 0 s.data.toList = none) := Lib.hid (by rw [data_cut s k hlt]; exact natFrom_bad _ _ _ _ hd)
          go_wp2_with fail
          all_goals
            go_ret2
            exact ⟨by rw [E.out, HB.out]; rfl, rfl⟩
      · have e : k = s.size := by omega
        subst e
        have HV : Hid (natFrom 0 s.data.toList = some v) := Lib.hid (by rw [← HN.out, take_all])
        go_wp2_with fail
        go_ret2
        exact ⟨by rw [E.out, HV.out]; rfl, rfl⟩
end Go.Proofs.YtcihbmifogfdpaaGreatDoor
end

/-! The reference's Split. -/
section
namespace Go.Proofs.YtcihbmifogfdpaaGreatDoor
open Go.RowKit

theorem St.oneArr {w0 w : World} {F : List HP} (h : St w0 F w) (t : TypeId) (v : Value) : St w0 (HP.arr t 1 (.slice (some ⟨w.heap.size, 0, none⟩) 1 1) 1 [v] :: F) (w.alloc (.cells #[v] t)) :=
  h.newArr t 1 1 [v] rfl (by unfold maxLen; omega)
def strV (l : List UInt8) : Value := .string ⟨l.toArray⟩
theorem extract_mk (s : ByteArray) (f k : Nat) : s.extract f k = ⟨((s.data.toList.drop f).take (k - f)).toArray⟩ := by
  have h := Lib.extract_data s f k
  have e : (⟨(s.extract f k).data.toList.toArray⟩ : ByteArray) = s.extract f k := by cases s.extract f k; rfl
  rw [← e, h]
theorem info_str : ∃ i : TypeInfo, Tryz.prog.info? 9 = some i ∧ i.zero = some (.string .empty) ∧ i.size = 1 ∧ i.bytes = 16 := info_parts (show (Tryz.prog.info? 9).map (fun i => (i.zero, i.size, i.bytes)) = some (some (.string .empty), 1, 16) by kernel_rfl)
/-- where Split stands -/
def SpAt (c : UInt8) (l : List UInt8) (k f : Nat) (D : List (List UInt8)) : Prop :=
  (k ≤ l.length ∧ f ≤ k ∧ sp c l = D ++ sp c (l.drop f) ∧ c ∉ (l.drop f).take (k - f)) ∨ (k = l.length + 1 ∧ D = sp c l)
theorem SpAt.start (c : UInt8) (l : List UInt8) : SpAt c l 0 0 [] := .inl ⟨Nat.zero_le _, Nat.le_refl _, rfl, by simp⟩
theorem SpAt.next {c : UInt8} {l : List UInt8} {k f : Nat} {D : List (List UInt8)} (h : SpAt c l k f D) {b : UInt8} (hk : l[k]? = some b) (hb : b ≠ c) : SpAt c l (k + 1) f D := by
  have hlt := (List.getElem?_eq_some_iff.1 hk).1
  rcases h with ⟨_, h2, h3, h4⟩ | ⟨h1, _⟩
  · refine .inl ⟨hlt, by omega, h3, ?_⟩
    rw [show k + 1 - f = (k - f) + 1 by omega, List.take_add_one]
    have e : (l.drop f)[k - f]? = some b := by rw [List.getElem?_drop, show f + (k - f) = k by omega]; exact hk
    rw [e]
    intro hm
    rcases List.mem_append.1 hm with hm | hm
    · exact h4 hm
    · simp at hm; exact hb hm.symm
  · omega
theorem SpAt.cut {c : UInt8} {l : List UInt8} {k f : Nat} {D : List (List UInt8)} (h : SpAt c l k f D) (hk : l[k]? = some c) : f ≤ k ∧ SpAt c l (k + 1) (k + 1) (D ++ [(l.drop f).take (k - f)]) := by
  have hlt := (List.getElem?_eq_some_iff.1 hk).1
  rcases h with ⟨_, h2, h3, h4⟩ | ⟨h1, _⟩
  · refine ⟨h2, .inl ⟨hlt, Nat.le_refl _, ?_, by simp⟩⟩
    have e : l.drop f = (l.drop f).take (k - f) ++ c :: l.drop (k + 1) := by
      conv => lhs; rw [← List.take_append_drop (k - f) (l.drop f)]
      rw [List.drop_drop, show f + (k - f) = k by omega, List.drop_eq_getElem_cons hlt, (List.getElem?_eq_some_iff.1 hk).2]
    rw [h3, List.append_assoc]
    congr 1
    conv => lhs; rw [e]
    rw [sp_app _ h4]
    rfl
  · omega
theorem SpAt.last {c : UInt8} {l : List UInt8} {f : Nat} {D : List (List UInt8)} (h : SpAt c l l.length f D) : f ≤ l.length ∧ SpAt c l (l.length + 1) (l.length + 1) (D ++ [(l.drop f).take (l.length - f)]) := by
  rcases h with ⟨_, h2, h3, h4⟩ | ⟨h1, _⟩
  · refine ⟨h2, .inr ⟨rfl, ?_⟩⟩
    have e : (l.drop f).take (l.length - f) = l.drop f := List.take_of_length_le (by rw [List.length_drop]; omega)
    rw [e] at h4 ⊢
    rw [h3, sp_no h4]
  · omega
theorem SpAt.len {c : UInt8} {l : List UInt8} {k f : Nat} {D : List (List UInt8)} (h : SpAt c l k f D) : D.length ≤ l.length + 1 := by
  have hsp : (sp c l).length ≤ l.length + 1 := by
    clear h
    induction l with
    | nil => simp [sp]
    | cons b l ih =>
      rw [sp_cons]
      split
      · simp; omega
      · split
        · simp
        · rename_i x r e; rw [e] at ih; simp at ih ⊢; omega
  rcases h with ⟨_, _, h3, _⟩ | ⟨_, h3⟩
  · rw [h3, List.length_append] at hsp; omega
  · rw [h3]; exact hsp
theorem strV_one (D : List (List UInt8)) : ∀ u ∈ D.map strV, u.oneCell' = true := by
  intro u hu
  obtain ⟨l, _, rfl⟩ := List.mem_map.1 hu
  rfl
set_option maxRecDepth 10000 in
set_option maxHeartbeats 4000000 in
theorem rsplit_any (w : World) (s : ByteArray) (c : UInt8) (hs : s.size ≤ 4294967280) :
    Calls Tryz.prog 53 #[.string s, .int .u8 c.toNat] w fun e w' => ∃ a cap, e = .returned (.slice a (sp c s.data.toList).length cap) ∧ St w [HP.arr 9 1 (.slice a (sp c s.data.toList).length cap) (sp c s.data.toList).length ((sp c s.data.toList).map strV)] w' := by
  obtain ⟨i, hi, hz, hsi, hby⟩ := info_str
  have HI := Lib.hid hi; have HZ := Lib.hid hz; have HS := Lib.hid hsi; have HB := Lib.hid hby
  have H0 : Hid (St w [HP.arr 9 1 (.slice none 0 0) 0 []] w) := Lib.hid ((St.start w).arr_nil 9 1)
  have hc255 : c.toNat < 256 := c.toNat_lt
  clear hi hz hsi hby
  go_enter Tryz.func53, Tryz.ntmps53
  go_wp2_with fail
  go_loopw [5, 6, 7] (fun out fr i wr => ∃ (k f : Nat) (D : List (List UInt8)) (a : Option Addr) (cap : Nat), k ≤ s.size + 1 ∧ f ≤ s.size + 1 ∧ i = .int .i64 k ∧ fr = .int .i64 f ∧ out = .slice a D.length cap ∧ Hid (SpAt c s.data.toList k f D) ∧ Hid (St w [HP.arr 9 1 (.slice a D.length cap) D.length (D.map strV)] wr)) (fun _ _ i _ => s.size + 1 - (intOf i).toNat)
  case atStart => exact ⟨0, 0, [], none, 0, by omega, by omega, rfl, rfl, rfl, Lib.hid (SpAt.start _ _), H0⟩
  case round =>
    obtain ⟨k, f, D, a, cap, hk, hf, rfl, rfl, rfl, HA, HT⟩ := hrel
    have hD := HA.out.len
    have hlen : s.data.toList.length = s.size := rfl
    rw [hlen] at hD
    by_cases hlt : k < s.size
    · have hkb : s.data.toList[k]? = some s[k] := by rw [List.getElem?_eq_getElem (by simpa using hlt)]; rfl
      by_cases hb : s[k] = c
      · obtain ⟨hfk, h1⟩ := HA.out.cut (by rw [hkb, hb])
        have H1 := Lib.hid h1
        have bt : ((s[k].toNat : Int) == (c.toNat : Int)) = true := by rw [hb]; simp
        have HN := Lib.hid ((HT.out.oneArr 9 (.string (s.extract f k))))
        have j1 : (f : Int) ≤ (k : Int) := by omega
        have j2 : (k : Int) ≤ (s.size : Int) := by omega
        clear h1 hkb hb HA H0 hlen
        go_wp2_with (at_builtin; refine wpList_append_st rfl _ _ 102 rfl 9 i _ 1 16 Tryz.underlying102 HI.out HZ.out HS.out HB.out rfl _ _ rfl rfl D.length (D.map strV) (by exact HN.out.swap) 1 [.string (s.extract f k)] (by exact HP.arr_reads HN.out) (by intro u hu; simp at hu; subst hu; rfl) (by unfold maxLen; omega) (by omega) ?_; intro v' w2 hs2 hv2; clear hv2; obtain ⟨a2, p2, rfl⟩ := (HP.arr_reads hs2).form; have H2 := Lib.hid hs2; clear hs2)
        go_roundw
        case rel =>
          refine ⟨k + 1, k + 1, D ++ [(s.data.toList.drop f).take (k - f)], a2, p2, by omega, by omega, by go_num, by go_num, by rw [List.length_append]; rfl, H1, Lib.hid ?_⟩
          have e : [(s.data.toList.drop f).take (k - f)].map strV = [Value.string (s.extract f k)] := by rw [extract_mk]; rfl
          rw [List.length_append, List.map_append, e]
          exact H2.out.pick 2 [0]
        case measure => simp [intOf]; omega
      · have H1 := Lib.hid (HA.out.next hkb hb)
        have bt : ((s[k].toNat : Int) == (c.toNat : Int)) = false := beq_eq_false_iff_ne.2 fun e => hb (UInt8.toNat_inj.1 (by omega))
        have nk : ((k : Int) == (s.size : Int)) = false := beq_eq_false_iff_ne.2 (by omega)
        clear hkb hb HA H0 hlen
        go_wp2_with fail
        all_goals
          go_roundw
          case rel => exact ⟨k + 1, f, D, a, cap, by omega, by omega, by go_num, by go_num, rfl, H1, HT⟩
          case measure => simp [intOf]; omega
    · by_cases hke : k = s.size
      · subst hke
        obtain ⟨hfk, h1⟩ := SpAt.last (by rw [hlen]; exact HA.out)
        rw [hlen] at h1 hfk
        have H1 := Lib.hid h1
        have bt : ((s.size : Int) == (s.size : Int)) = true := beq_iff_eq.2 rfl
        have HN := Lib.hid ((HT.out.oneArr 9 (.string (s.extract f s.size))))
        have j1 : (f : Int) ≤ (s.size : Int) := by omega
        have j2 : (s.size : Int) ≤ (s.size : Int) := by omega
        clear h1 HA H0 hlen hlt
        go_wp2_with (at_builtin; refine wpList_append_st rfl _ _ 102 rfl 9 i _ 1 16 Tryz.underlying102 HI.out HZ.out HS.out HB.out rfl _ _ rfl rfl D.length (D.map strV) (by exact HN.out.swap) 1 [.string (s.extract f s.size)] (by exact HP.arr_reads HN.out) (by intro u hu; simp at hu; subst hu; rfl) (by unfold maxLen; omega) (by omega) ?_; intro v' w2 hs2 hv2; clear hv2; obtain ⟨a2, p2, rfl⟩ := (HP.arr_reads hs2).form; have H2 := Lib.hid hs2; clear hs2)
        go_roundw
        case rel =>
          refine ⟨s.size + 1, s.size + 1, D ++ [(s.data.toList.drop f).take (s.size - f)], a2, p2, by omega, by omega, by go_num, by go_num, by rw [List.length_append]; rfl, H1, Lib.hid ?_⟩
          have e : [(s.data.toList.drop f).take (s.size - f)].map strV = [Value.string (s.extract f s.size)] := by rw [extract_mk]; rfl
          rw [List.length_append, List.map_append, e]
          exact H2.out.pick 2 [0]
        case measure => simp [intOf]
      · have hk1 : k = s.size + 1 := by omega
        subst hk1
        have hD2 : Hid (D = sp c s.data.toList) := Lib.hid (by
          rcases HA.out with ⟨h1, _⟩ | ⟨_, h2⟩
          · omega
          · exact h2)
        clear HA H0 hlen hlt hke
        go_wp2_with fail
        go_ret
        rw [← hD2.out]
        exact ⟨a, cap, rfl, HT.out⟩
end Go.Proofs.YtcihbmifogfdpaaGreatDoor
end

/-! The reference's Digits. -/
section
namespace Go.Proofs.YtcihbmifogfdpaaGreatDoor
open Go.RowKit

def dgB (k : Nat) : UInt8 := UInt8.ofNat (48 + k)
def byteI (x : Int) : ByteArray := ⟨#[dgB x.toNat]⟩
theorem byteI_size (x : Int) : (byteI x).size = 1 := rfl
theorem conv1 (W : World) (x : Int) (h0 : 0 ≤ x) (h1 : x ≤ 9) :
    (convert 118 9 (.slice (some ⟨W.heap.size, 0, none⟩) 1 1)).run Tryz.prog (W.alloc (.cells #[.int .u8 (48 + x)] 5)) = .ok (.string (byteI x)) (W.alloc (.cells #[.int .u8 (48 + x)] 5)) := by
  have h2 : (UInt8.ofNat (48 + x.toNat)).toNat = 48 + x.toNat := digit_nat (by omega)
  have := run_convert_bytes_back (P := Tryz.prog) (W.alloc (.cells #[.int .u8 (48 + x)] 5)) 118 9 5 ⟨W.heap.size, 0, none⟩ 1 [UInt8.ofNat (48 + x.toNat)] Tryz.underlying118 Tryz.underlying5 Tryz.underlying9 (by
    intro j hj
    have hj0 : j = 0 := by simpa using hj
    subst hj0
    have e : ((UInt8.ofNat (48 + x.toNat)).toNat : Int) = 48 + x := by rw [h2]; omega
    simp only [List.getElem_cons_zero, e, Addr.add_lit, Nat.zero_add]
    simp)
  exact this
theorem cat_byte (x : Int) (acc : List UInt8) : byteI x ++ ⟨acc.toArray⟩ = ⟨(dgB x.toNat :: acc).toArray⟩ := by
  apply ByteArray.ext
  simp [byteI]
/-- where Digits stands -/
def DgAt (n m : Nat) (acc : List UInt8) : Prop := (0 < m → Lib.decDigits n = Lib.decDigits m ++ acc) ∧ (m = 0 → Lib.decDigits n = acc)
theorem DgAt.start (n : Nat) : DgAt n (n / 10) [dgB (n % 10)] :=
  ⟨fun h => decD_big (by omega), fun h => by rw [Lib.decDigits_one (by omega), show n % 10 = n by omega]; rfl⟩
theorem DgAt.next {n m : Nat} {acc : List UInt8} (h : DgAt n m acc) (hm : 0 < m) : DgAt n (m / 10) (dgB (m % 10) :: acc) :=
  ⟨fun h2 => by rw [h.1 hm, decD_big (by omega), List.append_assoc]; rfl, fun h2 => by rw [h.1 hm, Lib.decDigits_one (by omega), show m % 10 = m by omega]; rfl⟩
theorem DgAt.len {n m : Nat} {acc : List UInt8} (h : DgAt n m acc) (hn : n ≤ 9223372036854775807) : acc.length ≤ 20 := by
  have h1 : (Lib.decDigits n).length ≤ 20 := by rw [Lib.decDigits_length]; exact nDigits_le 19 n (by omega)
  rcases Nat.eq_zero_or_pos m with e | e
  · rw [← h.2 e]; exact h1
  · rw [h.1 e, List.length_append] at h1; omega
set_option maxRecDepth 10000 in
set_option maxHeartbeats 2000000 in
/-- a number that is not below 0 -/
theorem rdig_nat (w : World) (n : Nat) (hn : n ≤ 9223372036854775807) :
    Calls Tryz.prog 29 #[.int .i64 (n : Int)] w fun e w' => e = .returned (.string ⟨(Lib.decDigits n).toArray⟩) ∧ Below w.heap.size w w' := by
  have g0 : ¬ (n : Int) < 0 := by omega
  have m0 : (0 : Int) ≤ (n : Int) % 10 := by omega
  have m1 : (n : Int) % 10 ≤ 9 := by omega
  have C1 := fun W => conv1 W _ m0 m1
  have HA := Lib.hid (DgAt.start n)
  have HW : Hid (Below w.heap.size w (w.alloc (.cells #[.int .u8 (48 + (n : Int) % 10)] 5))) := Lib.hid ((Below.refl _ w).alloc (Nat.le_refl _) _)
  go_enter Tryz.func29, Tryz.ntmps29
  go_wp2_with fail
  clear C1 g0
  go_loopw [0, 3] (fun m s wr => ∃ (k : Nat) (acc : List UInt8), k ≤ n ∧ m = .int .i64 k ∧ s = .string ⟨acc.toArray⟩ ∧ Hid (DgAt n k acc) ∧ Hid (Below w.heap.size w wr)) (fun m _ _ => (intOf m).toNat)
  case atStart => exact ⟨n / 10, [dgB (n % 10)], by omega, by go_num, by
    have : ((n : Int) % 10).toNat = n % 10 := by omega
    show Value.string (byteI _) = _
    unfold byteI
    rw [this], HA, HW⟩
  case round =>
    clear HA HW
    obtain ⟨k, acc, hk, rfl, rfl, HA, HB⟩ := hrel
    clear m0 m1
    by_cases hk0 : 0 < k
    · have HN := Lib.hid (HA.out.next hk0)
      have m0 : (0 : Int) ≤ (k : Int) % 10 := by omega
      have m1 : (k : Int) % 10 ≤ 9 := by omega
      have C1 := fun W => conv1 W _ m0 m1
      have C2 := cat_byte ((k : Int) % 10) acc
      have C3 : ¬ 9223372036854775807 < (byteI ((k : Int) % 10)).size + acc.length := by rw [byteI_size]; have := HA.out.len hn; omega
      have HW := Lib.hid (HB.out.alloc HB.out.size (.cells #[.int .u8 (48 + (k : Int) % 10)] 5))
      go_wp2_with fail
      go_roundw
      case rel => exact ⟨k / 10, _, by omega, by go_num, rfl, HN, HW⟩
      case measure => simp [intOf]; omega
    · have e : k = 0 := by omega
      subst e
      have HE := Lib.hid (HA.out.2 rfl)
      go_wp2_with fail
      go_ret
      exact ⟨by rw [HE.out]; rfl, HB.out⟩
end Go.Proofs.YtcihbmifogfdpaaGreatDoor
end

/-! The reference's Rows: comparison of rows. -/
section
namespace Go.Proofs.YtcihbmifogfdpaaGreatDoor
open Go.RowKit

def eqRw (r q : Rw) : Bool := decide (r.site = q.site) && decide (r.a = q.a) && decide (r.b = q.b) && decide (r.c = q.c) && decide (r.d = q.d)
theorem eqRw_iff {r q : Rw} : eqRw r q = true ↔ r = q := by
  obtain ⟨s, a, b, c, d⟩ := r
  obtain ⟨t, a', b', c', d'⟩ := q
  simp [eqRw, and_assoc]
instance : DecidableEq Rw := fun r q => decidable_of_iff (eqRw r q = true) eqRw_iff
section
variable {P : Program} {w : World}
theorem eqf_cons {d : Nat} {xs ys : Array Value} {f : Field} {fs : List Field} {u v : Value} {r q : Bool} (hn : f.name ≠ "_") (hx : (part f.type xs f.offset).run P w = .ok u w) (hy : (part f.type ys f.offset).run P w = .ok v w)
    (hr : (Op.equalIn d f.type u v).run P w = .ok r w) (hq : (Op.eqFields d xs ys fs).run P w = .ok q w) : (Op.eqFields d xs ys (f :: fs)).run P w = .ok (r && q) w := by
  unfold Op.eqFields
  rw [if_pos hn]
  simp only [Sem.run_bind, hx, hy, hr, Result.andThen_ok]
  cases r with
  | true => simpa using hq
  | false => simp
theorem eqf_nil {d : Nat} {xs ys : Array Value} : (Op.eqFields d xs ys []).run P w = .ok true w := by simp [Op.eqFields]
end
set_option maxRecDepth 100000 in
theorem row_neqx (d : Nat) (w : World) (s t : ByteArray) (a1 a2 a3 a4 b1 b2 b3 b4 : Int) : (Op.equalIn (d + 2) 47 (.agg #[.string s, .int .i64 a1, .int .i64 a2, .int .i64 a3, .int .i64 a4]) (.agg #[.string t, .int .i64 b1, .int .i64 b2, .int .i64 b3, .int .i64 b4])).run Tryz.prog w = .ok (s.toList == t.toList && (a1 == b1 && (a2 == b2 && (a3 == b3 && (a4 == b4 && true))))) w := by
  have ht : Tryz.prog.underlying 47 = some (.struct (Tryz.prog.fieldsOf 47)) := by kernel_rfl
  have h2 := ht.symm.trans Tryz.underlying47
  injection h2 with h3
  injection h3 with h4
  rw [run_equalIn_struct w (d + 1) _ _ _ ht (by kernel_rfl), h4]
  clear ht h4
  refine eqf_cons (u := .string s) (v := .string t) (by decide) (by simp [part, isAgg, run_underlying Tryz.underlying9]) (by simp [part, isAgg, run_underlying Tryz.underlying9]) (run_equalIn_string w d _ _ _ Tryz.underlying9) ?_
  refine eqf_cons (u := .int .i64 a1) (v := .int .i64 b1) (by decide) (by simp [part, isAgg, run_underlying Tryz.underlying3]) (by simp [part, isAgg, run_underlying Tryz.underlying3]) (run_equalIn_int w d _ _ _ _ _ Tryz.underlying3) ?_
  refine eqf_cons (u := .int .i64 a2) (v := .int .i64 b2) (by decide) (by simp [part, isAgg, run_underlying Tryz.underlying3]) (by simp [part, isAgg, run_underlying Tryz.underlying3]) (run_equalIn_int w d _ _ _ _ _ Tryz.underlying3) ?_
  refine eqf_cons (u := .int .i64 a3) (v := .int .i64 b3) (by decide) (by simp [part, isAgg, run_underlying Tryz.underlying3]) (by simp [part, isAgg, run_underlying Tryz.underlying3]) (run_equalIn_int w d _ _ _ _ _ Tryz.underlying3) ?_
  refine eqf_cons (u := .int .i64 a4) (v := .int .i64 b4) (by decide) (by simp [part, isAgg, run_underlying Tryz.underlying3]) (by simp [part, isAgg, run_underlying Tryz.underlying3]) (run_equalIn_int w d _ _ _ _ _ Tryz.underlying3) ?_
  exact eqf_nil
theorem row_neq (x y : Rw) (w : World) : (binOp .neq 47 x.val y.val).run Tryz.prog w = .ok (.bool (!decide (x = y))) w := by
  have he : decide (x = y) = (x.site.toList == y.site.toList && (x.a == y.a && (x.b == y.b && (x.c == y.c && (x.d == y.d && true))))) := by
    rw [Bool.eq_iff_iff, decide_eq_true_iff, ← eqRw_iff]
    simp [eqRw, and_assoc, Lib.toList_data]
    intro _ _ _ _
    exact ⟨fun h => by rw [h], fun h => ByteArray.ext h⟩
  have e := row_neqx 9998 w x.site y.site x.a x.b x.c x.d y.a y.b y.c y.d
  rw [← he] at e
  have e2 : (Op.equal 47 x.val y.val).run Tryz.prog w = .ok (decide (x = y)) w := e
  have h1 : x.val = .agg #[.string x.site, .int .i64 x.a, .int .i64 x.b, .int .i64 x.c, .int .i64 x.d] := rfl
  have h2 : y.val = .agg #[.string y.site, .int .i64 y.a, .int .i64 y.b, .int .i64 y.c, .int .i64 y.d] := rfl
  rw [h1, h2] at e2 ⊢
  simp [binOp, e2]
def agree (l m : List Rw) (k : Nat) : Prop := ∀ j, j < k → l[j]? = m[j]?
set_option maxRecDepth 10000 in
set_option maxHeartbeats 1000000 in
theorem rrows_any (w : World) (a a' : Option Addr) (cap cap' : Nat) (l m : List Rw) (hl : l.length ≤ 1000000) (hr1 : RowsAt w (.slice a l.length cap) l) (hr2 : RowsAt w (.slice a' m.length cap') m) :
    Calls Tryz.prog 21 #[.slice a l.length cap, .slice a' m.length cap'] w fun e w' => e = .returned (.bool (decide (l = m))) ∧ Below w.heap.size w w' := by
  by_cases hlen : l.length = m.length
  rotate_left
  · have hne : ((l.length : Int) != m.length) = true := bne_iff_ne.2 (by omega)
    have E := Lib.hid (decide_eq_false (fun h : l = m => hlen (by rw [h])))
    clear hlen
    go_enter Tryz.func21, Tryz.ntmps21
    go_wp2_with fail
    go_ret
    exact ⟨by rw [E.out]; rfl, Below.refl _ _⟩
  · have hne : ((l.length : Int) != m.length) = false := by simp [hlen]
    have HX := Lib.hid hr1
    have HY := Lib.hid hr2
    have HL := Lib.hid hlen
    clear hr1 hr2 hlen
    go_enter Tryz.func21, Tryz.ntmps21
    go_wp2_with fail
    go_loopw [5] (fun i wr => ∃ k : Nat, k ≤ l.length ∧ i = .int .i64 k ∧ Hid (agree l m k) ∧ ∃ n, wr = w.drewN n) (fun i _ => l.length - (intOf i).toNat)
    case atStart => exact ⟨0, Nat.zero_le _, rfl, Lib.hid (fun j hj => by omega), 0, rfl⟩
    case round =>
      obtain ⟨k, hk, rfl, HA, n, rfl⟩ := hrel
      by_cases hlt : k < l.length
      · obtain ⟨x, h1⟩ : ∃ x, l[k]? = some x := ⟨l[k], List.getElem?_eq_getElem hlt⟩
        obtain ⟨y, h2⟩ : ∃ y, m[k]? = some y := ⟨m[k]'(by have := HL.out; omega), List.getElem?_eq_getElem _⟩
        obtain ⟨xb, xo, xc, e1, x0, x1, x2, x3, x4⟩ := RowsAt.at HX.out h1
        obtain ⟨yb, yo, yc, e2, y0, y1, y2, y3, y4⟩ := RowsAt.at HY.out h2
        injection e1 with e1 e11 e12
        injection e2 with e2 e21 e22
        clear e11 e12 e21 e22
        subst e1 e2
        have hlt2 : k < m.length := by have := HL.out; omega
        have ik0 : (0 : Int) ≤ (k : Int) := by omega
        have ik1 : (k : Int) < (l.length : Int) := by omega
        have ik2 : (k : Int) < (m.length : Int) := by omega
        have H1 := Lib.hid h1
        have H2 := Lib.hid h2
        have bq := fun w => row_neq x y w
        clear h1 h2
        by_cases hxy : x = y
        · rw [decide_eq_true hxy] at bq
          have HXY := Lib.hid hxy
          clear hxy
          obtain ⟨s, a1, a2, a3, a4⟩ := x
          obtain ⟨t, b1, b2, b3, b4⟩ := y
          simp only [Rw.val] at bq x0 x1 x2 x3 x4 y0 y1 y2 y3 y4
          go_wp2_with fail
          go_quiet (fail)
          go_wp2_with fail
          go_roundw
          case rel => exact ⟨k + 1, hlt, by go_num, Lib.hid (fun j hj => by
            rcases Nat.lt_succ_iff_lt_or_eq.1 hj with h | h
            · exact HA.out j h
            · subst h; rw [H1.out, H2.out, HXY.out]), _, rfl⟩
          case measure => simp [intOf]; omega
        · rw [decide_eq_false hxy] at bq
          have E := Lib.hid (decide_eq_false (fun h : l = m => hxy (by
            have h3 := H1.out
            rw [h, H2.out] at h3
            exact (Option.some.inj h3).symm)))
          clear hxy
          obtain ⟨s, a1, a2, a3, a4⟩ := x
          obtain ⟨t, b1, b2, b3, b4⟩ := y
          simp only [Rw.val] at bq x0 x1 x2 x3 x4 y0 y1 y2 y3 y4
          go_wp2_with fail
          go_quiet (fail)
          go_wp2_with fail
          go_ret
          exact ⟨by rw [E.out]; rfl, Below.drewN' (Below.drewN' (Below.refl _ _) _) _⟩
      · have e : k = l.length := by omega
        subst e
        have E : Hid (decide (l = m) = true) := Lib.hid (decide_eq_true (List.ext_getElem? fun i => by
          by_cases hi : i < l.length
          · exact HA.out i hi
          · rw [List.getElem?_eq_none (by omega), List.getElem?_eq_none (by have := HL.out; omega)]))
        go_wp2_with fail
        go_ret
        exact ⟨by rw [E.out]; rfl, Below.drewN' (Below.refl _ _) _⟩
end Go.Proofs.YtcihbmifogfdpaaGreatDoor
end

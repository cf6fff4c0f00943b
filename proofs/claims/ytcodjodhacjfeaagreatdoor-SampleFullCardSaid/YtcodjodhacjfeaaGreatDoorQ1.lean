/-
  Plain law of texts: pieces between bytes, decimal numerals, sites. No program here.
-/
import Derived.Lib.AtoiAllCases
import Derived.Lib.ItoaMem
import Derived.Lib.SplitLaws
import Derived.Lib.IndexLaws
import Derived.Sort.Walk0
namespace Go.Proofs.YtcodjodhacjfeaaGreatDoor

/-! ### pieces -/
/-- the pieces of a text between the instances of a byte -/
def sp (c : UInt8) : List UInt8 → List (List UInt8)
  | [] => [[]]
  | b :: l => if b = c then [] :: sp c l else match sp c l with
    | [] => [[b]]
    | x :: r => (b :: x) :: r
theorem sp_cons (c b : UInt8) (l : List UInt8) : sp c (b :: l) = if b = c then [] :: sp c l else match sp c l with
    | [] => [[b]]
    | x :: r => (b :: x) :: r := rfl
theorem sp_ne (c : UInt8) : ∀ l, sp c l ≠ []
  | [] => by simp [sp]
  | b :: l => by
    unfold sp
    split
    · simp
    · split <;> simp
theorem sp_no {c : UInt8} : ∀ {x : List UInt8}, c ∉ x → sp c x = [x]
  | [], _ => rfl
  | b :: x, h => by
    have h1 : ¬ b = c := fun e => h (by simp [e])
    have h2 : c ∉ x := fun e => h (List.mem_cons_of_mem _ e)
    unfold sp
    rw [if_neg h1, sp_no h2]
theorem sp_app {c : UInt8} (y : List UInt8) : ∀ {x : List UInt8}, c ∉ x → sp c (x ++ c :: y) = x :: sp c y
  | [], _ => by simp [sp]
  | b :: x, h => by
    have h1 : ¬ b = c := fun e => h (by simp [e])
    have h2 : c ∉ x := fun e => h (List.mem_cons_of_mem _ e)
    rw [List.cons_append, sp_cons, if_neg h1, sp_app y h2]
/-- pieces put together again -/
def joinW (c : UInt8) : List (List UInt8) → List UInt8
  | [] => []
  | [x] => x
  | x :: y :: r => x ++ c :: joinW c (y :: r)
theorem join_sp (c : UInt8) : ∀ l, joinW c (sp c l) = l
  | [] => rfl
  | b :: l => by
    have ih := join_sp c l
    have hn := sp_ne c l
    unfold sp
    split
    · rename_i h
      subst h
      cases e : sp b l with
      | nil => exact absurd e hn
      | cons x r => rw [e] at ih; simp [joinW, ih]
    · cases e : sp c l with
      | nil => exact absurd e hn
      | cons x r =>
        rw [e] at ih
        cases r with
        | nil => simp [joinW] at ih ⊢; exact ih
        | cons y r => simp [joinW] at ih ⊢; exact ih
theorem sp_mem {c : UInt8} : ∀ {l x : List UInt8}, x ∈ sp c l → c ∉ x
  | [], x, h => by simp [sp] at h; subst h; simp
  | b :: l, x, h => by
    unfold sp at h
    split at h
    · rcases List.mem_cons.1 h with rfl | h
      · simp
      · exact sp_mem h
    · rename_i hb
      cases e : sp c l with
      | nil => exact absurd e (sp_ne c l)
      | cons y r =>
        rw [e] at h
        rcases List.mem_cons.1 h with rfl | h
        · have := sp_mem (l := l) (x := y) (by rw [e]; simp)
          intro hm
          rcases List.mem_cons.1 hm with h | h
          · exact hb h.symm
          · exact this h
        · exact sp_mem (l := l) (by rw [e]; exact List.mem_cons_of_mem _ h)
theorem index_cut {l : List UInt8} {c : UInt8} {i : Nat} (h : Lib.indexByte l c = i) : l = l.take i ++ c :: l.drop (i + 1) ∧ c ∉ l.take i ∧ i < l.length := by
  obtain ⟨e1, e2⟩ := Lib.indexByte_some h
  obtain ⟨hlt, e3⟩ := List.getElem?_eq_some_iff.1 e1
  refine ⟨?_, fun hm => ?_, hlt⟩
  · conv => lhs; rw [← List.take_append_drop i l, List.drop_eq_getElem_cons hlt, e3]
  · obtain ⟨k, hk, e⟩ := List.getElem_of_mem hm
    rw [List.length_take] at hk
    rw [List.getElem_take] at e
    exact e2 k (by omega) (by rw [List.getElem?_eq_getElem (by omega), e])
theorem index_not {l : List UInt8} {c : UInt8} (h : Lib.indexByte l c = -1) : c ∉ l := fun hm => by
  obtain ⟨k, hk, e⟩ := List.getElem_of_mem hm
  exact Lib.indexByte_none h k (by rw [List.getElem?_eq_getElem hk, e])
theorem index_case (l : List UInt8) (c : UInt8) : Lib.indexByte l c = -1 ∨ ∃ i : Nat, Lib.indexByte l c = i := by
  have := Lib.indexByte_ge l c
  rcases (by omega : Lib.indexByte l c = -1 ∨ 0 ≤ Lib.indexByte l c) with h | h
  · exact .inl h
  · exact .inr ⟨(Lib.indexByte l c).toNat, by omega⟩
theorem splitK_sp (c : UInt8) : ∀ (n : Nat) (l : List UInt8), l.length ≤ n → Lib.splitK [c] 0 (Lib.count l [c]) l = sp c l := by
  intro n
  induction n with
  | zero =>
    intro l hl
    have : l = [] := List.eq_nil_of_length_eq_zero (by omega)
    subst this
    rw [Lib.count_one]
    rfl
  | succ n ih =>
    intro l hl
    rcases index_case l c with h | ⟨i, h⟩
    · have h1 : Lib.index l [c] = -1 := by rw [Lib.index_one]; exact h
      rw [Lib.count_miss h1, sp_no (index_not h)]
      rfl
    · have h1 : Lib.index l [c] = i := by rw [Lib.index_one]; exact h
      obtain ⟨e1, e2, e3⟩ := index_cut h
      rw [Lib.count_hit (by simp) h1, Nat.add_comm 1]
      unfold Lib.splitK
      have hne : ¬ ((Lib.index l [c] == -1) = true) := fun e => by have := beq_iff_eq.1 e; omega
      rw [if_neg hne, h1]
      simp only [Int.toNat_natCast, Nat.add_zero, List.length_singleton]
      rw [ih _ (by rw [List.length_drop]; omega)]
      conv => rhs; rw [e1]
      rw [sp_app _ e2]

/-! ### numerals -/
theorem digit_nat {k : Nat} (h : k < 10) : (UInt8.ofNat (48 + k)).toNat = 48 + k := by
  rw [UInt8.toNat_ofNat']
  exact Nat.mod_eq_of_lt (by omega)
theorem decD_big {u : Nat} (h : ¬ u < 10) : Lib.decDigits u = Lib.decDigits (u / 10) ++ [UInt8.ofNat (48 + u % 10)] := by rw [Lib.decDigits, dif_neg h]
theorem decD_step {n d : Nat} (hn : 1 ≤ n) (hd : d < 10) : Lib.decDigits (10 * n + d) = Lib.decDigits n ++ [UInt8.ofNat (48 + d)] := by
  rw [decD_big (by omega), show (10 * n + d) / 10 = n by omega, show (10 * n + d) % 10 = d by omega]
theorem decD_all : ∀ (u : Nat), ∀ b ∈ Lib.decDigits u, 48 ≤ b.toNat ∧ b.toNat ≤ 57 := by
  intro u
  induction u using Nat.strongRecOn with
  | _ u ih =>
    intro b hb
    by_cases h : u < 10
    · rw [Lib.decDigits_one h, List.mem_singleton] at hb
      subst hb
      rw [digit_nat h]; omega
    · rw [decD_big h, List.mem_append, List.mem_singleton] at hb
      rcases hb with hb | rfl
      · exact ih (u / 10) (by omega) b hb
      · rw [digit_nat (Nat.mod_lt _ (by decide))]; omega
theorem decD_ne (u : Nat) : Lib.decDigits u ≠ [] := by
  intro h
  have := Lib.decDigits_length u
  rw [h] at this
  have := Lib.nDigits_pos u
  simp at *
  omega
theorem headOr {l : List UInt8} {o : Option UInt8} (h : l ≠ []) : l.head?.or o = l.head? := by
  cases l with
  | nil => exact absurd rfl h
  | cons b l => rfl
/-- no zero stands ahead -/
theorem decD_head : ∀ (u : Nat), 1 ≤ u → (Lib.decDigits u).head? ≠ some 48 := by
  intro u
  induction u using Nat.strongRecOn with
  | _ u ih =>
    intro h1
    by_cases h : u < 10
    · rw [Lib.decDigits_one h]
      intro e
      simp only [List.head?_cons, Option.some.injEq] at e
      have := digit_nat h
      rw [e] at this
      have h48 : (48 : UInt8).toNat = 48 := rfl
      omega
    · rw [decD_big h, List.head?_append, headOr (decD_ne _)]
      exact ih (u / 10) (by omega) (by omega)
theorem parse_cons (acc : Nat) (c : UInt8) (r : List UInt8) : Lib.parseUint10 acc (c :: r) = if 48 ≤ c.toNat ∧ c.toNat ≤ 57 then
      if 1844674407370955162 ≤ acc then Lib.NumEnd.range else if 18446744073709551616 ≤ acc * 10 + (c.toNat - 48) then Lib.NumEnd.range else Lib.parseUint10 (acc * 10 + (c.toNat - 48)) r
    else Lib.NumEnd.syntax := rfl
theorem parse_app : ∀ (l r : List UInt8) (acc v : Nat), Lib.parseUint10 acc l = .ok v → Lib.parseUint10 acc (l ++ r) = Lib.parseUint10 v r
  | [], r, acc, v, h => by
    simp only [Lib.parseUint10] at h
    injection h with h
    subst h
    rfl
  | c :: l, r, acc, v, h => by
    rw [parse_cons] at h
    rw [List.cons_append, parse_cons]
    split at h
    · rename_i h1
      rw [if_pos h1]
      split at h
      · cases h
      · rename_i h2
        rw [if_neg h2]
        split at h
        · cases h
        · rename_i h3
          rw [if_neg h3]
          exact parse_app l r _ v h
    · cases h
theorem parse_dec : ∀ (u : Nat), u < 18446744073709551616 → Lib.parseUint10 0 (Lib.decDigits u) = .ok u := by
  intro u
  induction u using Nat.strongRecOn with
  | _ u ih =>
    intro hu
    have one : ∀ acc k : Nat, k < 10 → acc < 1844674407370955162 → acc * 10 + k < 18446744073709551616 → Lib.parseUint10 acc [UInt8.ofNat (48 + k)] = .ok (acc * 10 + k) := by
      intro acc k hk h1 h2
      have e := digit_nat hk
      unfold Lib.parseUint10
      rw [e, if_pos (by omega), if_neg (by omega), if_neg (by omega)]
      unfold Lib.parseUint10
      congr 1
      omega
    by_cases h : u < 10
    · rw [Lib.decDigits_one h, one 0 u h (by omega) (by omega)]
      congr 1
      omega
    · rw [decD_big h, parse_app _ _ _ _ (ih (u / 10) (by omega) (by omega)), one _ _ (Nat.mod_lt _ (by decide)) (by omega) (by omega)]
      congr 1
      omega
theorem parseMag_dec (u : Nat) (hu : u < 18446744073709551616) : Lib.parseMag (Lib.decDigits u) = .ok u := by
  unfold Lib.parseMag
  rw [if_neg (decD_ne u)]
  exact parse_dec u hu
theorem atoi_itoa (x : Int) (h1 : -9223372036854775808 ≤ x) (h2 : x ≤ 9223372036854775807) : Lib.atoiAll (Lib.itoa x) = .ok x := by
  unfold Lib.itoa
  split
  · rw [Lib.atoiAll_minus, parseMag_dec _ (by omega)]
    simp only [Lib.signed]
    rw [if_neg (by omega)]
    congr 1
    omega
  · have hp := parseMag_dec x.toNat (by omega)
    cases e : Lib.decDigits x.toNat with
    | nil => exact absurd e (decD_ne _)
    | cons c r =>
      have hc := decD_all x.toNat c (by rw [e]; simp)
      rw [Lib.atoiAll_plain c r (by omega) (by omega), ← e, hp]
      simp only [Lib.signless]
      rw [if_neg (by omega)]
      congr 1
      omega
theorem itoa_mem {x : Int} {b : UInt8} (h : b ∈ Lib.itoa x) : b = 45 ∨ 48 ≤ b.toNat ∧ b.toNat ≤ 57 := by
  unfold Lib.itoa at h
  split at h
  · rcases List.mem_cons.1 h with h | h
    · exact .inl h
    · exact .inr (decD_all _ _ h)
  · exact .inr (decD_all _ _ h)
theorem itoa_no32 (x : Int) : (32 : UInt8) ∉ Lib.itoa x := fun h => by
  have h32 : (32 : UInt8).toNat = 32 := rfl
  rcases itoa_mem h with h | h
  · exact absurd h (by decide)
  · omega
theorem itoa_no10 (x : Int) : (10 : UInt8) ∉ Lib.itoa x := fun h => by
  have h32 : (10 : UInt8).toNat = 10 := rfl
  rcases itoa_mem h with h | h
  · exact absurd h (by decide)
  · omega
theorem nDigits_le : ∀ (k u : Nat), u < 10 ^ (k + 1) → Lib.nDigits u ≤ k + 1
  | 0, u, h => by rw [Lib.nDigits_small (by simpa using h)]; exact Nat.le_refl _
  | k + 1, u, h => by
    by_cases h1 : u < 10
    · rw [Lib.nDigits_small h1]; omega
    · rw [Lib.nDigits_big h1]
      have := nDigits_le k (u / 10) (by rw [Nat.pow_succ] at h; omega)
      omega

/-- digits alone -/
def natFrom (n : Nat) : List UInt8 → Option Nat
  | [] => some n
  | b :: l => if 48 ≤ b.toNat ∧ b.toNat ≤ 57 then natFrom (10 * n + (b.toNat - 48)) l else none
/-- a number in decimal, no zero ahead, of so many digits at most -/
def natP (most : Nat) (s : List UInt8) : Option Nat := if s.length < 1 ∨ most < s.length ∨ (1 < s.length ∧ s.head? = some 48) then none else natFrom 0 s
theorem byte_of {b : UInt8} {d : Nat} (h : b.toNat = 48 + d) (hd : d < 10) : b = UInt8.ofNat (48 + d) := UInt8.toNat_inj.1 (by rw [digit_nat hd, h])
theorem natFrom_dec : ∀ (l : List UInt8) (n v : Nat), 1 ≤ n → natFrom n l = some v → Lib.decDigits v = Lib.decDigits n ++ l
  | [], n, v, _, h => by simp only [natFrom, Option.some.injEq] at h; subst h; simp
  | b :: l, n, v, hn, h => by
    unfold natFrom at h
    split at h
    · rename_i hb
      rw [natFrom_dec l _ v (by omega) h, decD_step hn (by omega), ← byte_of (b := b) (d := b.toNat - 48) (by omega) (by omega)]
      simp
    · cases h
theorem natFrom_cons (n : Nat) (b : UInt8) (l : List UInt8) : natFrom n (b :: l) = if 48 ≤ b.toNat ∧ b.toNat ≤ 57 then natFrom (10 * n + (b.toNat - 48)) l else none := rfl
theorem natFrom_app : ∀ (l r : List UInt8) (n v : Nat), natFrom n l = some v → natFrom n (l ++ r) = natFrom v r
  | [], r, n, v, h => by simp only [natFrom, Option.some.injEq] at h; subst h; rfl
  | b :: l, r, n, v, h => by
    rw [natFrom_cons] at h
    rw [List.cons_append, natFrom_cons]
    split at h
    · rename_i hb
      rw [if_pos hb]
      exact natFrom_app l r _ v h
    · cases h
theorem natFrom_of : ∀ (u : Nat), natFrom 0 (Lib.decDigits u) = some u := by
  intro u
  induction u using Nat.strongRecOn with
  | _ u ih =>
    have one : ∀ n k : Nat, k < 10 → natFrom n [UInt8.ofNat (48 + k)] = some (10 * n + k) := by
      intro n k hk
      have e := digit_nat hk
      unfold natFrom
      rw [e, if_pos (by omega)]
      unfold natFrom
      congr 1
      omega
    by_cases h : u < 10
    · rw [Lib.decDigits_one h, one 0 u h]; congr 1; omega
    · rw [decD_big h, natFrom_app _ _ _ _ (ih (u / 10) (by omega)), one _ _ (Nat.mod_lt _ (by decide))]
      congr 1
      omega
theorem natP_dec {most : Nat} {s : List UInt8} {v : Nat} (h : natP most s = some v) : s = Lib.decDigits v ∧ s.length ≤ most := by
  unfold natP at h
  split at h
  · cases h
  · rename_i hc
    simp only [not_or, not_and] at hc
    refine ⟨?_, by omega⟩
    cases s with
    | nil => simp at hc
    | cons b l =>
      unfold natFrom at h
      split at h
      · rename_i hb
        cases l with
        | nil =>
          simp only [natFrom, Option.some.injEq] at h
          subst h
          rw [Lib.decDigits_one (by omega), show 48 + (10 * 0 + (b.toNat - 48)) = 48 + (b.toNat - 48) by omega, ← byte_of (b := b) (d := b.toNat - 48) (by omega) (by omega)]
        | cons c l =>
          have h48 : b ≠ 48 := fun e => hc.2.2 (by simp) (by simp [e])
          have hb1 : b.toNat ≠ 48 := fun e => h48 (UInt8.toNat_inj.1 e)
          rw [natFrom_dec _ _ v (by omega) h, Lib.decDigits_one (by omega), show 48 + (10 * 0 + (b.toNat - 48)) = 48 + (b.toNat - 48) by omega, ← byte_of (b := b) (d := b.toNat - 48) (by omega) (by omega)]
          rfl
      · cases h
theorem natP_of {most v : Nat} (h : Lib.nDigits v ≤ most) : natP most (Lib.decDigits v) = some v := by
  have hl := Lib.decDigits_length v
  have hp := Lib.nDigits_pos v
  unfold natP
  rw [if_neg, natFrom_of]
  rintro (h1 | h1 | ⟨h1, h2⟩)
  · omega
  · omega
  · refine decD_head v ?_ h2
    rcases Nat.eq_zero_or_pos v with h | h
    · subst h; rw [Lib.nDigits_small (by omega)] at hl; omega
    · exact h
end Go.Proofs.YtcodjodhacjfeaaGreatDoor

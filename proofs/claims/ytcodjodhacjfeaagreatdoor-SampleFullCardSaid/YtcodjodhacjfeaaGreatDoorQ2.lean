/-
  Plain law of a profile's text: Parse of a string is what chapter 14 says; Parse of a profile's text is the profile.
-/
import Derived.Test.YtcodjodhacjfeaaGreatDoorQ1
import Derived.Laws.RangeAny
import Derived.Shelf.GgClosure.StringsIndexFunc
import Derived.Test.YtcodjodhacjfeaaGreatDoorTC
namespace Go.Proofs.YtcodjodhacjfeaaGreatDoor
open Go.RowKit

/-! ### sites -/
def siteB (b : UInt8) : Bool := !oddR b.toNat
def siteL (l : List UInt8) : Bool := decide (1 ≤ l.length) && decide (l.length ≤ 16) && l.all siteB
theorem oddR_high {c : Nat} (h : 128 ≤ c) : oddR c = true := by
  unfold oddR
  simp
  omega
theorem idx_odd (s : ByteArray) : ∀ (f pos : Nat), s.size ≤ pos + f → decide (0 ≤ Lib.idxFuncFrom oddR true s f pos) = !((s.data.toList.drop pos).all siteB)
  | 0, pos, h => by
    have : s.data.toList.drop pos = [] := List.drop_eq_nil_of_le (by simpa using h)
    rw [this]
    rfl
  | f + 1, pos, h => by
    unfold Lib.idxFuncFrom
    by_cases hp : pos < s.size
    · have hd : s.data.toList.drop pos = s[pos] :: s.data.toList.drop (pos + 1) := List.drop_eq_getElem_cons (by simpa using hp)
      rw [if_pos hp, hd, List.all_cons]
      by_cases hb : (s[pos]).toNat < 128
      · rw [Utf8_ascii s pos hp hb]
        simp only
        by_cases ho : oddR (s[pos]).toNat = true
        · rw [if_pos ho]
          have : siteB s[pos] = false := by unfold siteB; rw [ho]; rfl
          rw [this]
          simp
        · rw [if_neg ho, idx_odd s f (pos + 1) (by omega)]
          have : siteB s[pos] = true := by unfold siteB; simpa using ho
          rw [this, Bool.true_and]
      · have hh := (decode_high s pos hp (by omega)).1
        rw [if_pos (oddR_high hh)]
        have : siteB s[pos] = false := by unfold siteB; rw [oddR_high (by omega)]; rfl
        rw [this]
        simp
    · have : s.data.toList.drop pos = [] := List.drop_eq_nil_of_le (by simpa using hp)
      rw [if_neg hp, this]
      rfl
where
  Utf8_ascii (s : ByteArray) (pos : Nat) (h : pos < s.size) (ha : (s[pos]).toNat < 128) : Utf8.decode s pos = ((s[pos]).toNat, 1) := decode_ascii s pos h ha
theorem isSite_L (s : ByteArray) : isSiteB s = siteL s.data.toList := by
  unfold isSiteB siteL Lib.idxFunc
  rw [idx_odd s s.size 0 (by omega)]
  rw [List.drop_zero, Bool.not_not]
  rfl
theorem siteL_no32 {l : List UInt8} (h : siteL l = true) : (32 : UInt8) ∉ l ∧ (10 : UInt8) ∉ l := by
  unfold siteL at h
  simp only [Bool.and_eq_true, List.all_eq_true] at h
  exact ⟨fun hm => absurd (h.2 _ hm) (by decide), fun hm => absurd (h.2 _ hm) (by decide)⟩

/-! ### rows -/
def body (r : Rw) : List UInt8 := r.site.data.toList ++ (numT r.a ++ numT r.b ++ numT r.c ++ numT r.d)
theorem rowT_body (r : Rw) : rowT r = body r ++ [10] := rfl
structure RwOk (r : Rw) : Prop where
  site : isSiteB r.site = true
  a : numOk r.a = true
  b : numOk r.b = true
  c : numOk r.c = true
  d : numOk r.d = true
theorem isProfB_ok {l : List Rw} (h : isProfB l = true) : l.length ≤ 200 ∧ ∀ r ∈ l, RwOk r := by
  unfold isProfB at h
  rw [Bool.and_eq_true, List.all_eq_true] at h
  refine ⟨of_decide_eq_true h.1, fun r hr => ?_⟩
  obtain ⟨i, hi, e⟩ := List.getElem_of_mem hr
  have := h.2 i (List.mem_range.2 hi)
  rw [List.getElem?_eq_getElem hi, e] at this
  have this : rowOk l i r = true := this
  unfold rowOk at this
  simp only [Bool.and_eq_true] at this
  exact ⟨this.1.1.1.1, this.2.1.1.1, this.2.1.1.2, this.2.1.2, this.2.2⟩
theorem numOk_iff {x : Int} : numOk x = true ↔ 0 ≤ x ∧ x ≤ 1099511627776 := by simp [numOk]
theorem body_no10 {r : Rw} (h : RwOk r) : (10 : UInt8) ∉ body r := by
  have h1 := (siteL_no32 (by rw [← isSite_L]; exact h.site)).2
  have h2 : ∀ x : Int, (10 : UInt8) ∉ numT x := fun x hm => by
    rcases List.mem_cons.1 hm with h | h
    · exact absurd h (by decide)
    · exact itoa_no10 x h
  unfold body
  simp only [List.mem_append, not_or]
  exact ⟨h1, ⟨⟨⟨h2 _, h2 _⟩, h2 _⟩, h2 _⟩⟩
theorem body_sp {r : Rw} (h : isSiteB r.site = true) : sp 32 (body r) = [r.site.data.toList, Lib.itoa r.a, Lib.itoa r.b, Lib.itoa r.c, Lib.itoa r.d] := by
  have h1 := (siteL_no32 (by rw [← isSite_L]; exact h)).1
  have e : body r = r.site.data.toList ++ 32 :: (Lib.itoa r.a ++ 32 :: (Lib.itoa r.b ++ 32 :: (Lib.itoa r.c ++ 32 :: Lib.itoa r.d))) := by simp [body, numT]
  rw [e, sp_app _ h1, sp_app _ (itoa_no32 _), sp_app _ (itoa_no32 _), sp_app _ (itoa_no32 _), sp_no (itoa_no32 _)]

/-! ### Parse of the program -/
theorem bytes_eta (x : ByteArray) : (⟨x.data.toList.toArray⟩ : ByteArray) = x := by cases x; rfl
theorem pieces_of {s : ByteArray} {L : List (List UInt8)} (h : sp 32 s.data.toList = L) : pieces s = L.map fun l => ⟨l.toArray⟩ := by
  have h1 := Lib.splitB_data ⟨#[32]⟩ 0 (Lib.countB s ⟨#[32]⟩) s
  have h2 : (pieces s).map (·.data.toList) = L := by
    show (Lib.splitB ⟨#[32]⟩ 0 (Lib.countB s ⟨#[32]⟩) s).map (·.data.toList) = L
    rw [h1, ← h]
    exact splitK_sp 32 _ _ (Nat.le_refl _)
  rw [← h2, List.map_map]
  conv => lhs; rw [← List.map_id (pieces s)]
  exact List.map_congr_left fun x _ => (bytes_eta x).symm
theorem trim_of {x : ByteArray} {b : List UInt8} (h : x.data.toList = b ++ [10]) : (trimN x).data.toList = b := by
  show Lib.trimSuffix x.data.toList [10] = b
  rw [h]
  unfold Lib.trimSuffix
  rw [if_pos (by simp [Lib.hasSuffix])]
  simp
theorem atoiO_of {s : ByteArray} {x : Int} (h : s.data.toList = Lib.itoa x) (hx : numOk x = true) : atoiO s = some x := by
  rw [numOk_iff] at hx
  unfold atoiO
  rw [h, atoi_itoa x (by omega) (by omega)]
theorem lineRow_of {x : ByteArray} {r : Rw} (h : x.data.toList = rowT r) (hr : RwOk r) : lineRow x = some r := by
  unfold lineRow
  have h1 := trim_of (h.trans (rowT_body r))
  rw [pieces_of (h1 ▸ body_sp hr.site)]
  simp only [List.map_cons, List.map_nil, rowOf]
  rw [atoiO_of rfl hr.a, atoiO_of rfl hr.b, atoiO_of rfl hr.c, atoiO_of rfl hr.d]
theorem cutL_of {r : ByteArray} {b rest : List UInt8} (h : r.data.toList = b ++ 10 :: rest) (hb : (10 : UInt8) ∉ b) : (cutL r).1.data.toList = b ++ [10] ∧ (cutL r).2.data.toList = rest := by
  have hi : Lib.indexByte r.data.toList 10 = (b.length : Int) := by
    rcases index_case r.data.toList 10 with e | ⟨i, e⟩
    · exact absurd (by rw [h]; simp) (index_not e)
    · obtain ⟨e1, e2⟩ := Lib.indexByte_some e
      rcases Nat.lt_trichotomy i b.length with h1 | h1 | h1
      · rw [h, List.getElem?_append_left h1] at e1
        exact absurd (List.mem_of_getElem? e1) hb
      · rw [e, h1]
      · exact absurd (by rw [h]; simp) (e2 b.length h1)
  unfold cutL
  simp only [hi]
  rw [if_pos (by omega)]
  simp only
  rw [Lib.extract_data, Lib.extract_data, h]
  have e : ((b.length : Int) + 1).toNat = b.length + 1 := by omega
  have hsz : r.size = b.length + (1 + rest.length) := by rw [Lib.size_eq, h]; simp; omega
  rw [e]
  constructor
  · rw [List.drop_zero, Nat.sub_zero, show b ++ 10 :: rest = (b ++ [10]) ++ rest by simp, List.take_left' (by simp)]
  · rw [show b ++ 10 :: rest = (b ++ [10]) ++ rest by simp, List.drop_left' (by simp), List.take_of_length_le (by omega)]
theorem parse_rows : ∀ (l : List Rw) (r : ByteArray) (acc : List Rw), r.data.toList = textL l → (∀ x ∈ l, RwOk x) → acc.length + l.length ≤ 200 → parseF r.size r acc = some (acc ++ l)
  | [], r, acc, h, _, _ => by
    have : r.size = 0 := by rw [Lib.size_eq, h]; rfl
    rw [this]
    simp [parseF]
  | x :: l, r, acc, h, hok, hlen => by
    have hx := hok x (List.mem_cons_self ..)
    have h1 : r.data.toList = body x ++ 10 :: textL l := by rw [h]; simp [textL, rowT_body]
    obtain ⟨h2, h3⟩ := cutL_of h1 (body_no10 hx)
    have hr : 0 < r.size := by rw [Lib.size_eq, h1]; simp; omega
    rw [parseF_step hr, lineRow_of (h2.trans (rowT_body x).symm) hx]
    simp only [List.length_cons] at hlen
    simp only
    rw [if_pos (by omega), parse_rows l _ _ h3 (fun y hy => hok y (List.mem_cons_of_mem _ hy)) (by simp; omega)]
    simp
/-- Parse of a profile's text is the profile -/
theorem parse_text {l : List Rw} (h : isProfB l = true) : parseP ⟨(textL l).toArray⟩ = some l := by
  obtain ⟨h1, h2⟩ := isProfB_ok h
  have hp : parseL ⟨(textL l).toArray⟩ = some l := by
    unfold parseL
    rw [parse_rows l _ [] rfl h2 (by simpa using h1)]
    rfl
  unfold parseP
  rw [hp]
  simp [h]
theorem parse_inv {s : ByteArray} {l : List Rw} (h : parseP s = some l) : isProfB l = true ∧ textL l = s.data.toList := by
  unfold parseP at h
  split at h
  · split at h
    · rename_i h1
      cases h
      exact h1
    · cases h
  · cases h

/-! ### Parse of chapter 14 -/
def rRow : List (List UInt8) → Option Rw
  | [s, p, q, t, u] => match natP 13 p, natP 13 q, natP 13 t, natP 13 u with
    | some a, some b, some c, some d => some ⟨⟨s.toArray⟩, a, b, c, d⟩
    | _, _, _, _ => none
  | _ => none
def rRows : Nat → List (List UInt8) → Option (List Rw)
  | _, [] => some []
  | i, x :: l => if 200 ≤ i then none else match rRow (sp 32 x) with
    | some r => (rRows (i + 1) l).map fun rs => r :: rs
    | none => none
def rParse (s : List UInt8) : Option (List Rw) :=
  if (sp 10 s).getLast? = some [] then match rRows 0 (sp 10 s).dropLast with
    | some l => if isProfB l = true then some l else none
    | none => none
  else none
theorem itoa_nat (v : Nat) : Lib.itoa (v : Int) = Lib.decDigits v := Lib.itoa_nonneg v
theorem rRow_inv {x : List UInt8} {r : Rw} (h : rRow (sp 32 x) = some r) : x = body r := by
  have hj := join_sp 32 x
  generalize sp 32 x = w at h hj
  unfold rRow at h
  split at h
  · rename_i s p q t u
    split at h
    · rename_i a b c d ha hb hc hd
      cases h
      rw [← hj]
      have ea := (natP_dec ha).1
      have eb := (natP_dec hb).1
      have ec := (natP_dec hc).1
      have ed := (natP_dec hd).1
      simp [joinW, body, numT, itoa_nat, ← ea, ← eb, ← ec, ← ed]
    · cases h
  · cases h
theorem natP_num {x : Int} (h : numOk x = true) : ∃ v : Nat, x = v ∧ natP 13 (Lib.itoa x) = some v := by
  rw [numOk_iff] at h
  obtain ⟨v, rfl⟩ : ∃ v : Nat, x = v := ⟨x.toNat, by omega⟩
  refine ⟨v, rfl, ?_⟩
  rw [itoa_nat, natP_of (nDigits_le 12 v (by omega))]
theorem rRow_of {r : Rw} (h : RwOk r) : rRow (sp 32 (body r)) = some r := by
  rw [body_sp h.site]
  obtain ⟨s, a, b, c, d⟩ := r
  obtain ⟨a, rfl, ha⟩ := natP_num h.a
  obtain ⟨b, rfl, hb⟩ := natP_num h.b
  obtain ⟨c, rfl, hc⟩ := natP_num h.c
  obtain ⟨d, rfl, hd⟩ := natP_num h.d
  simp only [rRow]
  simp only at ha hb hc hd
  rw [ha, hb, hc, hd]
theorem rRows_inv : ∀ (i : Nat) (L : List (List UInt8)) (l : List Rw), rRows i L = some l → L = l.map body
  | i, [], l, h => by simp only [rRows, Option.some.injEq] at h; subst h; rfl
  | i, x :: L, l, h => by
    unfold rRows at h
    split at h
    · cases h
    · split at h
      · rename_i r hr
        obtain ⟨rs, h1, rfl⟩ := Option.map_eq_some_iff.1 h
        rw [List.map_cons, ← rRows_inv (i + 1) L rs h1, ← rRow_inv hr]
      · cases h
theorem rRows_of : ∀ (i : Nat) (l : List Rw), i + l.length ≤ 200 → (∀ r ∈ l, RwOk r) → rRows i (l.map body) = some l
  | i, [], _, _ => rfl
  | i, r :: l, h, hok => by
    rw [List.length_cons] at h
    rw [List.map_cons]
    unfold rRows
    rw [if_neg (by omega), rRow_of (hok r (List.mem_cons_self ..))]
    simp only
    rw [rRows_of (i + 1) l (by omega) fun x hx => hok x (List.mem_cons_of_mem _ hx)]
    rfl
theorem sp_text : ∀ (l : List Rw), (∀ r ∈ l, RwOk r) → sp 10 (textL l) = l.map body ++ [[]]
  | [], _ => rfl
  | r :: l, h => by
    have e : textL (r :: l) = body r ++ 10 :: textL l := by simp [textL, rowT_body]
    rw [e, sp_app _ (body_no10 (h r (List.mem_cons_self ..))), sp_text l fun x hx => h x (List.mem_cons_of_mem _ hx)]
    rfl
theorem join_text : ∀ (l : List Rw), joinW 10 (l.map body ++ [[]]) = textL l
  | [] => rfl
  | r :: l => by
    have ih := join_text l
    have e : textL (r :: l) = body r ++ 10 :: textL l := by simp [textL, rowT_body]
    rw [e, ← ih, List.map_cons, List.cons_append]
    cases l with
    | nil => simp [joinW]
    | cons y l => simp [joinW]
theorem rParse_inv {s : List UInt8} {l : List Rw} (h : rParse s = some l) : isProfB l = true ∧ textL l = s := by
  unfold rParse at h
  split at h
  · rename_i hl
    split at h
    · rename_i l' h1
      split at h
      · rename_i h2
        cases h
        refine ⟨h2, ?_⟩
        have hn := sp_ne 10 s
        rw [List.getLast?_eq_some_getLast hn, Option.some.injEq] at hl
        rw [← join_text l, ← rRows_inv _ _ _ h1]
        conv => rhs; rw [← join_sp 10 s]
        congr 1
        conv => rhs; rw [← List.dropLast_concat_getLast hn, hl]
      · cases h
    · cases h
  · cases h
theorem rParse_of {l : List Rw} (h : isProfB l = true) : rParse (textL l) = some l := by
  obtain ⟨h1, h2⟩ := isProfB_ok h
  unfold rParse
  rw [sp_text l h2]
  simp only [List.getLast?_append, List.getLast?_singleton, Option.some_or, if_true, List.dropLast_concat]
  rw [rRows_of 0 l (by omega) h2]
  simp [h]
/-- Parse of any string is what chapter 14 says -/
theorem parse_same (s : ByteArray) : parseP s = rParse s.data.toList := by
  cases e : rParse s.data.toList with
  | some l =>
    obtain ⟨h1, h2⟩ := rParse_inv e
    have := parse_text h1
    rw [h2, bytes_eta] at this
    exact this
  | none =>
    cases e2 : parseP s with
    | none => rfl
    | some l =>
      obtain ⟨h1, h2⟩ := parse_inv e2
      have := rParse_of h1
      rw [h2, e] at this
      cases this
end Go.Proofs.YtcodjodhacjfeaaGreatDoor

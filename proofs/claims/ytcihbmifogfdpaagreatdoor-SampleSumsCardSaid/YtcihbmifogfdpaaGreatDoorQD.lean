/-
  Plain law of differences: sorted sums of rows; what determines them.
-/
import Derived.Test.YtcihbmifogfdpaaGreatDoorRA
import Derived.Test.YtcihbmifogfdpaaGreatDoorT3
import Derived.Sort.Walk0
namespace Go.Proofs.YtcihbmifogfdpaaGreatDoor
open Go.RowKit Go.Sort

def ltB (a b : ByteArray) : Bool := Op.bytesLess a.toList b.toList
theorem ltB_iff {a b : ByteArray} : ltB a b = true ↔ a.data.toList < b.data.toList := by
  unfold ltB
  rw [bytesLess_eq, ByteArray.toList_eq, ByteArray.toList_eq, decide_eq_true_eq]
theorem eqB_iff {a b : ByteArray} : (a.toList == b.toList) = true ↔ a = b := by
  rw [beq_iff_eq, ByteArray.toList_eq, ByteArray.toList_eq]
  exact ⟨fun h => Go.WideShapes.bytes_inj h, fun h => by rw [h]⟩
theorem ltB_irrefl (a : ByteArray) : ltB a a = false := by
  rw [← Bool.not_eq_true, ltB_iff]
  exact List.lt_irrefl _
theorem ltB_trans {a b c : ByteArray} (h : ltB a b = true) (h2 : ltB b c = true) : ltB a c = true := by
  rw [ltB_iff] at *
  exact List.lt_trans h h2
theorem ltB_tri {a b : ByteArray} (h : ltB a b = false) (hn : a ≠ b) : ltB b a = true := by
  rw [← Bool.not_eq_true, ltB_iff] at h
  rw [ltB_iff]
  have h1 : b.data.toList ≤ a.data.toList := List.not_lt.1 h
  by_cases h2 : b.data.toList < a.data.toList
  · exact h2
  · exact absurd (Go.WideShapes.bytes_inj (List.le_antisymm h1 (List.not_lt.1 h2))).symm hn

/-- two rows of a site as one -/
def plusR (x r : Rw) : Rw := ⟨x.site, x.a + r.a, x.b + r.b, x.c + r.c, x.d + r.d⟩
def addR (r : Rw) : List Rw → List Rw
  | [] => [r]
  | x :: l => if ltB x.site r.site = true then x :: addR r l else if (x.site.toList == r.site.toList) = true then plusR x r :: l else r :: x :: l
theorem addR_at (r : Rw) : ∀ (l : List Rw) (k : Nat), k ≤ l.length → (∀ j x, j < k → l[j]? = some x → ltB x.site r.site = true) → addR r l = l.take k ++ addR r (l.drop k)
  | l, 0, _, _ => by simp
  | [], k + 1, h, _ => by simp at h
  | x :: l, k + 1, h, hx => by
    have h0 := hx 0 x (by omega) rfl
    rw [addR, if_pos h0, addR_at r l k (by simpa using h) fun j y hj hy => hx (j + 1) y (by omega) (by simpa using hy)]
    rfl
def fld : Nat → Rw → Int
  | 0, r => r.a
  | 1, r => r.b
  | 2, r => r.c
  | _, r => r.d
theorem fld_ext {r q : Rw} (hs : r.site = q.site) (h : ∀ j, fld j r = fld j q) : r = q := by
  obtain ⟨s, a, b, c, d⟩ := r
  obtain ⟨t, e, f, g, i⟩ := q
  have h0 := h 0; have h1 := h 1; have h2 := h 2; have h3 := h 3
  simp only [fld] at h0 h1 h2 h3 hs
  subst h0 h1 h2 h3 hs
  rfl
theorem fld_plus (j : Nat) (x r : Rw) : fld j (plusR x r) = fld j x + fld j r := by
  match j with
  | 0 | 1 | 2 | _ + 3 => rfl
/-- what the rows of a site hold in all -/
def tot (j : Nat) (l : List Rw) (s : ByteArray) : Int := match l with
  | [] => 0
  | r :: l => (if r.site = s then fld j r else 0) + tot j l s
theorem tot_app (j : Nat) (s : ByteArray) : ∀ l m : List Rw, tot j (l ++ m) s = tot j l s + tot j m s
  | [], m => by simp [tot]
  | r :: l, m => by simp only [List.cons_append, tot, tot_app j s l m]; omega
theorem tot_perm (j : Nat) (s : ByteArray) {l m : List Rw} (h : l.Perm m) : tot j l s = tot j m s := by
  induction h with
  | nil => rfl
  | cons x _ ih => simp only [tot, ih]
  | swap x y l => simp only [tot]; omega
  | trans _ _ h1 h2 => rw [h1, h2]
theorem tot_addR (j : Nat) (r : Rw) (s : ByteArray) : ∀ l, tot j (addR r l) s = tot j l s + (if r.site = s then fld j r else 0)
  | [] => by simp [addR, tot]
  | x :: l => by
    unfold addR
    split
    · simp only [tot, tot_addR j r s l]; omega
    · split
      · rename_i h
        have e := eqB_iff.1 h
        simp only [tot, fld_plus]
        have : (plusR x r).site = x.site := rfl
        rw [this, e]
        split <;> omega
      · simp only [tot]; omega
/-- the sites rise -/
def Srt (l : List Rw) : Prop := l.Pairwise fun x y => ltB x.site y.site = true
theorem addR_sites {r x : Rw} : ∀ {l : List Rw}, x ∈ addR r l → x.site = r.site ∨ ∃ y ∈ l, y.site = x.site
  | [], h => by simp [addR] at h; exact .inl (by rw [h])
  | y :: l, h => by
    unfold addR at h
    split at h
    · rcases List.mem_cons.1 h with rfl | h
      · exact .inr ⟨_, List.mem_cons_self .., rfl⟩
      · rcases addR_sites h with h | ⟨z, hz, h⟩
        · exact .inl h
        · exact .inr ⟨z, List.mem_cons_of_mem _ hz, h⟩
    · split at h
      · rcases List.mem_cons.1 h with rfl | h
        · exact .inr ⟨y, List.mem_cons_self .., rfl⟩
        · exact .inr ⟨x, List.mem_cons_of_mem _ h, rfl⟩
      · rcases List.mem_cons.1 h with rfl | h
        · exact .inl rfl
        · exact .inr ⟨x, h, rfl⟩
theorem srt_addR (r : Rw) : ∀ {l : List Rw}, Srt l → Srt (addR r l)
  | [], _ => by simp [addR, Srt]
  | y :: l, h => by
    have h' := List.pairwise_cons.1 h
    unfold addR
    split
    · rename_i h1
      refine List.pairwise_cons.2 ⟨fun x hx => ?_, srt_addR r h'.2⟩
      rcases addR_sites hx with h2 | ⟨z, hz, h2⟩
      · rw [h2]; exact h1
      · rw [← h2]; exact h'.1 z hz
    · split
      · exact List.pairwise_cons.2 ⟨h'.1, h'.2⟩
      · rename_i h1 h2
        rw [Bool.not_eq_true] at h1
        have h3 := ltB_tri h1 (fun e => h2 (eqB_iff.2 e))
        refine List.pairwise_cons.2 ⟨fun x hx => ?_, h⟩
        rcases List.mem_cons.1 hx with rfl | hx
        · exact h3
        · exact ltB_trans h3 (h'.1 x hx)
/-- a row that holds something -/
def nz (r : Rw) : Bool := decide (r.a ≠ 0) || decide (r.b ≠ 0) || decide (r.c ≠ 0) || decide (r.d ≠ 0)
theorem nz_fld {r : Rw} (h : nz r = true) : ∃ j, fld j r ≠ 0 := by
  simp only [nz, Bool.or_eq_true, decide_eq_true_eq] at h
  rcases h with ((h | h) | h) | h
  · exact ⟨0, h⟩
  · exact ⟨1, h⟩
  · exact ⟨2, h⟩
  · exact ⟨3, h⟩
theorem nz_not {r : Rw} (h : nz r = false) (j : Nat) : fld j r = 0 := by
  simp only [nz, Bool.or_eq_false_iff, decide_eq_false_iff_not, Decidable.not_not] at h
  match j with
  | 0 => exact h.1.1.1
  | 1 => exact h.1.1.2
  | 2 => exact h.1.2
  | _ + 3 => exact h.2
theorem tot_nz (j : Nat) (s : ByteArray) : ∀ l : List Rw, tot j (l.filter nz) s = tot j l s
  | [] => rfl
  | r :: l => by
    rw [List.filter_cons]
    split
    · simp only [tot, tot_nz j s l]
    · rename_i h
      rw [Bool.not_eq_true] at h
      simp only [tot, tot_nz j s l, nz_not h j]
      split <;> omega
theorem srt_filter {l : List Rw} (p : Rw → Bool) (h : Srt l) : Srt (l.filter p) := List.Pairwise.filter p h
theorem tot_out (j : Nat) (s : ByteArray) : ∀ {l : List Rw}, (∀ r ∈ l, r.site ≠ s) → tot j l s = 0
  | [], _ => rfl
  | r :: l, h => by
    simp only [tot, if_neg (h r (List.mem_cons_self ..)), tot_out j s fun q hq => h q (List.mem_cons_of_mem _ hq)]
    omega
theorem ltB_ne {a b : ByteArray} (h : ltB a b = true) : a ≠ b := fun e => by rw [e, ltB_irrefl] at h; cases h
theorem tot_mem (j : Nat) : ∀ {l : List Rw}, (l.map Rw.site).Nodup → ∀ {r : Rw}, r ∈ l → tot j l r.site = fld j r
  | [], _, r, h => by cases h
  | x :: l, hd, r, h => by
    rw [List.map_cons, List.nodup_cons] at hd
    rcases List.mem_cons.1 h with rfl | h
    · simp only [tot, if_pos]
      rw [tot_out j _ fun q hq e => hd.1 (List.mem_map.2 ⟨q, hq, e⟩)]
      omega
    · have hne : x.site ≠ r.site := fun e => hd.1 (List.mem_map.2 ⟨r, h, e.symm⟩)
      simp only [tot, if_neg hne, tot_mem j hd.2 h]
      omega
theorem srt_nodup {l : List Rw} (h : Srt l) : (l.map Rw.site).Nodup := by
  unfold List.Nodup
  rw [List.pairwise_map]
  exact h.imp fun h => ltB_ne h
/-- sorted rows that hold something are determined by what they hold -/
theorem srt_mem {l m : List Rw} (hl : (l.map Rw.site).Nodup) (hm : (m.map Rw.site).Nodup) (zl : ∀ r ∈ l, nz r = true) (h : ∀ j s, tot j l s = tot j m s) {r : Rw} (hr : r ∈ l) : r ∈ m := by
  obtain ⟨j, hj⟩ := nz_fld (zl r hr)
  have h1 := tot_mem j hl hr
  by_cases hx : ∃ q ∈ m, q.site = r.site
  · obtain ⟨q, hq, e⟩ := hx
    have : r = q := fld_ext e.symm fun i => by
      rw [← tot_mem i hl hr, ← tot_mem i hm hq, h, e]
    rw [this]; exact hq
  · exfalso
    apply hj
    rw [← h1, h]
    exact tot_out j _ fun q hq e => hx ⟨q, hq, e⟩
theorem srt_eq : ∀ {l m : List Rw}, Srt l → Srt m → (∀ r, r ∈ l ↔ r ∈ m) → l = m
  | [], [], _, _, _ => rfl
  | [], y :: m, _, _, h => by have := (h y).2 (List.mem_cons_self ..); cases this
  | x :: l, [], _, _, h => by have := (h x).1 (List.mem_cons_self ..); cases this
  | x :: l, y :: m, hl, hm, h => by
    have hl' := List.pairwise_cons.1 hl
    have hm' := List.pairwise_cons.1 hm
    have e : x = y := by
      rcases List.mem_cons.1 ((h x).1 (List.mem_cons_self ..)) with e | hx
      · exact e
      · rcases List.mem_cons.1 ((h y).2 (List.mem_cons_self ..)) with e | hy
        · exact e.symm
        · have h1 := ltB_trans (hm'.1 x hx) (hl'.1 y hy)
          rw [ltB_irrefl] at h1; cases h1
    subst e
    congr 1
    refine srt_eq hl'.2 hm'.2 fun r => ⟨fun hr => ?_, fun hr => ?_⟩
    · rcases List.mem_cons.1 ((h r).1 (List.mem_cons_of_mem _ hr)) with e | h2
      · subst e; have := hl'.1 r hr; rw [ltB_irrefl] at this; cases this
      · exact h2
    · rcases List.mem_cons.1 ((h r).2 (List.mem_cons_of_mem _ hr)) with e | h2
      · subst e; have := hm'.1 r hr; rw [ltB_irrefl] at this; cases this
      · exact h2
/-- what a difference is: sorted, each row holds something, of each site in all what b holds less what a holds -/
structure IsDiff (a b l : List Rw) : Prop where
  srt : Srt l
  nz : ∀ r ∈ l, nz r = true
  tot : ∀ j s, tot j l s = tot j b s - tot j a s
theorem IsDiff.one {a b l m : List Rw} (h : IsDiff a b l) (h2 : IsDiff a b m) : l = m :=
  srt_eq h.srt h2.srt fun r => ⟨srt_mem (srt_nodup h.srt) (srt_nodup h2.srt) h.nz (fun j s => by rw [h.tot, h2.tot]), srt_mem (srt_nodup h2.srt) (srt_nodup h.srt) h2.nz (fun j s => by rw [h.tot, h2.tot])⟩
def negR (r : Rw) : Rw := ⟨r.site, -r.a, -r.b, -r.c, -r.d⟩
theorem fld_neg (j : Nat) (r : Rw) : fld j (negR r) = - fld j r := by
  match j with
  | 0 | 1 | 2 | _ + 3 => rfl
theorem tot_neg (j : Nat) (s : ByteArray) : ∀ l : List Rw, tot j (l.map negR) s = - tot j l s
  | [] => rfl
  | r :: l => by
    simp only [List.map_cons, tot, fld_neg, tot_neg j s l]
    have : (negR r).site = r.site := rfl
    rw [this]
    split <;> omega
def addAll (l : List Rw) (acc : List Rw) : List Rw := l.foldl (fun all r => addR r all) acc
theorem tot_addAll (j : Nat) (s : ByteArray) : ∀ (l acc : List Rw), tot j (addAll l acc) s = tot j acc s + tot j l s
  | [], acc => by simp [addAll, tot]
  | r :: l, acc => by
    have := tot_addAll j s l (addR r acc)
    unfold addAll at *
    rw [List.foldl_cons, this, tot_addR]
    simp only [tot]
    omega
theorem srt_addAll : ∀ (l : List Rw) {acc : List Rw}, Srt acc → Srt (addAll l acc)
  | [], acc, h => h
  | r :: l, acc, h => srt_addAll l (srt_addR r h)
/-- the reference's difference -/
def rDiff (a b : List Rw) : List Rw := (addAll (a.map negR) (addAll b [])).filter nz
theorem rDiff_is (a b : List Rw) : IsDiff a b (rDiff a b) where
  srt := srt_filter _ (srt_addAll _ (srt_addAll _ List.Pairwise.nil))
  nz r hr := (List.mem_filter.1 hr).2
  tot j s := by
    unfold rDiff
    rw [tot_nz, tot_addAll, tot_addAll, tot_neg]
    simp only [tot]
    omega
/-- turned about, each number is turned -/
theorem IsDiff.neg {a b l : List Rw} (h : IsDiff a b l) : IsDiff b a (l.map negR) where
  srt := List.pairwise_map.2 (h.srt.imp fun h => h)
  nz r hr := by
    obtain ⟨q, hq, rfl⟩ := List.mem_map.1 hr
    have := h.nz q hq
    simp only [Proofs.YtcihbmifogfdpaaGreatDoor.nz, negR, ne_eq, Int.neg_eq_zero] at *
    exact this
  tot j s := by rw [tot_neg, h.tot]; omega
theorem IsDiff.self (a : List Rw) : IsDiff a a [] := ⟨List.Pairwise.nil, fun r hr => (by cases hr), fun j s => by simp [Proofs.YtcihbmifogfdpaaGreatDoor.tot]⟩
end Go.Proofs.YtcihbmifogfdpaaGreatDoor

/-
  Calls of the small heap, by the machine, beside others' memory.
-/
import Derived.Test.YtcodjodhacjfeaaGreatDoorK15
import Derived.Test.YtcodjodhacjfeaaGreatDoorS5
import Derived.Test.YtcodjodhacjfeaaGreatDoorF0
import Derived.Test.YtcodjodhacjfeaaGreatDoorF1
import Derived.Test.YtcodjodhacjfeaaGreatDoorF2
import Derived.Test.YtcodjodhacjfeaaGreatDoorF3
namespace Go.Proofs.YtcodjodhacjfeaaGreatDoor
open Go.RowKit
namespace Cl
set_option maxRecDepth 100000 in
theorem ovA_okF {w : World} (hg : Globs w) (fr : HL) : OvOk Tryz.prog ⟨w, fr⟩ ovA := ovOk_of fun f m hf => by
  unfold ovA at hf
  split at hf
  · rename_i h; obtain rfl := Nat.eq_of_beq_eq_true h; cases hf; exact noEsc_ok _
  split at hf
  · rename_i h; obtain rfl := Nat.eq_of_beq_eq_true h; cases hf; exact bytes_ok _
  split at hf
  · rename_i h; obtain rfl := Nat.eq_of_beq_eq_true h; cases hf; exact collect1_ok _
  split at hf
  · rename_i h; obtain rfl := Nat.eq_of_beq_eq_true h; cases hf; exact sortedK_ok _
  split at hf
  · rename_i h; obtain rfl := Nat.eq_of_beq_eq_true h; cases hf
    exact parse_ok _ text1 rows1 text1_rows (by decide) (by decide) hg.er hg.pw
  · cases hf
noncomputable def memP (wr : World) (l : List (Nat × AO)) (p : Pl) : HP := repP Tryz.prog wr (ofL l) (R16 p)
section
variable {wr w : World} {A : List HP}
theorem base_of {l : List (Nat × AO)} {p : Pl} {c : List Value} {e : TypeId} (hs : St wr (memP wr l p :: A) w) (h : look l 16 = some (.cells c e false)) : p.base = 0 := (rep_base hs (by rw [hget_ofL]; exact h)).1
set_option maxRecDepth 100000 in
theorem small_st (hg : Globs wr) (hs : St wr A w) : Calls Tryz.prog 5 #[] w fun e w' => ∃ p : Pl, e = .returned (.pointer (some ⟨p.blk, p.base, none⟩)) ∧ St wr (memP wr mem0 p :: A) w' := by
  obtain ⟨x, hx, e⟩ := run_of_kont small_run
  simp only [Option.some.injEq] at e
  unfold leaves at e
  split at e
  · rename_i s1 s2 s3
    refine (rep_call follows noGo' (ovA_okF hg) (rep_start hs (hGlobs_ok hg)) (args := []) (args' := []) (fun ρ _ => .nil) (Tryz.call5 _ _) hx).mono ?_
    rintro e' w' ⟨v', R', rfl, h2, h3, h4⟩
    have g := sameV_G (ρ := R') (ρ2 := turnP sig0 R') (fun i j hij => by
      unfold turnM at hij
      unfold turnP
      split at hij
      · rw [Nat.eq_of_beq_eq_true hij]
      · cases hij) _ _ _ _ s1 h3
    obtain ⟨p, p1, rfl⟩ := g.ptr_inv
    refine ⟨p, rfl, rep_turn h4 s2 (fun x hx => Nat.eq_of_beq_eq_true (List.all_eq_true.1 s3 x hx)) fun ρ hl => R16_le.2 ?_⟩
    unfold turnP at p1 ⊢
    split at p1
    · exact hl _ _ p1
    · cases p1
  · cases e
theorem ptr_G {p : Pl} {ρ : Pm} (h : ρ 16 = some p) : G ρ (.pointer (some ⟨16, 0, none⟩)) (.pointer (some ⟨p.blk, p.base, none⟩)) := G.ptr (off := 0) h
set_option maxRecDepth 100000 in
theorem malloc0_st {p : Pl} (hg : Globs wr) (hs : St wr (memP wr mem0 p :: A) w) : Calls Tryz.prog 23 #[.pointer (some ⟨p.blk, p.base, none⟩), .int .i64 0, .int .i64 8, .int .i64 8] w fun e w' => e = .returned (.tuple #[.int .i64 4096, .int .i64 0]) ∧ St wr (memP wr mem1 p :: A) w' := by
  obtain ⟨x, hx, e⟩ := run_of_kont malloc_run0
  simp only [Option.some.injEq] at e
  unfold leaves at e
  split at e
  · rename_i s1 s2 s3
    refine (rep_call follows noGo' (ovA_okF hg) hs (args := [.pointer (some ⟨16, 0, none⟩), .int .i64 0, .int .i64 8, .int .i64 8]) (args' := [.pointer (some ⟨p.blk, p.base, none⟩), .int .i64 0, .int .i64 8, .int .i64 8]) (fun ρ hl => .cons (ptr_G (R16_le.1 hl)) (.cons (.flat rfl) (.cons (.flat rfl) (.cons (.flat rfl) .nil)))) (Tryz.call23 _ _) hx).mono ?_
    rintro e' w' ⟨v', R', rfl, h2, h3, h4⟩
    refine ⟨?_, rep_turn h4 s2 (fun x hx => Nat.eq_of_beq_eq_true (List.all_eq_true.1 s3 x hx)) fun ρ hl => R16_le.2 ?_⟩
    · congr 1
      exact sameV_eq (ρ := R') rfl s1 (turnP sig1 R') (fun i j hij => by
        unfold turnM at hij
        unfold turnP
        split at hij
        · rw [Nat.eq_of_beq_eq_true hij]
        · cases hij) h3
    · exact hl 16 p (h2 16 p (by simp [R16]))
  · cases e
theorem args4 {p : Pl} (n : Int) (ρ : Pm) (h : ρ 16 = some p) : GL ρ [.pointer (some ⟨16, 0, none⟩), .int .i64 0, .int .i64 n, .int .i64 8] [.pointer (some ⟨p.blk, p.base, none⟩), .int .i64 0, .int .i64 n, .int .i64 8] := .cons (ptr_G h) (.cons (.flat rfl) (.cons (.flat rfl) (.cons (.flat rfl) .nil)))
theorem args3 {p : Pl} (n : Int) (ρ : Pm) (h : ρ 16 = some p) : GL ρ [.pointer (some ⟨16, 0, none⟩), .int .i64 0, .int .i64 n] [.pointer (some ⟨p.blk, p.base, none⟩), .int .i64 0, .int .i64 n] := .cons (ptr_G h) (.cons (.flat rfl) (.cons (.flat rfl) .nil))
set_option maxRecDepth 100000 in
theorem malloc_st {p : Pl} (c : Nat) (hg : Globs wr) (hs : St wr (memP wr (mem2 c) p :: A) w) : Calls Tryz.prog 23 #[.pointer (some ⟨p.blk, p.base, none⟩), .int .i64 0, .int .i64 8, .int .i64 8] w fun e w' => e = .returned (.tuple #[.int .i64 4096, .int .i64 0]) ∧ St wr (memP wr (mem3 c) p :: A) w' :=
  rep_step follows noGo' (ovA_okF hg) hs (args4 8) (Tryz.call23 _ _) (malloc_run c) (by simp) rfl rfl
set_option maxRecDepth 100000 in
theorem free_st {p : Pl} (c : Nat) (hg : Globs wr) (hs : St wr (memP wr (mem3 c) p :: A) w) : Calls Tryz.prog 25 #[.pointer (some ⟨p.blk, p.base, none⟩), .int .i64 0, .int .i64 4096] w fun e w' => e = .returned (.int .i64 0) ∧ St wr (memP wr (mem2 (c + 1)) p :: A) w' :=
  rep_step follows noGo' (ovA_okF hg) hs (args3 4096) (Tryz.call25 _ _) (free_run c) (by simp) rfl rfl
set_option maxRecDepth 100000 in
theorem free0_st {p : Pl} (hg : Globs wr) (hs : St wr (memP wr mem1 p :: A) w) : Calls Tryz.prog 25 #[.pointer (some ⟨p.blk, p.base, none⟩), .int .i64 0, .int .i64 4096] w fun e w' => e = .returned (.int .i64 0) ∧ St wr (memP wr (mem2 1) p :: A) w' := by
  obtain ⟨x, hx, e⟩ := run_of_kont free_run0
  simp only [Option.some.injEq] at e
  unfold leaves at e
  split at e
  · rename_i s1 s2 s3
    refine (rep_call follows noGo' (ovA_okF hg) hs (fun ρ hl => args3 4096 ρ (R16_le.1 hl)) (Tryz.call25 _ _) hx).mono ?_
    rintro e' w' ⟨v', R', rfl, h2, h3, h4⟩
    refine ⟨?_, rep_turn h4 s2 (fun x hx => Nat.eq_of_beq_eq_true (List.all_eq_true.1 s3 x hx)) fun ρ hl => R16_le.2 ?_⟩
    · congr 1
      exact sameV_eq (ρ := R') rfl s1 (turnP sig2 R') (fun i j hij => by
        unfold turnM at hij
        unfold turnP
        split at hij
        · rw [Nat.eq_of_beq_eq_true hij]
        · cases hij) h3
    · exact hl 16 p (h2 16 p (by simp [R16]))
  · cases e
set_option maxRecDepth 100000 in
theorem live_st {p : Pl} (hs : St wr (memP wr (mem2 200) p :: A) w) : Calls Tryz.prog 13 #[.pointer (some ⟨p.blk, p.base, none⟩)] w fun e w' => e = .returned (.slice none 0 0) ∧ St wr (memP wr (mem2 200) p :: A) w' := by
  obtain ⟨x, hx, e⟩ := run_of_kont live_run
  simp only [Option.some.injEq] at e
  unfold leaves at e
  split at e
  · rename_i s1 s2 s3
    refine (rep_call follows noGo' (fun fr => ovL_ok _) hs (args := [.pointer (some ⟨16, 0, none⟩)]) (args' := [.pointer (some ⟨p.blk, p.base, none⟩)]) (fun ρ hl => .cons (ptr_G (R16_le.1 hl)) .nil) (Tryz.call13 _ _) hx).mono ?_
    rintro e' w' ⟨v', R', rfl, h2, h3, h4⟩
    refine ⟨?_, rep_turn h4 s2 (fun x hx => Nat.eq_of_beq_eq_true (List.all_eq_true.1 s3 x hx)) fun ρ hl => R16_le.2 ?_⟩
    · congr 1
      exact sameV_eq (ρ := R') rfl s1 (turnP ((mem2 200).map fun x => (x.1, x.1)) R') (fun i j hij => by
        unfold turnM at hij
        unfold turnP
        split at hij
        · rw [Nat.eq_of_beq_eq_true hij]
        · cases hij) h3
    · exact hl 16 p (h2 16 p (by simp [R16]))
  · cases e
theorem isZ_eq {v : Value} (h : isZ v = true) : v = .int .i64 0 := by
  unfold isZ at h
  split at h
  · rfl
  · cases h
set_option maxRecDepth 100000 in
theorem fin_of {k : Nat} (h : fin1 k = true) : ∃ (x : Res Value) (ad : Nat) (y : Res Value), (callA Tryz.prog ovA 2000 60 23 [.pointer (some ⟨16, 0, none⟩), .int .i64 0, .int .i64 ((k + 1 : Nat) : Int), .int .i64 8]).run 128 (ofL (mem2 200)) = some x ∧ x.a = .tuple #[.int .i64 (ad : Int), .int .i64 0] ∧ 0 < ad ∧ ad < 1000000 ∧
    (callA Tryz.prog ovA 2000 60 25 [.pointer (some ⟨16, 0, none⟩), .int .i64 0, .int .i64 (ad : Int)]).run x.n x.h = some y ∧ y.a = .int .i64 0 := by
  unfold fin1 at h
  split at h
  · rename_i e
    obtain ⟨x, hx, e2⟩ := run_of_kont e
    unfold fin2 at e2
    split at e2
    · rename_i c hc
      split at e2
      · rename_i ad z hl
        split at e2
        · rename_i z0 z1 z2
          obtain ⟨y, hy, e3⟩ := run_of_kont e2
          simp only [Option.some.injEq] at e3
          refine ⟨x, ad, y, hx, ?_, by simpa using z1, by simpa using z2, hy, isZ_eq e3⟩
          have : c = #[.int .i64 (.ofNat ad), z] := by apply Array.ext'; rw [hl]
          rw [hc, this, isZ_eq z0]
          rfl
        · cases e2
      · cases e2
    · cases e2
  · cases h
set_option maxRecDepth 100000 in
theorem fin_all (k : Nat) (h : k < 32) : fin1 k = true := by
  have f0 := List.all_eq_true.1 fin_run0
  have f1 := List.all_eq_true.1 fin_run1
  have f2 := List.all_eq_true.1 fin_run2
  have f3 := List.all_eq_true.1 fin_run3
  rcases (by omega : k < 8 ∨ (8 ≤ k ∧ k < 16) ∨ (16 ≤ k ∧ k < 24) ∨ 24 ≤ k) with h1 | ⟨h1, h2⟩ | ⟨h1, h2⟩ | h1
  · exact f0 k (List.mem_range.2 h1)
  · have := f1 (k - 8) (List.mem_range.2 (by omega)); rwa [Nat.sub_add_cancel h1] at this
  · have := f2 (k - 16) (List.mem_range.2 (by omega)); rwa [Nat.sub_add_cancel h1] at this
  · have := f3 (k - 24) (List.mem_range.2 (by omega)); rwa [Nat.sub_add_cancel h1] at this
set_option maxRecDepth 100000 in
/-- one more block of 1 to 32 bytes, and back -/
theorem fin_st {p : Pl} (hg : Globs wr) (k : Nat) (hk : k < 32) : ∃ (ad : Nat) (A1 A2 : HP), 0 < ad ∧ ad < 1000000 ∧
    (∀ {A : List HP} {w : World}, St wr (memP wr (mem2 200) p :: A) w → Calls Tryz.prog 23 #[.pointer (some ⟨p.blk, p.base, none⟩), .int .i64 0, .int .i64 ((k + 1 : Nat) : Int), .int .i64 8] w fun e w' => e = .returned (.tuple #[.int .i64 (ad : Int), .int .i64 0]) ∧ St wr (A1 :: A) w') ∧
    ∀ {A : List HP} {w : World}, St wr (A1 :: A) w → Calls Tryz.prog 25 #[.pointer (some ⟨p.blk, p.base, none⟩), .int .i64 0, .int .i64 (ad : Int)] w fun e w' => e = .returned (.int .i64 0) ∧ St wr (A2 :: A) w' := by
  obtain ⟨x, ad, y, h1, h2, h3, h4, h5, h6⟩ := fin_of (fin_all k hk)
  refine ⟨ad, repP Tryz.prog wr x.h (R16 p), repP Tryz.prog wr y.h (R16 p), h3, h4, fun hs => ?_, fun hs => ?_⟩
  · refine (rep_run follows noGo' (ovA_okF hg) hs (args4 _) (Tryz.call23 _ _) h1).mono ?_
    rintro e w' ⟨v', rfl, e2, e3⟩
    refine ⟨?_, e3⟩
    rw [e2 (by rw [h2]; rfl), h2]
  · refine (rep_run follows noGo' (ovA_okF hg) hs (args3 _) (Tryz.call25 _ _) h5).mono ?_
    rintro e w' ⟨v', rfl, e2, e3⟩
    refine ⟨?_, e3⟩
    rw [e2 (by rw [h6]; rfl), h6]
end
end Cl
end Go.Proofs.YtcodjodhacjfeaaGreatDoor

/-
  The law's of: the sum of the rows' last numbers; that of a difference.
-/
import Derived.Test.YtcihbmifogfdpaaGreatDoorRK
namespace Go.Proofs.YtcihbmifogfdpaaGreatDoor
open Go.RowKit

def sumd : List Rw → Int
  | [] => 0
  | r :: l => r.d + sumd l
theorem sumd_app : ∀ l m : List Rw, sumd (l ++ m) = sumd l + sumd m
  | [], m => by simp [sumd]
  | r :: l, m => by simp only [List.cons_append, sumd, sumd_app l m]; omega
theorem sumd_addR (r : Rw) : ∀ l, sumd (addR r l) = sumd l + r.d
  | [] => by simp [addR, sumd]
  | x :: l => by
    unfold addR
    split
    · simp only [sumd, sumd_addR r l]; omega
    · split
      · simp only [sumd, plusR]; omega
      · simp only [sumd]; omega
theorem sumd_addAll : ∀ (l acc : List Rw), sumd (addAll l acc) = sumd acc + sumd l
  | [], acc => by simp [addAll, sumd]
  | r :: l, acc => by
    have := sumd_addAll l (addR r acc)
    show sumd (addAll l (addR r acc)) = _
    rw [this, sumd_addR]
    simp only [sumd]
    omega
theorem sumd_nz : ∀ l : List Rw, sumd (l.filter nz) = sumd l
  | [] => rfl
  | r :: l => by
    rw [List.filter_cons]
    split
    · simp only [sumd, sumd_nz l]
    · rename_i h
      rw [Bool.not_eq_true] at h
      have h3 : r.d = 0 := nz_not h 3
      simp only [sumd, sumd_nz l, h3]
      omega
theorem sumd_neg : ∀ l : List Rw, sumd (l.map negR) = - sumd l
  | [] => rfl
  | r :: l => by simp only [List.map_cons, sumd, sumd_neg l, negR]; omega
theorem sumd_diff (a b : List Rw) : sumd (rDiff a b) = sumd b - sumd a := by
  unfold rDiff
  rw [sumd_nz, sumd_addAll, sumd_addAll, sumd_neg]
  simp only [sumd]
  omega
theorem sumd_bnd {B : Int} (hB : 0 ≤ B) : ∀ {l : List Rw}, (∀ r ∈ l, Bnd B r) → - (l.length * B) ≤ sumd l ∧ sumd l ≤ l.length * B
  | [], _ => by simp [sumd]
  | r :: l, h => by
    have h1 := sumd_bnd hB (l := l) fun q hq => h q (List.mem_cons_of_mem _ hq)
    obtain ⟨_, _, _, h2⟩ := h r (List.mem_cons_self ..)
    have e : ((r :: l).length : Int) * B = l.length * B + B := by simp only [List.length_cons, Int.natCast_add, Int.add_mul, Int.cast_ofNat_Int, Int.one_mul]
    rw [e]
    simp only [sumd]
    omega

set_option maxRecDepth 10000 in
theorem of_any (w : World) (a : Option Addr) (cap : Nat) (l : List Rw) (hl : l.length ≤ 1000) (hb : ∀ r ∈ l, Bnd 1099511627776000 r) (hr : RowsAt w (.slice a l.length cap) l) :
    Calls Tryz.prog 37 #[.slice a l.length cap] w fun e w' => e = .returned (.int .i64 (sumd l)) ∧ Below w.heap.size w w' := by
  have HR := Lib.hid hr
  have HB := Lib.hid hb
  clear hr hb
  go_enter Tryz.func37, Tryz.ntmps37
  go_wp2_with fail
  go_loopw [3, 4] (fun n i wr => ∃ k : Nat, k ≤ l.length ∧ i = .int .i64 k ∧ n = .int .i64 (sumd (l.take k)) ∧ Hid (Below w.heap.size w wr)) (fun _ i _ => l.length - (intOf i).toNat)
  case atStart => exact ⟨0, Nat.zero_le _, rfl, rfl, Lib.hid (Below.refl _ _)⟩
  case round =>
    obtain ⟨k, hk, rfl, rfl, HS⟩ := hrel
    by_cases hlt : k < l.length
    · obtain ⟨r, hrk⟩ : ∃ r, l[k]? = some r := ⟨l[k], List.getElem?_eq_getElem hlt⟩
      have ik0 : (0 : Int) ≤ (k : Int) := by omega
      have ik1 : (k : Int) < (l.length : Int) := by omega
      obtain ⟨xb, xo, xc, e1, x0, x1, x2, x3, x4⟩ := RowsAt.at (Reads.grow HR.out HS.out) hrk
      injection e1 with e1 e11 e12
      subst e1
      clear e11 e12
      have HT : Hid (sumd (l.take (k + 1)) = sumd (l.take k) + r.d) := Lib.hid (by rw [List.take_add_one, hrk, sumd_app]; simp [sumd])
      have sw : IntKind.i64.wrap (sumd (l.take k) + r.d) = sumd (l.take k) + r.d := IntWalk.i64_in _ (by
        have h1 := sumd_bnd (B := 1099511627776000) (by decide) (l := l.take (k + 1)) fun q hq => HB.out q (List.mem_of_mem_take hq)
        rw [HT.out] at h1
        have h2 : (l.take (k + 1)).length ≤ 1000 := by rw [List.length_take]; omega
        omega)
      clear hrk
      go_wp2_with fail
      go_roundw
      case rel => exact ⟨k + 1, hlt, by go_num, by rw [HT.out], HS⟩
      case measure => simp [intOf]; omega
    · have ik1 : ¬ (k : Int) < (l.length : Int) := by omega
      have HF : Hid (l.take k = l) := Lib.hid (List.take_of_length_le (by omega))
      go_wp2_with fail
      go_ret
      exact ⟨by rw [HF.out]; rfl, HS.out⟩
end Go.Proofs.YtcihbmifogfdpaaGreatDoor

/-
  Marks that are set again give the map; Clone.
-/
import Derived.Test.YthknghkiogiajaaP12
namespace Go.Proofs.Ythknghkiogiajaa
open Go.RowKit

def fillMk (f : Nat → Int) (x : Mk) : Nat → Int := fill f x.s.toNat x.n.toNat x.no
def replay (f : Nat → Int) (l : List Mk) : Nat → Int := l.foldl fillMk f
theorem replay_append (f : Nat → Int) (l : List Mk) (x : Mk) : replay f (l ++ [x]) = fillMk (replay f l) x := by simp [replay]
/-- the numbers of the first n pages -/
def upto (f : Nat → Int) (n : Nat) (p : Nat) : Int := if p < n then f p else 0
theorem replay_mks (f : Nat → Int) : ∀ n, replay (fun _ => 0) (mks f n) = upto f n
  | 0 => by funext p; simp [replay, mks, upto]
  | n + 1 => by
    have ih := replay_mks f n
    have hok := mks_ok f n
    have hup : ∀ p, upto f (n + 1) p = if p = n then f n else upto f n p := by
      intro p
      unfold upto
      by_cases h : p = n
      · subst h; simp
      · rw [if_neg h]
        by_cases h2 : p < n
        · rw [if_pos h2, if_pos (by omega)]
        · rw [if_neg h2, if_neg (by omega)]
    show replay _ (addMk (mks f n) n (f n)) = _
    by_cases h0 : f n = 0
    · rw [h0, addMk_zero, ih]
      funext p
      rw [hup, h0]
      by_cases h : p = n
      · rw [if_pos h]; unfold upto; rw [if_neg (by omega)]
      · rw [if_neg h]
    · have hnew : fillMk (upto f n) ⟨n, 1, f n⟩ = upto f (n + 1) := by
        funext p
        rw [hup]
        show fill (upto f n) (n : Int).toNat (1 : Int).toNat (f n) p = _
        unfold fill
        by_cases h : p = n
        · rw [if_pos h, if_pos (by omega)]
        · rw [if_neg h, if_neg (by omega)]
      rcases List.eq_nil_or_concat (mks f n) with e | ⟨l, y, e⟩
      · rw [e, addMk_nil _ h0]
        rw [e] at ih
        have : replay (fun _ => 0) [⟨n, 1, f n⟩] = fillMk (replay (fun _ => 0) []) ⟨n, 1, f n⟩ := rfl
        rw [this, ih, hnew]
      · have e : mks f n = l ++ [y] := by simpa using e
        have hy := hok y (by rw [e]; simp)
        by_cases h1 : y.s + y.n = n ∧ y.no = f n
        · rw [e, addMk_grow _ _ h0 h1, replay_append]
          rw [e, replay_append] at ih
          have e2 : fillMk (replay (fun _ => 0) l) ⟨y.s, y.n + 1, y.no⟩ = upd (fillMk (replay (fun _ => 0) l) y) n (f n) := by
            show fill _ y.s.toNat (y.n + 1).toNat y.no = upd (fill _ y.s.toNat y.n.toNat y.no) n (f n)
            rw [show (y.n + 1).toNat = y.n.toNat + 1 by omega, ← fill_succ, h1.2, show y.s.toNat + y.n.toNat = n by omega]
          rw [e2, ih]
          funext p
          rw [hup]
          rfl
        · rw [e, addMk_new _ _ h0 h1, replay_append, ← e, ih, hnew]
theorem replay_all (f : Nat → Int) : ∀ p, p < 1024 → replay (fun _ => 0) (mks f 1024) p = f p := by
  intro p hp
  rw [replay_mks]
  unfold upto
  rw [if_pos hp]

theorem replay_succ (f : Nat → Int) {l : List Mk} {k : Nat} {x : Mk} (h : l[k]? = some x) : replay f (l.take (k + 1)) = fillMk (replay f (l.take k)) x := by
  rw [List.take_add_one, h]
  exact replay_append _ _ _

set_option maxRecDepth 10000 in
set_option maxHeartbeats 2000000 in
theorem clone_any (w0 w : World) (F : List HP) (c : Nat) (f : Nat → Int) (hs : St w0 (mapP c f :: F) w) :
    Calls Try.prog 25 #[.pointer (some ⟨c, 0, none⟩)] w fun e w' => ∃ c2, e = .returned (.pointer (some ⟨c2, 0, none⟩)) ∧ St w0 (mapP c2 f :: mapP c f :: F) w' := by
  have c0 := mapP_made hs
  have HE := Lib.hid (replay_all f)
  have HO := Lib.hid (mks_ok f 1024)
  have hll := mks_len f 1024
  go_enter Try.func25, Try.ntmps25
  go_wp2_with (go_at_call 33; refine (good_true _ _ c0).mono ?_; rintro e w' ⟨rfl, rfl⟩)
  refine (new_any w0 w _ hs).mono ?_
  rintro e w1 ⟨c2, rfl, h1⟩
  go_wp2_with fail
  refine (Marks_any w0 w1 _ c f h1.swap).mono ?_
  rintro e w2 ⟨a, cap, rfl, h2⟩
  generalize hl : mks f 1024 = l at *
  have HL := Lib.hid hl
  clear hl
  have h2 : St w0 (mapP c2 (fun _ => 0) :: marksP (.slice a l.length cap) l :: mapP c f :: F) w2 := h2.pick 3 [2, 0, 1]
  go_wp2_with fail
  go_loopw [13] (fun i wr => ∃ k : Nat, k ≤ l.length ∧ i = .int .i64 k ∧ St w0 (mapP c2 (replay (fun _ => 0) (l.take k)) :: marksP (.slice a l.length cap) l :: mapP c f :: F) wr) (fun i _ => l.length - (intOf i).toNat)
  case atStart => exact ⟨0, Nat.zero_le _, rfl, h2⟩
  case round =>
    clear h2 h1
    obtain ⟨k, hk, rfl, hs1⟩ := hrel
    by_cases hlt : k < l.length
    · obtain ⟨x, hx⟩ : ∃ x, l[k]? = some x := ⟨l[k], List.getElem?_eq_getElem hlt⟩
      obtain ⟨b, off, cp, e1, k0, k1, k2⟩ := (marks_at (hs1.front 1)).cell hx
      injection e1 with e1 e2 e3
      clear e2 e3
      subst e1
      obtain ⟨o1, o2, o3⟩ := HO.out x (List.mem_of_getElem? hx)
      have HT := Lib.hid (replay_succ (fun _ => 0) hx)
      clear hx
      have hs2 := (hs1.allocRow #[.int .i64 x.s, .int .i64 x.n, .int .i64 x.no] 42).swap
      go_wp2_with fail
      refine (set_x w0 _ _ c2 _ hs2 x.s x.n x.no).mono ?_
      rintro e w3 ⟨rfl, h3⟩
      rw [show mset (replay (fun _ => 0) (l.take k)) x.s x.n x.no = replay (fun _ => 0) (l.take (k + 1)) by rw [HT.out]; exact if_pos ⟨o1, o2, by omega⟩] at h3
      go_wp2_with fail
      go_roundw
      case rel => exact ⟨k + 1, hlt, by go_num, h3.pick 2 [0]⟩
      case measure => simp [intOf]; omega
    · have e : l.take k = l := List.take_of_length_le (by omega)
      rw [e, mapP_ext HE.out] at hs1
      go_wp2_with fail
      go_ret
      exact ⟨_, rfl, hs1.pick 3 [0, 2]⟩
end Go.Proofs.Ythknghkiogiajaa

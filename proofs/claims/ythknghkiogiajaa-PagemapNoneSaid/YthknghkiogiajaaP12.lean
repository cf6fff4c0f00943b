/-
  Acts, as they come in: do, made.
-/
import Derived.Test.YthknghkiogiajaaP11
namespace Go.Proofs.Ythknghkiogiajaa
open Go.RowKit

structure ActV where
  kind : Int
  a : Int
  b : Int
  c : Int
def ActV.cells (x : ActV) : List Value := [.int .i64 x.kind, .int .i64 x.a, .int .i64 x.b, .int .i64 x.c]
def ActsAt (w : World) (v : Value) (acts : List ActV) : Prop := Reads w 4 v acts.length (acts.flatMap ActV.cells)
theorem acts_get : ∀ (acts : List ActV) (k : Nat) (x : ActV), acts[k]? = some x → (acts.flatMap ActV.cells)[k * 4]? = some (.int .i64 x.kind) ∧ (acts.flatMap ActV.cells)[k * 4 + 1]? = some (.int .i64 x.a) ∧
    (acts.flatMap ActV.cells)[k * 4 + 2]? = some (.int .i64 x.b) ∧ (acts.flatMap ActV.cells)[k * 4 + 3]? = some (.int .i64 x.c)
  | [], k, x, h => by simp at h
  | y :: acts, 0, x, h => by
    simp at h
    subst h
    exact ⟨rfl, rfl, rfl, rfl⟩
  | y :: acts, k + 1, x, h => by
    have ih := acts_get acts k x (by simpa using h)
    rw [List.flatMap_cons, show (k + 1) * 4 = k * 4 + 1 + 1 + 1 + 1 by omega]
    exact ih
theorem ActsAt.cell {w : World} {v : Value} {acts : List ActV} (h : ActsAt w v acts) {k : Nat} {x : ActV} (hx : acts[k]? = some x) :
    ∃ b off cap, v = .slice (some ⟨b, off, none⟩) acts.length cap ∧ w.cell? ⟨b, off + k * 4, none⟩ = some (.int .i64 x.kind) ∧ w.cell? ⟨b, off + k * 4 + 1, none⟩ = some (.int .i64 x.a) ∧
      w.cell? ⟨b, off + k * 4 + 2, none⟩ = some (.int .i64 x.b) ∧ w.cell? ⟨b, off + k * 4 + 3, none⟩ = some (.int .i64 x.c) := by
  have hk := (List.getElem?_eq_some_iff.1 hx).1
  obtain ⟨b, off, cap, hv, _, hc⟩ := Reads.lies h (by omega)
  obtain ⟨h1, h2, h3, h4⟩ := acts_get acts k x hx
  exact ⟨b, off, cap, hv, hc _ _ h1, by rw [Nat.add_assoc]; exact hc _ _ h2, by rw [Nat.add_assoc]; exact hc _ _ h3, by rw [Nat.add_assoc]; exact hc _ _ h4⟩

/-- what a call does, and returns -/
def actF (f : Nat → Int) (x : ActV) : Nat → Int := if x.kind = 0 then Mset f x.a x.b x.c else if x.kind = 1 then mset f x.a x.b 0 else f
def actE (x : ActV) : Int := if x.kind = 0 then SetE x.a x.b x.c else if x.kind = 1 then setE x.a x.b else 0
def actsF (f : Nat → Int) : List ActV → Nat → Int
  | [] => f
  | x :: l => actsF (actF f x) l
theorem fOk_act {f : Nat → Int} (h : fOk f) (x : ActV) : fOk (actF f x) := by
  unfold actF
  split
  · exact fOk_Mset h _ _ _
  · split
    · exact fOk_mset h _ _
    · exact h
theorem fOk_acts : ∀ (l : List ActV) {f : Nat → Int}, fOk f → fOk (actsF f l)
  | [], _, h => h
  | x :: l, _, h => fOk_acts l (fOk_act h x)
theorem actsF_append : ∀ (l : List ActV) (f : Nat → Int) (x : ActV), actsF f (l ++ [x]) = actF (actsF f l) x
  | [], _, _ => rfl
  | y :: l, f, x => actsF_append l (actF f y) x
theorem actsF_succ (f : Nat → Int) {acts : List ActV} {k : Nat} {x : ActV} (h : acts[k]? = some x) : actsF f (acts.take (k + 1)) = actF (actsF f (acts.take k)) x := by
  rw [List.take_add_one, h]
  exact actsF_append _ _ _

set_option maxHeartbeats 1000000 in
theorem do_any (w0 w : World) (F : List HP) (c : Nat) (f : Nat → Int) (hs : St w0 (mapP c f :: F) w) (x : ActV) :
    Calls Try.prog 15 #[.pointer (some ⟨c, 0, none⟩), .agg #[.int .i64 x.kind, .int .i64 x.a, .int .i64 x.b, .int .i64 x.c]] w fun e w' => e = .returned (.int .i64 (actE x)) ∧ St w0 (mapP c (actF f x) :: F) w' := by
  obtain ⟨k, a, b, n⟩ := x
  have hs1 := (hs.allocRow #[.int .i64 k, .int .i64 a, .int .i64 b, .int .i64 n] 30).swap
  unfold actE actF
  by_cases h0 : k = 0
  · subst h0
    rw [if_pos rfl, if_pos rfl]
    dsimp only
    go_enter Try.func15, Try.ntmps15
    go_wp2_with fail
    refine (Set_x w0 _ _ c f hs1 a b n).mono ?_
    rintro e w1 ⟨rfl, h1⟩
    go_wp2_with fail
    go_ret
    exact ⟨rfl, h1.pick 2 [0]⟩
  rw [if_neg h0, if_neg h0]
  by_cases h1 : k = 1
  · subst h1
    rw [if_pos rfl, if_pos rfl]
    dsimp only
    clear h0
    go_enter Try.func15, Try.ntmps15
    go_wp2_with fail
    refine (Clear_x w0 _ _ c f hs1 a b).mono ?_
    rintro e w1 ⟨rfl, h1⟩
    go_wp2_with fail
    go_ret
    exact ⟨rfl, h1.pick 2 [0]⟩
  rw [if_neg h1, if_neg h1]
  have b0 : (k == 0) = false := by simpa using h0
  have b1 : (k == 1) = false := by simpa using h1
  clear h0 h1
  dsimp only
  go_enter Try.func15, Try.ntmps15
  go_wp2_with fail
  go_ret
  exact ⟨rfl, hs1.pick 2 [0]⟩

set_option maxHeartbeats 1000000 in
theorem made_any (w0 w : World) (F : List HP) (hs : St w0 F w) (a : Option Addr) (cap : Nat) (acts : List ActV) (h : ActsAt w0 (.slice a acts.length cap) acts) (hn : acts.length ≤ 60) :
    Calls Try.prog 17 #[.slice a acts.length cap] w fun e w' => ∃ c, e = .returned (.pointer (some ⟨c, 0, none⟩)) ∧ St w0 (mapP c (actsF (fun _ => 0) acts) :: F) w' := by
  have H := Lib.hid h
  clear h
  go_enter Try.func17, Try.ntmps17
  go_wp2_with fail
  refine (new_any w0 w F hs).mono ?_
  rintro e w1 ⟨c, rfl, h1⟩
  go_wp2_with fail
  go_loopw [4] (fun i wr => ∃ k : Nat, k ≤ acts.length ∧ i = .int .i64 k ∧ St w0 (mapP c (actsF (fun _ => 0) (acts.take k)) :: F) wr) (fun i _ => acts.length - (intOf i).toNat)
  case atStart => exact ⟨0, Nat.zero_le _, rfl, h1⟩
  case round =>
    clear h1
    obtain ⟨k, hk, rfl, hs1⟩ := hrel
    by_cases hlt : k < acts.length
    · obtain ⟨x, hx⟩ : ∃ x, acts[k]? = some x := ⟨acts[k], List.getElem?_eq_getElem hlt⟩
      obtain ⟨b, off, cp, e1, k0, k1, k2, k3⟩ := H.out.cell hx
      have hb0 := World.block_lt_of_cell? w0 _ k0
      injection e1 with e1 e2 e3
      clear e2 e3
      subst e1
      have HT := Lib.hid (actsF_succ (fun _ => 0) hx)
      clear hx
      have c0 := (hs1.was hb0).trans k0
      have c1 := (hs1.was (p := ⟨b, off + k * 4 + 1, none⟩) hb0).trans k1
      have c2 := (hs1.was (p := ⟨b, off + k * 4 + 2, none⟩) hb0).trans k2
      have c3 := (hs1.was (p := ⟨b, off + k * 4 + 3, none⟩) hb0).trans k3
      go_wp2_with fail
      refine (do_any w0 _ _ c _ hs1 x).mono ?_
      rintro e w2 ⟨rfl, h2⟩
      rw [← HT.out] at h2
      go_wp2_with fail
      go_roundw
      case rel => exact ⟨k + 1, hlt, by go_num, h2⟩
      case measure => simp [intOf]; omega
    · have e : acts.take k = acts := List.take_of_length_le (by omega)
      rw [e] at hs1
      clear e
      go_wp2_with fail
      go_ret
      exact ⟨_, rfl, hs1⟩
end Go.Proofs.Ythknghkiogiajaa

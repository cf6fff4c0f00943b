/-
  The law's own: do, made, alive.
-/
import Derived.Test.YtjignbbdgoadjaaH11
namespace Go.Proofs.Ytjignbbdgoadjaa
open Go.RowKit

structure ActV where
  kind : Int
  a : Int
  b : Int
def ActV.cells (x : ActV) : List Value := [.int .i64 x.kind, .int .i64 x.a, .int .i64 x.b]
def ActsAt (w : World) (v : Value) (acts : List ActV) : Prop := Reads w 3 v acts.length (acts.flatMap ActV.cells)
theorem acts_get : ∀ (acts : List ActV) (k : Nat) (x : ActV), acts[k]? = some x → (acts.flatMap ActV.cells)[k * 3]? = some (.int .i64 x.kind) ∧ (acts.flatMap ActV.cells)[k * 3 + 1]? = some (.int .i64 x.a) ∧ (acts.flatMap ActV.cells)[k * 3 + 2]? = some (.int .i64 x.b)
  | [], k, x, h => by simp at h
  | y :: acts, 0, x, h => by
    simp at h
    subst h
    exact ⟨rfl, rfl, rfl⟩
  | y :: acts, k + 1, x, h => by
    have ih := acts_get acts k x (by simpa using h)
    rw [List.flatMap_cons, show (k + 1) * 3 = k * 3 + 1 + 1 + 1 by omega]
    exact ih
theorem ActsAt.cell {w : World} {v : Value} {acts : List ActV} (h : ActsAt w v acts) {k : Nat} {x : ActV} (hx : acts[k]? = some x) :
    ∃ b off cap, v = .slice (some ⟨b, off, none⟩) acts.length cap ∧ w.cell? ⟨b, off + k * 3, none⟩ = some (.int .i64 x.kind) ∧ w.cell? ⟨b, off + k * 3 + 1, none⟩ = some (.int .i64 x.a) ∧ w.cell? ⟨b, off + k * 3 + 2, none⟩ = some (.int .i64 x.b) := by
  have hk := (List.getElem?_eq_some_iff.1 hx).1
  obtain ⟨b, off, cap, hv, _, hc⟩ := Reads.lies h (by omega)
  obtain ⟨h1, h2, h3⟩ := acts_get acts k x hx
  exact ⟨b, off, cap, hv, hc _ _ h1, by rw [Nat.add_assoc]; exact hc _ _ h2, by rw [Nat.add_assoc]; exact hc _ _ h3⟩

/-- what a call does, and returns -/
def actF (N : Nat) (s : Nat → Int) (x : ActV) : Nat → Int :=
  if x.kind = 0 then addF N s x.a else if x.kind = 1 then removeF N s x.a else if x.kind = 2 then useF (16 * N) s x.a x.b else if x.kind = 3 then unuseF (16 * N) s x.a x.b else if x.kind = 4 then releaseF (16 * N) s x.a x.b else s
def actE (N : Nat) (s : Nat → Int) (x : ActV) : Int :=
  if x.kind = 0 then addE N s x.a else if x.kind = 1 then removeE N s x.a else if x.kind = 2 then useE (16 * N) s x.a x.b else if x.kind = 3 then unuseE (16 * N) s x.a x.b else if x.kind = 4 then releaseE (16 * N) s x.a x.b else if x.kind = 5 then planE x.a else 0
def actsF (N : Nat) (s : Nat → Int) : List ActV → Nat → Int
  | [] => s
  | x :: l => actsF N (actF N s x) l
theorem actsF_append (N : Nat) : ∀ (l : List ActV) (s : Nat → Int) (x : ActV), actsF N s (l ++ [x]) = actF N (actsF N s l) x
  | [], _, _ => rfl
  | y :: l, s, x => actsF_append N l (actF N s y) x
theorem actsF_succ (N : Nat) (s : Nat → Int) {acts : List ActV} {k : Nat} {x : ActV} (h : acts[k]? = some x) : actsF N s (acts.take (k + 1)) = actF N (actsF N s (acts.take k)) x := by
  rw [List.take_add_one, h]
  exact actsF_append _ _ _ _

set_option maxHeartbeats 1000000 in
theorem do_any (w0 w : World) (F : List HP) (c N : Nat) (s : Nat → Int) (hN : N ≤ 64) (hN0 : 0 < N) (hs : St w0 (trk 61 c (16 * N) s :: F) w) (x : ActV) :
    Calls Try.prog 29 #[.pointer (some ⟨c, 0, none⟩), .agg #[.int .i64 x.kind, .int .i64 x.a, .int .i64 x.b]] w fun e w' => e = .returned (.int .i64 (actE N s x)) ∧ St w0 (trk 61 c (16 * N) (actF N s x) :: F) w' := by
  obtain ⟨k, a, b⟩ := x
  have hs1 := (hs.allocRow #[.int .i64 k, .int .i64 a, .int .i64 b] 46)
  obtain ⟨q0, q1, q2⟩ := hs1.cells3
  have hs2 := hs1.swap
  clear hs1 hs
  unfold actE actF
  dsimp only
  by_cases h0 : k = 0
  · subst h0
    rw [if_pos rfl, if_pos rfl]
    go_enter Try.func29, Try.ntmps29
    go_wp2_with fail
    refine (add_any w0 _ _ c N s hN hN0 hs2 a).mono ?_
    rintro e w1 ⟨rfl, h1⟩
    go_wp2_with fail
    go_ret
    exact ⟨rfl, h1.pick 2 [0]⟩
  rw [if_neg h0, if_neg h0]
  have b0 : (k == 0) = false := by simpa using h0
  by_cases h1 : k = 1
  · subst h1
    rw [if_pos rfl, if_pos rfl]
    clear h0
    go_enter Try.func29, Try.ntmps29
    go_wp2_with fail
    refine (remove_any w0 _ _ c N s hN hN0 hs2 a).mono ?_
    rintro e w1 ⟨rfl, h1⟩
    go_wp2_with fail
    go_ret
    exact ⟨rfl, h1.pick 2 [0]⟩
  rw [if_neg h1, if_neg h1]
  have b1 : (k == 1) = false := by simpa using h1
  by_cases h2 : k = 2
  · subst h2
    rw [if_pos rfl, if_pos rfl]
    clear h0 h1
    go_enter Try.func29, Try.ntmps29
    go_wp2_with fail
    refine (use_any w0 _ _ c (16 * N) s (by omega) (by omega) hs2 a b).mono ?_
    rintro e w1 ⟨rfl, h1⟩
    go_wp2_with fail
    go_ret
    exact ⟨rfl, h1.pick 2 [0]⟩
  rw [if_neg h2, if_neg h2]
  have b2 : (k == 2) = false := by simpa using h2
  by_cases h3 : k = 3
  · subst h3
    rw [if_pos rfl, if_pos rfl]
    clear h0 h1 h2
    go_enter Try.func29, Try.ntmps29
    go_wp2_with fail
    refine (unuse_any w0 _ _ c (16 * N) s (by omega) (by omega) hs2 a b).mono ?_
    rintro e w1 ⟨rfl, h1⟩
    go_wp2_with fail
    go_ret
    exact ⟨rfl, h1.pick 2 [0]⟩
  rw [if_neg h3, if_neg h3]
  have b3 : (k == 3) = false := by simpa using h3
  by_cases h4 : k = 4
  · subst h4
    rw [if_pos rfl, if_pos rfl]
    clear h0 h1 h2 h3
    go_enter Try.func29, Try.ntmps29
    go_wp2_with fail
    refine (release_any w0 _ _ c (16 * N) s (by omega) (by omega) hs2 a b).mono ?_
    rintro e w1 ⟨rfl, h1⟩
    go_wp2_with fail
    go_ret
    exact ⟨rfl, h1.pick 2 [0]⟩
  rw [if_neg h4, if_neg h4]
  have b4 : (k == 4) = false := by simpa using h4
  by_cases h5 : k = 5
  · subst h5
    rw [if_pos rfl]
    clear h0 h1 h2 h3 h4
    go_enter Try.func29, Try.ntmps29
    go_wp2_with fail
    refine (plan_any w0 _ _ c N s hN hN0 hs2 a).mono ?_
    rintro e w1 ⟨a1, p1, rfl, h1⟩
    go_wp2_with fail
    go_ret
    exact ⟨rfl, h1.pick 3 [1]⟩
  rw [if_neg h5]
  have b5 : (k == 5) = false := by simpa using h5
  clear h0 h1 h2 h3 h4 h5
  go_enter Try.func29, Try.ntmps29
  go_wp2_with fail
  go_ret
  exact ⟨rfl, hs2.pick 2 [0]⟩

def sizeN (m : Nat) : Nat := m % 8 + 1
set_option maxHeartbeats 1000000 in
theorem made_any (w0 w : World) (F : List HP) (hs : St w0 F w) (m : Nat) (hm : m < 256) (a : Option Addr) (cap : Nat) (acts : List ActV) (h : ActsAt w0 (.slice a acts.length cap) acts) (hn : acts.length ≤ 60) :
    Calls Try.prog 14 #[.int .u8 m, .slice a acts.length cap] w fun e w' => ∃ c, e = .returned (.pointer (some ⟨c, 0, none⟩)) ∧ St w0 (trk 61 c (16 * sizeN m) (actsF (sizeN m) (fun _ => 0) acts) :: F) w' := by
  have H := Lib.hid h
  have hN0 : 0 < sizeN m := by unfold sizeN; omega
  have hN8 : sizeN m ≤ 8 := by unfold sizeN; omega
  have hN : sizeN m ≤ 64 := by omega
  have HE := Lib.hid (show ((m : Int) % 8 + 1) * 16 = ((16 * sizeN m : Nat) : Int) by unfold sizeN; omega)
  generalize sizeN m = N at *
  clear h
  go_enter Try.func14, Try.ntmps14
  go_wp2_with fail
  rw [HE.out]
  refine (new_in w0 w F hs N hN0 hN).mono ?_
  rintro e w1 ⟨c, rfl, h1⟩
  go_wp2_with fail
  go_loopw [7] (fun i wr => ∃ k : Nat, k ≤ acts.length ∧ i = .int .i64 k ∧ St w0 (trk 61 c (16 * N) (actsF N (fun _ => 0) (acts.take k)) :: F) wr) (fun i _ => acts.length - (intOf i).toNat)
  case atStart => exact ⟨0, Nat.zero_le _, rfl, h1⟩
  case round =>
    clear h1
    obtain ⟨k, hk, rfl, hs1⟩ := hrel
    by_cases hlt : k < acts.length
    · obtain ⟨x, hx⟩ : ∃ x, acts[k]? = some x := ⟨acts[k], List.getElem?_eq_getElem hlt⟩
      obtain ⟨b, off, cp, e1, k0, k1, k2⟩ := H.out.cell hx
      have hb0 := World.block_lt_of_cell? w0 _ k0
      injection e1 with e1 e2 e3
      clear e2 e3
      subst e1
      have HT := Lib.hid (actsF_succ N (fun _ => 0) hx)
      clear hx
      have c0 := (hs1.was hb0).trans k0
      have c1 := (hs1.was (p := ⟨b, off + k * 3 + 1, none⟩) hb0).trans k1
      have c2 := (hs1.was (p := ⟨b, off + k * 3 + 2, none⟩) hb0).trans k2
      go_wp2_with fail
      refine (do_any w0 _ _ c N _ hN hN0 hs1 x).mono ?_
      rintro e w2 ⟨rfl, h2⟩
      rw [← HT.out] at h2
      go_wp2_with fail
      go_roundw
      case rel => exact ⟨k + 1, hlt, by go_num, h2⟩
      case measure => simp [intOf]; omega
    · have e : acts.take k = acts := List.take_of_length_le (by omega)
      rw [e] at hs1
      clear e
      go_wp2_with fail
      go_ret
      exact ⟨_, rfl, hs1⟩

/-- the states of the chapter's example -/
def x1 : Nat → Int := addF 2 (fun _ => 0) 0
def x2 : Nat → Int := addF 2 x1 1
def x3 : Nat → Int := useF 32 x2 0 4
def x4 : Nat → Int := unuseF 32 x3 2 2
def x5 : Nat → Int := useF 32 x4 16 16
def x6 : Nat → Int := unuseF 32 x5 16 16
def x7 : Nat → Int := removeF 2 x6 1
theorem xe1 : addE 2 (fun _ => 0) 0 = 0 := by decide +kernel
theorem xe2 : addE 2 x1 1 = 0 := by decide +kernel
theorem xe3 : useE 32 x2 0 4 = 0 := by decide +kernel
theorem xe4 : unuseE 32 x3 2 2 = 0 := by decide +kernel
theorem xs4 : x4 2 = 2 := by decide +kernel
theorem xb4 : thoseN x4 1 2 = [0] := by decide +kernel
theorem xi4 : thoseN x4 0 2 = [1] := by decide +kernel
theorem xe5 : useE 32 x4 16 16 = 0 := by decide +kernel
theorem xe6 : unuseE 32 x5 16 16 = 0 := by decide +kernel
theorem xback : backN x6 2 = [0, 1] := by decide +kernel
theorem xbef : bef x6 1 0 = true := by decide +kernel
theorem xord : ordL x6 2 = [1, 0] := (ordL_one (by rw [xback]; exact List.Perm.swap _ _ _) (by simp [xbef])).symm
theorem xp1 : planV x6 2 1 = [⟨16, 16⟩] := by
  have : planL x6 2 1 = takeW 1 0 (([1, 0] : List Nat).flatMap (runsOf x6)) := by unfold planL allR; rw [xord]
  show (if (1 : Int) < 0 then [] else planL x6 2 1) = _
  rw [if_neg (by omega), this]
  decide +kernel
theorem xp17 : planV x6 2 17 = [⟨16, 16⟩, ⟨2, 2⟩] := by
  have : planL x6 2 17 = takeW 17 0 (([1, 0] : List Nat).flatMap (runsOf x6)) := by unfold planL allR; rw [xord]
  show (if (17 : Int) < 0 then [] else planL x6 2 17) = _
  rw [if_neg (by omega), this]
  decide +kernel
theorem xe7 : removeE 2 x6 1 = 0 := by decide +kernel
theorem xe8 : removeE 2 x7 0 = 5 := by decide +kernel
end Go.Proofs.Ytjignbbdgoadjaa

/-
  Acts, as they come in: great, do, made.
-/
import Derived.Test.YthlmjdkpkikcpaaT8
namespace Go.Proofs.Ythlmjdkpkikcpaa
open Go.RowKit

/-- an act: its kind, its slice, what that holds -/
structure ActV where
  kind : Int
  a : Option Addr
  cap : Nat
  l : List Int
def ActV.v (x : ActV) : Value := .slice x.a x.l.length x.cap
def ActV.cells (x : ActV) : List Value := [.int .i64 x.kind, x.v]
def ActsAt (w : World) (v : Value) (acts : List ActV) : Prop :=
  Reads w 2 v acts.length (acts.flatMap ActV.cells) ∧ ∀ x ∈ acts, IntsAt w x.v x.l ∧ x.l.length ≤ 9223372036854775807
theorem acts_get : ∀ (acts : List ActV) (k : Nat) (x : ActV), acts[k]? = some x → (acts.flatMap ActV.cells)[2 * k]? = some (.int .i64 x.kind) ∧ (acts.flatMap ActV.cells)[2 * k + 1]? = some x.v
  | [], k, x, h => by simp at h
  | y :: acts, 0, x, h => by
    simp at h
    subst h
    exact ⟨rfl, rfl⟩
  | y :: acts, k + 1, x, h => by
    have ih := acts_get acts k x (by simpa using h)
    rw [List.flatMap_cons, show 2 * (k + 1) = 2 * k + 1 + 1 by omega]
    exact ih
theorem ActsAt.cell {w : World} {v : Value} {acts : List ActV} (h : ActsAt w v acts) {k : Nat} {x : ActV} (hx : acts[k]? = some x) :
    ∃ b off cap, v = .slice (some ⟨b, off, none⟩) acts.length cap ∧ w.cell? ⟨b, off + k * 2, none⟩ = some (.int .i64 x.kind) ∧ w.cell? ⟨b, off + k * 2 + 1, none⟩ = some x.v := by
  have hk := (List.getElem?_eq_some_iff.1 hx).1
  obtain ⟨b, off, cap, hv, _, hc⟩ := h.1.lies (by omega)
  obtain ⟨h1, h2⟩ := acts_get acts k x hx
  rw [Nat.mul_comm k 2]
  exact ⟨b, off, cap, hv, hc _ _ h1, hc _ _ h2⟩
theorem ActsAt.of0 {w0 w : World} {L : List HP} {v : Value} {acts : List ActV} (hs : St w0 L w) (h : ActsAt w0 v acts) : ActsAt w v acts :=
  ⟨hs.reads0 h.1, fun x hx => ⟨hs.reads0 (h.2 x hx).1, (h.2 x hx).2⟩⟩

def greatB (acts : List ActV) : Bool := acts.any (fun x => decide ((60 : Int) < x.l.length)) || decide ((60 : Int) < acts.length)
theorem great_no {acts : List ActV} (h : greatB acts = false) : acts.length ≤ 60 ∧ ∀ x ∈ acts, x.l.length ≤ 60 := by
  unfold greatB at h
  rw [Bool.or_eq_false_iff, List.any_eq_false] at h
  obtain ⟨h1, h2⟩ := h
  refine ⟨by have := of_decide_eq_false h2; omega, fun x hx => ?_⟩
  have := h1 x hx
  simp at this
  omega
def calm (acts : List ActV) (k : Nat) : Prop := ∀ x ∈ acts.take k, x.l.length ≤ 60
theorem calm_succ {acts : List ActV} {k : Nat} {x : ActV} (h : calm acts k) (hx : acts[k]? = some x) (hl : x.l.length ≤ 60) : calm acts (k + 1) := by
  intro y hy
  rw [List.take_add_one, hx] at hy
  rcases List.mem_append.1 hy with hy | hy
  · exact h y hy
  · simp at hy; subst hy; exact hl
theorem great_calm {acts : List ActV} {k : Nat} (h : calm acts k) (hk : acts.length ≤ k) : greatB acts = decide ((60 : Int) < acts.length) := by
  unfold greatB
  have : acts.any (fun x => decide ((60 : Int) < x.l.length)) = false := by
    rw [List.any_eq_false]
    intro x hx
    have := h x (by rw [List.take_of_length_le hk]; exact hx)
    simp; omega
  rw [this, Bool.false_or]
theorem great_yes {acts : List ActV} {k : Nat} {x : ActV} (hx : acts[k]? = some x) (h : 60 < x.l.length) : greatB acts = true := by
  unfold greatB
  rw [Bool.or_eq_true]
  exact .inl (List.any_eq_true.2 ⟨x, List.mem_of_getElem? hx, by simp; omega⟩)

set_option maxHeartbeats 1000000 in
theorem great_any (w : World) (a : Option Addr) (cap : Nat) (acts : List ActV) (h : ActsAt w (.slice a acts.length cap) acts) (hn : acts.length ≤ 9223372036854775807) :
    Calls Try.prog 19 #[.slice a acts.length cap] w fun e w' => e = .returned (.bool (greatB acts)) ∧ w = w' := by
  have H := Lib.hid h
  clear h
  go_enter Try.func19, Try.ntmps19
  go_wp2
  go_loop [3] (fun i => ∃ k : Nat, k ≤ acts.length ∧ i = .int .i64 k ∧ calm acts k) (fun i => acts.length - (intOf i).toNat)
  case atStart => exact ⟨0, Nat.zero_le _, rfl, fun x hx => by simp at hx⟩
  case round =>
    obtain ⟨k, hk, rfl, hcalm⟩ := hrel
    by_cases hlt : k < acts.length
    · obtain ⟨x, hx⟩ : ∃ x, acts[k]? = some x := ⟨acts[k], List.getElem?_eq_getElem hlt⟩
      obtain ⟨b, off, cp, e1, c0, c1⟩ := H.out.cell hx
      have hxl := (H.out.2 x (List.mem_of_getElem? hx)).2
      injection e1 with e1 e2 e3
      clear e2 e3
      subst e1
      have HX := Lib.hid hx
      clear hx
      unfold ActV.v at c1
      by_cases hg : x.l.length ≤ 60
      · have hd : decide ((60 : Int) < (x.l.length : Int)) = false := by simp; omega
        go_wp2
        go_round
        case rel => exact ⟨k + 1, hlt, by go_num, calm_succ hcalm HX.out hg⟩
        case measure => simp [intOf]; omega
      · have hd : decide ((60 : Int) < (x.l.length : Int)) = true := by simp; omega
        go_wp2
        go_ret
        exact ⟨by rw [great_yes HX.out (by omega)]; rfl, rfl⟩
    · go_wp2
      go_ret
      exact ⟨by rw [great_calm hcalm (by omega)]; rfl, rfl⟩
end Go.Proofs.Ythlmjdkpkikcpaa

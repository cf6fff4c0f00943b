/-
  Comparison of lists of numbers; acts, as they come in: great.
-/
import Derived.Test.YtaejojbdkgccpaaC20
namespace Go.Proofs.Ytaejojbdkgccpaa
open Go.RowKit Go.Maps Go.ChangeMaps

def IntsAt (w : World) (v : Value) (xs : List Int) : Prop := Reads w 1 v xs.length (xs.map (Value.int .i64))
theorem IntsAt.cell {w : World} {v : Value} {xs : List Int} (h : IntsAt w v xs) {k : Nat} {x : Int} (hx : xs[k]? = some x) :
    ∃ b off cap, v = .slice (some ⟨b, off, none⟩) xs.length cap ∧ w.cell? ⟨b, off + k, none⟩ = some (.int .i64 x) := by
  have hk := (List.getElem?_eq_some_iff.1 hx).1
  obtain ⟨b, off, cap, hv, _, hc⟩ := Reads.lies h (by omega)
  exact ⟨b, off, cap, hv, hc k _ (by rw [List.getElem?_map, hx]; rfl)⟩
theorem drewN_drewN (w : World) (a b : Nat) : (w.drewN a).drewN b = w.drewN (a + b) := by
  show ({ w with drawn := w.drawn + a + b } : World) = { w with drawn := w.drawn + (a + b) }
  rw [Nat.add_assoc]
theorem drewN_drew (w : World) (a : Nat) : (w.drewN a).drew = w.drewN (a + 1) := rfl
theorem drewN_zero (w : World) : w.drewN 0 = w := rfl

/-- lists that agree so far -/
def agree (xs ys : List Int) (k : Nat) : Prop := xs.take k = ys.take k
theorem agree_zero (xs ys : List Int) : agree xs ys 0 := by simp [agree]
theorem agree_succ {xs ys : List Int} {k : Nat} {x : Int} (h : agree xs ys k) (hx : xs[k]? = some x) (hy : ys[k]? = some x) : agree xs ys (k + 1) := by
  unfold agree at *
  rw [List.take_add_one, List.take_add_one, h, hx, hy]
theorem agree_all {xs ys : List Int} {k : Nat} (h : agree xs ys k) (hk : xs.length ≤ k) (hl : xs.length = ys.length) : xs = ys := by
  unfold agree at h
  rwa [List.take_of_length_le hk, List.take_of_length_le (by omega)] at h
theorem agree_not {xs ys : List Int} {k : Nat} {x y : Int} (hx : xs[k]? = some x) (hy : ys[k]? = some y) (hne : x ≠ y) : xs ≠ ys := by
  intro h
  rw [h, hy] at hx
  exact hne (Option.some.inj hx).symm

set_option maxHeartbeats 1000000 in
theorem Ints_any (w : World) (a b : Option Addr) (ca cb : Nat) (xs ys : List Int) (hx : IntsAt w (.slice a xs.length ca) xs) (hy : IntsAt w (.slice b ys.length cb) ys)
    (hn : xs.length ≤ 9223372036854775807) (_hm : ys.length ≤ 9223372036854775807) :
    Calls Try.prog 19 #[.slice a xs.length ca, .slice b ys.length cb] w fun e w' => e = .returned (.bool (decide (xs = ys))) ∧ ∃ n, w' = w.drewN n := by
  by_cases hl : xs.length = ys.length
  · have hne : ((xs.length : Int) != ys.length) = false := by simp [hl]
    have HX := Lib.hid hx
    have HY := Lib.hid hy
    have HL := Lib.hid hl
    clear hx hy hl
    go_enter Try.func19, Try.ntmps19
    go_wp2
    go_loopw [5] (fun i wr => ∃ k : Nat, k ≤ xs.length ∧ i = .int .i64 k ∧ agree xs ys k ∧ ∃ n, wr = w.drewN n) (fun i _ => xs.length - (intOf i).toNat)
    case atStart => exact ⟨0, Nat.zero_le _, rfl, agree_zero _ _, 0, rfl⟩
    case round =>
      obtain ⟨k, hk, rfl, hag, nd, rfl⟩ := hrel
      by_cases hlt : k < xs.length
      · obtain ⟨x, h1⟩ : ∃ x, xs[k]? = some x := ⟨xs[k], List.getElem?_eq_getElem hlt⟩
        obtain ⟨y, h2⟩ : ∃ y, ys[k]? = some y := ⟨ys[k]'(by have := HL.out; omega), List.getElem?_eq_getElem _⟩
        obtain ⟨b1, o1, p1, e1, c1⟩ := IntsAt.cell HX.out h1
        obtain ⟨b2, o2, p2, e2, c2⟩ := IntsAt.cell HY.out h2
        injection e1 with e1 e1b e1c
        injection e2 with e2 e2b e2c
        clear e1b e1c e2b e2c
        subst e1 e2
        have hlt2 : k < ys.length := by have := HL.out; omega
        have H1 := Lib.hid h1
        have H2 := Lib.hid h2
        clear h1 h2
        have hk0 : (0 : Int) ≤ (k : Int) := Int.natCast_nonneg _
        have hk1 : (k : Int) < (xs.length : Int) := by omega
        have hk2 : (k : Int) < (ys.length : Int) := by omega
        by_cases hxy : x = y
        · subst hxy
          have hb : (x != x) = false := by simp
          go_wp2_with fail
          go_quiet (fail)
          go_wp2
          go_roundw
          case rel => exact ⟨k + 1, hlt, by go_num, agree_succ hag H1.out H2.out, _, rfl⟩
          case measure => simp [intOf]; omega
        · have hb : (x != y) = true := by simp [hxy]
          have HN := Lib.hid hxy
          clear hxy
          go_wp2_with fail
          go_quiet (fail)
          go_wp2
          go_ret
          exact ⟨by rw [decide_eq_false (agree_not H1.out H2.out HN.out)]; rfl, _, drewN_drewN w nd nq⟩
      · go_wp2
        go_ret
        exact ⟨by rw [decide_eq_true (agree_all hag (by omega) HL.out)]; rfl, _, rfl⟩
  · have hne : ((xs.length : Int) != ys.length) = true := by simp; omega
    clear hx hy
    have HL := Lib.hid hl
    clear hl
    go_enter Try.func19, Try.ntmps19
    go_wp2
    go_ret
    exact ⟨by rw [decide_eq_false (fun h => HL.out (congrArg List.length h))]; rfl, 0, rfl⟩


/-- an act: its kind, class and object, its slice, what that holds -/
structure ActV where
  kind : Int
  cls : Int
  o : Int
  a : Option Addr
  cap : Nat
  l : List Int
def ActV.v (x : ActV) : Value := .slice x.a x.l.length x.cap
def ActV.cells (x : ActV) : List Value := [.int .i64 x.kind, .int .i64 x.cls, .int .i64 x.o, x.v]
def ActV.c (x : ActV) : ActC := ⟨x.kind, x.cls, x.o, x.l⟩
def ActsAt (w : World) (v : Value) (acts : List ActV) : Prop :=
  Reads w 4 v acts.length (acts.flatMap ActV.cells) ∧ ∀ x ∈ acts, IntsAt w x.v x.l ∧ x.l.length ≤ 9223372036854775807
theorem acts_get : ∀ (acts : List ActV) (k : Nat) (x : ActV), acts[k]? = some x → (acts.flatMap ActV.cells)[k * 4]? = some (.int .i64 x.kind) ∧ (acts.flatMap ActV.cells)[k * 4 + 1]? = some (.int .i64 x.cls) ∧ (acts.flatMap ActV.cells)[k * 4 + 2]? = some (.int .i64 x.o) ∧ (acts.flatMap ActV.cells)[k * 4 + 3]? = some x.v
  | [], k, x, h => by simp at h
  | y :: acts, 0, x, h => by
    simp at h
    subst h
    exact ⟨rfl, rfl, rfl, rfl⟩
  | y :: acts, k + 1, x, h => by
    have ih := acts_get acts k x (by simpa using h)
    rw [List.flatMap_cons, show (k + 1) * 4 = k * 4 + 1 + 1 + 1 + 1 by omega]
    exact ih
theorem ActsAt.cell {w : World} {v : Value} {acts : List ActV} (h : ActsAt w v acts) {k : Nat} {x : ActV} (hx : acts[k]? = some x) :
    ∃ b off cap, v = .slice (some ⟨b, off, none⟩) acts.length cap ∧ w.cell? ⟨b, off + k * 4, none⟩ = some (.int .i64 x.kind) ∧ w.cell? ⟨b, off + k * 4 + 1, none⟩ = some (.int .i64 x.cls) ∧
      w.cell? ⟨b, off + k * 4 + 2, none⟩ = some (.int .i64 x.o) ∧ w.cell? ⟨b, off + k * 4 + 3, none⟩ = some x.v := by
  have hk := (List.getElem?_eq_some_iff.1 hx).1
  obtain ⟨b, off, cap, hv, _, hc⟩ := h.1.lies (by omega)
  obtain ⟨h1, h2, h3, h4⟩ := acts_get acts k x hx
  exact ⟨b, off, cap, hv, hc _ _ h1, by rw [Nat.add_assoc]; exact hc _ _ h2, by rw [Nat.add_assoc]; exact hc _ _ h3, by rw [Nat.add_assoc]; exact hc _ _ h4⟩
theorem ActsAt.of0 {w0 w : World} {L : List HP} {v : Value} {acts : List ActV} (hs : St w0 L w) (h : ActsAt w0 v acts) : ActsAt w v acts :=
  ⟨hs.reads0 h.1, fun x hx => ⟨hs.reads0 (h.2 x hx).1, (h.2 x hx).2⟩⟩
def greatB (acts : List ActV) : Bool := acts.any (fun x => decide ((300 : Int) < x.l.length)) || decide ((60 : Int) < acts.length)
theorem great_no {acts : List ActV} (h : greatB acts = false) : acts.length ≤ 60 ∧ ∀ x ∈ acts, x.l.length ≤ 300 := by
  unfold greatB at h
  rw [Bool.or_eq_false_iff, List.any_eq_false] at h
  obtain ⟨h1, h2⟩ := h
  refine ⟨by have := of_decide_eq_false h2; omega, fun x hx => ?_⟩
  have := h1 x hx
  simp at this
  omega
def calm (acts : List ActV) (k : Nat) : Prop := ∀ x ∈ acts.take k, x.l.length ≤ 300
theorem calm_succ {acts : List ActV} {k : Nat} {x : ActV} (h : calm acts k) (hx : acts[k]? = some x) (hl : x.l.length ≤ 300) : calm acts (k + 1) := by
  intro y hy
  rw [List.take_add_one, hx] at hy
  rcases List.mem_append.1 hy with hy | hy
  · exact h y hy
  · simp at hy; subst hy; exact hl
theorem great_calm {acts : List ActV} {k : Nat} (h : calm acts k) (hk : acts.length ≤ k) : greatB acts = decide ((60 : Int) < acts.length) := by
  unfold greatB
  have : acts.any (fun x => decide ((300 : Int) < x.l.length)) = false := by
    rw [List.any_eq_false]
    intro x hx
    have := h x (by rw [List.take_of_length_le hk]; exact hx)
    simp; omega
  rw [this, Bool.false_or]
theorem great_yes {acts : List ActV} {k : Nat} {x : ActV} (hx : acts[k]? = some x) (h : 300 < x.l.length) : greatB acts = true := by
  unfold greatB
  rw [Bool.or_eq_true]
  exact .inl (List.any_eq_true.2 ⟨x, List.mem_of_getElem? hx, by simp; omega⟩)

set_option maxHeartbeats 1000000 in
theorem great_any (w : World) (a : Option Addr) (cap : Nat) (acts : List ActV) (h : ActsAt w (.slice a acts.length cap) acts) (hn : acts.length ≤ 9223372036854775807) :
    Calls Try.prog 14 #[.slice a acts.length cap] w fun e w' => e = .returned (.bool (greatB acts)) ∧ w = w' := by
  have H := Lib.hid h
  clear h
  go_enter Try.func14, Try.ntmps14
  go_wp2
  go_loop [3] (fun i => ∃ k : Nat, k ≤ acts.length ∧ i = .int .i64 k ∧ calm acts k) (fun i => acts.length - (intOf i).toNat)
  case atStart => exact ⟨0, Nat.zero_le _, rfl, fun x hx => by simp at hx⟩
  case round =>
    obtain ⟨k, hk, rfl, hcalm⟩ := hrel
    by_cases hlt : k < acts.length
    · obtain ⟨x, hx⟩ : ∃ x, acts[k]? = some x := ⟨acts[k], List.getElem?_eq_getElem hlt⟩
      obtain ⟨b, off, cp, e1, c0, c1, c2, c3⟩ := H.out.cell hx
      have hxl := (H.out.2 x (List.mem_of_getElem? hx)).2
      injection e1 with e1 e2 e3
      clear e2 e3
      subst e1
      have HX := Lib.hid hx
      clear hx
      unfold ActV.v at c3
      by_cases hg : x.l.length ≤ 300
      · have hd : decide ((300 : Int) < (x.l.length : Int)) = false := by simp; omega
        go_wp2
        go_round
        case rel => exact ⟨k + 1, hlt, by go_num, calm_succ hcalm HX.out hg⟩
        case measure => simp [intOf]; omega
      · have hd : decide ((300 : Int) < (x.l.length : Int)) = true := by simp; omega
        go_wp2
        go_ret
        exact ⟨by rw [great_yes HX.out (by omega)]; rfl, rfl⟩
    · go_wp2
      go_ret
      exact ⟨by rw [great_calm hcalm (by omega)]; rfl, rfl⟩
end Go.Proofs.Ytaejojbdkgccpaa

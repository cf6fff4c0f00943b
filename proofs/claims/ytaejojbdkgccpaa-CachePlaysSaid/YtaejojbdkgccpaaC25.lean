/-
  made; alive.
-/
import Derived.Test.YtaejojbdkgccpaaC24
namespace Go.Proofs.Ytaejojbdkgccpaa
open Go.RowKit Go.Maps Go.ChangeMaps

def mkOk (tb : List Cls) (bud : Int) : Prop := tabOk tb ∧ ¬ (bud < 0 ∨ 65536 < bud)
def actsS (tb : List Cls) (s : Nat → CL) : List ActV → Nat → CL
  | [] => s
  | x :: l => actsS tb (actS tb s x.c) l
theorem actsS_append (tb : List Cls) : ∀ (l : List ActV) (s : Nat → CL) (x : ActV), actsS tb s (l ++ [x]) = actS tb (actsS tb s l) x.c
  | [], _, _ => rfl
  | y :: l, s, x => actsS_append tb l (actS tb s y.c) x
theorem actsS_succ (tb : List Cls) (s : Nat → CL) {acts : List ActV} {k : Nat} {x : ActV} (h : acts[k]? = some x) : actsS tb s (acts.take (k + 1)) = actS tb (actsS tb s (acts.take k)) x.c := by
  rw [List.take_add_one, h]
  exact actsS_append _ _ _ _
theorem actsS_ok {tb : List Cls} (ht : tbOk tb) : ∀ (l : List ActV) {s : Nat → CL}, (∀ c, (s c).ok) → ∀ c, (actsS tb s l c).ok
  | [], _, h => h
  | x :: l, _, h => actsS_ok ht l (actS_ok ht h x.c)
def newS : Nat → CL := fun _ => CL.new
theorem newS_ok : ∀ c, (newS c).ok := fun _ => CL.ok_new

set_option maxRecDepth 10000 in
set_option maxHeartbeats 2000000 in
theorem made_any (w0 w : World) (F : List HP) (hs : St w0 F w) (a : Option Addr) (cap : Nat) (tb : List Cls) (ht : TabIn w0 F (.slice a tb.length cap) tb) (bud : Int)
    (a2 : Option Addr) (cap2 : Nat) (acts : List ActV) (h : ActsAt w0 (.slice a2 acts.length cap2) acts) (hn : acts.length ≤ 60) (hl : ∀ x ∈ acts, x.l.length ≤ 300) :
    Calls Try.prog 16 #[.slice a tb.length cap, .int .i64 bud, .slice a2 acts.length cap2] w fun e w' =>
      (¬ mkOk tb bud ∧ e = .returned (.pointer none) ∧ St w0 F w') ∨ (mkOk tb bud ∧ ∃ c, e = .returned (.pointer (some ⟨c, 0, none⟩)) ∧ St w0 (cacheP c tb bud (actsS tb newS acts) :: F) w') := by
  have H := Lib.hid h
  have HLL := Lib.hid hl
  have NW := Lib.hid (new_any w0 w F hs a cap tb ht bud)
  have HS0 := Lib.hid hs
  clear h ht hl hs
  by_cases h100 : 100 < tb.length
  · have j0 : decide ((100 : Int) < (tb.length : Int)) = true := decide_eq_true (by omega)
    have NO := Lib.hid (show ¬ mkOk tb bud from fun h => by have := h.1.2.1; omega)
    clear h100
    go_enter Try.func16, Try.ntmps16
    go_wp2_with fail
    go_ret
    exact .inl ⟨NO.out, rfl, HS0.out⟩
  have j0 : decide ((100 : Int) < (tb.length : Int)) = false := decide_eq_false (by omega)
  clear h100
  go_enter Try.func16, Try.ntmps16
  go_wp2_with fail
  refine NW.out.mono ?_
  rintro e w1 (⟨hno, rfl, h1⟩ | ⟨hyes, hb, rfl, h1⟩ | ⟨hyes, hb, c, rfl, h1⟩)
  · have NO := Lib.hid (show ¬ mkOk tb bud from fun h => hno h.1)
    have H1 := Lib.hid h1
    clear hno h1 HS0
    go_wp2_with fail
    go_ret
    exact .inl ⟨NO.out, rfl, H1.out⟩
  · have NO := Lib.hid (show ¬ mkOk tb bud from fun h => h.2 hb)
    have H1 := Lib.hid h1
    clear hyes hb h1 HS0
    go_wp2_with fail
    go_ret
    exact .inl ⟨NO.out, rfl, H1.out⟩
  have YES := Lib.hid (show mkOk tb bud from ⟨hyes, hb⟩)
  have TB := Lib.hid hyes.tb
  have H1 := Lib.hid h1
  clear hyes hb h1 HS0 NW
  go_wp2_with fail
  go_loopw [9] (fun i wr => ∃ k : Nat, k ≤ acts.length ∧ i = .int .i64 k ∧ Hid (St w0 (cacheP c tb bud (actsS tb newS (acts.take k)) :: F) wr)) (fun i _ => acts.length - (intOf i).toNat)
  case atStart => exact ⟨0, Nat.zero_le _, rfl, H1⟩
  case round =>
    clear H1
    obtain ⟨k, hk, rfl, HS⟩ := hrel
    by_cases hlt : k < acts.length
    · obtain ⟨x, hx⟩ : ∃ x, acts[k]? = some x := ⟨acts[k], List.getElem?_eq_getElem hlt⟩
      obtain ⟨b, off, cp, e1, k0, k1, k2, k3⟩ := H.out.cell hx
      have hb0 := World.block_lt_of_cell? w0 _ k0
      injection e1 with e1 e2 e3
      clear e2 e3
      subst e1
      have hm := List.mem_of_getElem? hx
      have DO := Lib.hid (do_any w0 wr F c tb bud _ TB.out (actsS_ok TB.out (acts.take k) newS_ok) HS.out x (fun G w' h => h.reads0 (H.out.2 x hm).1) (HLL.out x hm))
      have SU := Lib.hid (actsS_succ tb newS hx)
      have c0 := (HS.out.was hb0).trans k0
      have c1 := (HS.out.was (p := ⟨b, off + k * 4 + 1, none⟩) hb0).trans k1
      have c2 := (HS.out.was (p := ⟨b, off + k * 4 + 2, none⟩) hb0).trans k2
      have c3 := (HS.out.was (p := ⟨b, off + k * 4 + 3, none⟩) hb0).trans k3
      clear hx k0 k1 k2 k3 hb0 hm
      generalize x.v = xv at *
      go_wp2_with fail
      refine DO.out.mono ?_
      rintro e w2 ⟨a', c', rfl, h2⟩
      rw [← SU.out] at h2
      have H2 := Lib.hid h2.drop
      clear h2
      go_wp2_with fail
      go_roundw
      case rel => exact ⟨k + 1, hlt, by go_num, H2⟩
      case measure => simp [intOf]; omega
    · have e : acts.take k = acts := List.take_of_length_le (by omega)
      rw [e] at HS
      clear e
      go_wp2_with fail
      go_ret
      exact .inr ⟨YES.out, c, rfl, HS.out⟩
end Go.Proofs.Ytaejojbdkgccpaa

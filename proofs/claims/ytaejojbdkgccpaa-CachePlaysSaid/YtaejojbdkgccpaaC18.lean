/-
  Scavenge, Drain, Len, New.
-/
import Derived.Test.YtaejojbdkgccpaaC17
namespace Go.Proofs.Ytaejojbdkgccpaa
open Go.RowKit Go.Maps Go.ChangeMaps

theorem enter45 : ∀ args w, (callFunc 45 args).run Try.prog w = .ok (.enter 45 args) w := enters_of Try.func45 (by kernel_rfl) rfl
theorem enter48 : ∀ args w, (callFunc 48 args).run Try.prog w = .ok (.enter 48 args) w := enters_of Try.func48 (by kernel_rfl) rfl
theorem scav_len' {x : CL} (h : x.ok) : x.scavL.length = x.scavN := by
  obtain ⟨_, _, h3, _⟩ := h
  unfold CL.scavL
  rw [List.length_take]
  unfold CL.scavN
  omega
def scavS (tb : List Cls) (s : Nat → CL) : Nat → CL := fun k => (s k).scavF (Bt tb k)
def drainS (s : Nat → CL) : Nat → CL := fun k => (s k).drainF
def scavB (s : Nat → CL) (N : Nat) : List (Nat × List Int) := outB CL.scavL s N
def drainB (s : Nat → CL) (N : Nat) : List (Nat × List Int) := outB CL.objs s N

theorem scavenge_any (w0 w : World) (F : List HP) (c : Nat) (tb : List Cls) (bud : Int) (s : Nat → CL) (ht : tbOk tb) (hok : ∀ k, (s k).ok) (hs : St w0 (cacheP c tb bud s :: F) w) :
    Calls Try.prog 25 #[.pointer (some ⟨c, 0, none⟩)] w fun e w' => ∃ a' c', e = .returned (.slice a' (scavB s tb.length).length c') ∧
      St w0 (batsP (.slice a' (scavB s tb.length).length c') (scavB s tb.length) :: cacheP c tb bud (scavS tb s) :: F) w' := by
  have H := Lib.hid (batches_any w0 w F c tb bud s ht hok hs 45 CL.scavL (fun B x => x.scavF B) enter45 CL.scavL_new (fun k => CL.scav_new (Bt_range ht k).1) (fun G w b x B hx hB h => by
    rw [scav_len' hx]
    exact scav1_any w0 w G b x hx B hB h))
  clear hs hok ht
  go_enter Try.func25, Try.ntmps25
  go_wp2_with fail
  refine H.out.mono ?_
  rintro e w1 ⟨a', c', rfl, h1⟩
  go_wp2_with fail
  go_ret
  exact ⟨a', c', rfl, h1⟩
theorem drain_any (w0 w : World) (F : List HP) (c : Nat) (tb : List Cls) (bud : Int) (s : Nat → CL) (ht : tbOk tb) (hok : ∀ k, (s k).ok) (hs : St w0 (cacheP c tb bud s :: F) w) :
    Calls Try.prog 29 #[.pointer (some ⟨c, 0, none⟩)] w fun e w' => ∃ a' c', e = .returned (.slice a' (drainB s tb.length).length c') ∧
      St w0 (batsP (.slice a' (drainB s tb.length).length c') (drainB s tb.length) :: cacheP c tb bud (drainS s) :: F) w' := by
  have H := Lib.hid (batches_any w0 w F c tb bud s ht hok hs 48 CL.objs (fun _ x => x.drainF) enter48 rfl (fun k => CL.drain_new) (fun G w b x B hx hB h => drain1_any w0 w G b x hx _ h))
  clear hs hok ht
  go_enter Try.func29, Try.ntmps29
  go_wp2_with fail
  refine H.out.mono ?_
  rintro e w1 ⟨a', c', rfl, h1⟩
  go_wp2_with fail
  go_ret
  exact ⟨a', c', rfl, h1⟩

theorem len_in (w0 w : World) (F : List HP) (c : Nat) (tb : List Cls) (bud : Int) (s : Nat → CL) (k : Nat) (hN : tb.length ≤ 40) (hok : (s k).ok) (hs : St w0 (cacheP c tb bud s :: F) w) (hk : k < tb.length) :
    Calls Try.prog 22 #[.pointer (some ⟨c, 0, none⟩), .int .i64 (k : Nat)] w fun e w' => e = .returned (.int .i64 (s k).objs.length) ∧ St w0 (cacheP c tb bud s :: F) w' := by
  have H := Lib.hid (objects_in w0 w F c tb bud s k hN hok hs hk)
  clear hs hok
  go_enter Try.func22, Try.ntmps22
  go_wp2_with fail
  refine H.out.mono ?_
  rintro e w1 ⟨a', c', rfl, h1⟩
  have h2 := h1.drop
  go_wp2_with fail
  go_ret
  exact ⟨rfl, h2⟩
theorem len_out (w0 w : World) (F : List HP) (c : Nat) (tb : List Cls) (bud : Int) (s : Nat → CL) (hs : St w0 (cacheP c tb bud s :: F) w) (k : Int) (hk : ¬ inC tb.length k) :
    Calls Try.prog 22 #[.pointer (some ⟨c, 0, none⟩), .int .i64 k] w fun e w' => e = .returned (.int .i64 0) ∧ w = w' := by
  have H := Lib.hid (objects_out w0 w F c tb bud s hs k hk)
  clear hs hk
  go_enter Try.func22, Try.ntmps22
  go_wp2_with fail
  refine H.out.mono ?_
  rintro e w1 ⟨rfl, rfl⟩
  go_wp2_with fail
  go_ret
  exact ⟨rfl, rfl⟩

/-- what comes behind New -/
def newE (bud : Int) : Int := if bud < 0 ∨ 65536 < bud then 1 else 0
theorem TabIn.more {w0 : World} {F : List HP} {v : Value} {tb : List Cls} (h : TabIn w0 F v tb) (G : List HP) : TabIn w0 (G ++ F) v tb := fun G' w hs => h (G' ++ G) w (by rw [List.append_assoc]; exact hs)
theorem clsC_one (tb : List Cls) : ∀ u ∈ clsC tb, u.oneCell' = true := by
  intro u hu
  unfold clsC at hu
  obtain ⟨x, _, hx⟩ := List.mem_flatMap.1 hu
  simp at hx
  rcases hx with rfl | rfl | rfl <;> rfl

set_option maxHeartbeats 1000000 in
theorem new_any (w0 w : World) (F : List HP) (hs : St w0 F w) (a : Option Addr) (cap : Nat) (tb : List Cls) (ht : TabIn w0 F (.slice a tb.length cap) tb) (bud : Int) :
    Calls Try.prog 32 #[.slice a tb.length cap, .int .i64 bud] w fun e w' =>
      (¬ tabOk tb ∧ e = .returned (.tuple #[.pointer none, .int .i64 2]) ∧ St w0 F w') ∨ (tabOk tb ∧ (bud < 0 ∨ 65536 < bud) ∧ e = .returned (.tuple #[.pointer none, .int .i64 1]) ∧ St w0 F w') ∨
      (tabOk tb ∧ ¬ (bud < 0 ∨ 65536 < bud) ∧ ∃ c, e = .returned (.tuple #[.pointer (some ⟨c, 0, none⟩), .int .i64 0]) ∧ St w0 (cacheP c tb bud (fun _ => CL.new) :: F) w') := by
  have V := Lib.hid (valid_any w0 w F hs a cap tb ht)
  have HT := Lib.hid ht
  clear ht hs
  go_enter Try.func32, Try.ntmps32
  go_wp2_with fail
  refine V.out.mono ?_
  rintro e w1 ⟨v, rfl, hv, h1⟩
  cases v with
  | false =>
    have NV := Lib.hid (show ¬ tabOk tb from fun h => by have := hv.2 h; cases this)
    have H1 := Lib.hid h1
    clear hv h1
    go_wp2_with fail
    go_ret2
    exact .inl ⟨NV.out, rfl, H1.out⟩
  | true =>
    have YV := Lib.hid (hv.1 rfl)
    have H1 := Lib.hid h1
    clear hv h1
    by_cases b1 : bud < 0
    · have j0 : decide (bud < 0) = true := decide_eq_true b1
      have BB := Lib.hid b1
      clear b1
      go_wp2_with fail
      go_ret2
      exact .inr (.inl ⟨YV.out, .inl BB.out, rfl, H1.out⟩)
    have j0 : decide (bud < 0) = false := decide_eq_false b1
    by_cases b2 : 65536 < bud
    · have j1 : decide (65536 < bud) = true := decide_eq_true b2
      have BB := Lib.hid b2
      clear b1 b2
      go_wp2_with fail
      go_ret2
      exact .inr (.inl ⟨YV.out, .inr BB.out, rfl, H1.out⟩)
    have j1 : decide (65536 < bud) = false := decide_eq_false b2
    have BB := Lib.hid (show ¬ (bud < 0 ∨ 65536 < bud) by omega)
    clear b1 b2
    go_wp2_with fail
    refine (tclone_any w0 w1 F a tb.length cap (clsC tb) H1.out (HT.out [] w1 H1.out) (clsC_one tb) (by have := YV.out.2.1; omega)).mono ?_
    rintro e w2 ⟨a2, c2, rfl, h2⟩
    have h3 := h2.alloc (.map #[] 0)
    have h4 := h3.allocRow #[.slice a2 tb.length c2, .int .i64 bud, .map (some w2.heap.size)] 65
    rw [show (w2.alloc (.map #[] 0)).heap.size = w2.heap.size + 1 by simp] at h4
    have H4 := Lib.hid h4
    clear h2 h3 h4
    have hmk : ∀ w : World, (Instr.makeMap 63 none).run Try.prog w = .ok (.map (some w.heap.size)) (w.alloc (.map #[] 0)) := fun _ => rfl
    go_wp2_with fail
    go_ret2
    refine .inr (.inr ⟨YV.out, BB.out, _, rfl, ?_⟩)
    refine cache_shut (D := ⟨w2.heap.size, 0, [], a2, c2⟩) ⟨MapOk.nil, by simp, fun _ _ _ => rfl⟩ ?_
    exact H4.out
end Go.Proofs.Ytaejojbdkgccpaa

/-
  The law CachePlays. (Printed by mkL12.py.)
-/
import Derived.Test.YtaejojbdkgccpaaC44
namespace Go.Proofs.Ytaejojbdkgccpaa
open Go.RowKit Go.Maps Go.ChangeMaps

theorem rclone_nil (w : World) : Calls Try.prog 34 #[.pointer none] w fun e w' => e = .returned (.pointer none) ∧ w = w' := by
  go_enter Try.func34, Try.ntmps34
  go_wp2_with fail
  refine (rmade_nil w).mono ?_
  rintro e w' ⟨rfl, rfl⟩
  go_wp2_with fail
  go_ret
  exact ⟨rfl, rfl⟩
set_option maxRecDepth 10000 in
set_option maxHeartbeats 8000000 in
theorem plays_walk (a : Option Addr) (cap : Nat) (tb : List Cls) (bud : Int) (_w1 : (Lit.int .i64 bud).wf = true) (a2 : Option Addr) (cap2 : Nat) (acts : List ActV) (w : World)
    (ht : Reads w 3 (.slice a tb.length cap) tb.length (clsC tb)) (_hn : tb.length ≤ 9223372036854775807) (h : ActsAt w (.slice a2 acts.length cap2) acts) (hn2 : acts.length ≤ 9223372036854775807) :
    Calls Try.prog 12 #[.slice a tb.length cap, .int .i64 bud, .slice a2 acts.length cap2] w fun e w' => e = .returned (.bool true) ∧ Below w.heap.size w w' := by
  have GR := Lib.hid (great_any w a2 cap2 acts h hn2)
  have AL := Lib.hid fun w1 (L : List HP) (h1 : St w L w1) => alive_any w w1 L h1
  cases hg : greatB acts with
  | true =>
    rw [hg] at GR
    clear h ht hg
    go_enter Try.func12, Try.ntmps12
    go_wp2_with fail
    refine GR.out.mono ?_
    rintro e w' ⟨rfl, rfl⟩
    go_wp2_with fail
    refine (AL.out w [] (St.start w)).mono ?_
    rintro e w1 ⟨rfl, h1⟩
    go_wp2_with fail
    go_ret
    exact ⟨rfl, h1.1⟩
  | false =>
  obtain ⟨n60, n300⟩ := great_no hg
  rw [hg] at GR
  by_cases h100 : 100 < tb.length
  · have j0 : decide ((100 : Int) < (tb.length : Int)) = true := decide_eq_true (by omega)
    have j0' : decide (100 < tb.length) = true := decide_eq_true h100
    clear h ht hg
    go_enter Try.func12, Try.ntmps12
    go_wp2_with fail
    refine GR.out.mono ?_
    rintro e w' ⟨rfl, rfl⟩
    go_wp2_with fail
    refine (AL.out w [] (St.start w)).mono ?_
    rintro e w1 ⟨rfl, h1⟩
    go_wp2_with fail
    go_ret
    exact ⟨rfl, h1.1⟩
  have j0 : decide ((100 : Int) < (tb.length : Int)) = false := decide_eq_false (by omega)
  have j0' : decide (100 < tb.length) = false := decide_eq_false h100
  have NW := Lib.hid (new_any w w [] (St.start w) a cap tb (fun G w' h => h.reads0 ht) bud)
  have RN := Lib.hid fun w1 (L : List HP) (g : St w L w1) => rnew_any w w1 L g a cap tb (fun G w' h => h.reads0 ht) bud
  have H := Lib.hid h
  have N300 := Lib.hid n300
  clear h ht hg n300
  go_enter Try.func12, Try.ntmps12
  go_wp2_with fail
  refine GR.out.mono ?_
  rintro e w' ⟨rfl, rfl⟩
  go_wp2_with fail
  refine NW.out.mono ?_
  rintro e w1 hcase
  rcases hcase with ⟨hno, rfl, h1⟩ | ⟨hyes, hb, rfl, h1⟩ | ⟨hyes, hb, c, rfl, h1⟩
  · have H1 := Lib.hid h1
    clear h1 NW
    go_wp2_with fail
    refine (RN.out _ _ H1.out).mono ?_
    rintro e w2 hc2
    rcases hc2 with ⟨_, rfl, h2⟩ | ⟨hy, _⟩ | ⟨hy, _⟩
    rotate_left
    · exact absurd hy hno
    · exact absurd hy hno
    have H2 := Lib.hid h2
    clear h2 H1 RN hno
    go_wp2_with fail
    go_loopw [7, 9, 11] (fun p q i wr => ∃ k : Nat, k ≤ acts.length ∧ p = .pointer none ∧ q = .pointer none ∧ i = .int .i64 k ∧ Hid (St w [] wr)) (fun _ _ i _ => acts.length - (intOf i).toNat)
    case atStart => exact ⟨0, Nat.zero_le _, rfl, rfl, rfl, H2⟩
    case round =>
      clear H2
      obtain ⟨k, hk, rfl, rfl, rfl, HS⟩ := hrel
      by_cases hlt : k < acts.length
      · obtain ⟨x, hx⟩ : ∃ x, acts[k]? = some x := ⟨acts[k], List.getElem?_eq_getElem hlt⟩
        obtain ⟨b, off, cp, e1, k0, k1, k2, k3⟩ := H.out.cell hx
        have hb0 := World.block_lt_of_cell? w _ k0
        injection e1 with e1 e2 e3
        clear e2 e3
        subst e1
        have hm := List.mem_of_getElem? hx
        have IX := Lib.hid (H.out.2 x hm).1
        have LX := Lib.hid (N300.out x hm)
        have i0' : (0 : Int) ≤ (k : Int) := by omega
        have i1' : (k : Int) < (acts.length : Int) := by omega
        have dk : decide ((k : Int) < (acts.length : Int)) = true := decide_eq_true (by omega)
        have dk' : decide (k < acts.length) = true := decide_eq_true hlt
        have CX : Hid (∀ L w9, St w L w9 → w9.cell? ⟨b, off + k * 4, none⟩ = some (.int .i64 x.kind) ∧ w9.cell? ⟨b, off + k * 4 + 1, none⟩ = some (.int .i64 x.cls) ∧ w9.cell? ⟨b, off + k * 4 + 2, none⟩ = some (.int .i64 x.o) ∧ w9.cell? ⟨b, off + k * 4 + 3, none⟩ = some x.v) := Lib.hid fun L w9 g =>
          ⟨(g.was hb0).trans k0, (g.was (p := ⟨b, off + k * 4 + 1, none⟩) hb0).trans k1, (g.was (p := ⟨b, off + k * 4 + 2, none⟩) hb0).trans k2, (g.was (p := ⟨b, off + k * 4 + 3, none⟩) hb0).trans k3⟩
        clear hx k0 k1 k2 k3 hb0 hm
        obtain ⟨c0, c1, c2, c3⟩ := CX.out _ _ HS.out
        have BN : Hid (BareS w [] (.pointer none)) := Lib.hid fun _ _ => .inl rfl
        have PB := Lib.hid (play_bare w wr [] (.pointer none) BN.out HS.out x.kind x.cls x.o x.v)
        generalize x.v = xv at *
        by_cases h6 : x.kind = 6
        · have b6 : (x.kind == 6) = true := by rw [beq_iff_eq]; exact h6
          clear h6
          go_wp2_with fail
          refine (clone_bare (BN.out _ HS.out)).mono ?_
          rintro e w2 ⟨rfl, rfl⟩
          go_wp2_with fail
          refine (rclone_nil _).mono ?_
          rintro e w2 ⟨rfl, rfl⟩
          go_wp2_with fail
          refine PB.out.mono ?_
          rintro e w2 ⟨rfl, g⟩
          have G := Lib.hid g
          clear g c0 c1 c2 c3
          go_wp2_with fail
          go_roundw
          case rel => exact ⟨k + 1, hlt, rfl, rfl, by go_num, G⟩
          case measure => simp [intOf]; omega
        · have b6 : (x.kind == 6) = false := by rw [beq_eq_false_iff_ne]; exact h6
          clear h6
          go_wp2_with fail
          refine PB.out.mono ?_
          rintro e w2 ⟨rfl, g⟩
          have G := Lib.hid g
          clear g c0 c1 c2 c3
          go_wp2_with fail
          go_roundw
          case rel => exact ⟨k + 1, hlt, rfl, rfl, by go_num, G⟩
          case measure => simp [intOf]; omega
      · have dk : decide ((k : Int) < (acts.length : Int)) = false := decide_eq_false (by omega)
        have dk' : decide (k < acts.length) = false := decide_eq_false hlt
        have BN : Hid (BareS w [] (.pointer none)) := Lib.hid fun _ _ => .inl rfl
        have SB := Lib.hid (Same_bare w wr [] (.pointer none) BN.out HS.out tb.length (by omega))
        go_wp2_with fail
        refine SB.out.mono ?_
        rintro e w2 ⟨rfl, g⟩
        have G := Lib.hid g
        clear g
        go_wp2_with fail
        refine (AL.out _ _ G.out).mono ?_
        rintro e w1 ⟨rfl, h1⟩
        go_wp2_with fail
        go_ret
        exact ⟨rfl, h1.1⟩
  · have H1 := Lib.hid h1
    clear h1 NW
    go_wp2_with fail
    refine (RN.out _ _ H1.out).mono ?_
    rintro e w2 hc2
    rcases hc2 with ⟨hy, _⟩ | ⟨_, _, rfl, h2⟩ | ⟨_, hy, _⟩
    · exact absurd hyes hy
    rotate_left
    · exact absurd hb hy
    have H2 := Lib.hid h2
    clear h2 H1 RN hyes hb
    go_wp2_with fail
    go_loopw [7, 9, 11] (fun p q i wr => ∃ k : Nat, k ≤ acts.length ∧ p = .pointer none ∧ q = .pointer none ∧ i = .int .i64 k ∧ Hid (St w [] wr)) (fun _ _ i _ => acts.length - (intOf i).toNat)
    case atStart => exact ⟨0, Nat.zero_le _, rfl, rfl, rfl, H2⟩
    case round =>
      clear H2
      obtain ⟨k, hk, rfl, rfl, rfl, HS⟩ := hrel
      by_cases hlt : k < acts.length
      · obtain ⟨x, hx⟩ : ∃ x, acts[k]? = some x := ⟨acts[k], List.getElem?_eq_getElem hlt⟩
        obtain ⟨b, off, cp, e1, k0, k1, k2, k3⟩ := H.out.cell hx
        have hb0 := World.block_lt_of_cell? w _ k0
        injection e1 with e1 e2 e3
        clear e2 e3
        subst e1
        have hm := List.mem_of_getElem? hx
        have IX := Lib.hid (H.out.2 x hm).1
        have LX := Lib.hid (N300.out x hm)
        have i0' : (0 : Int) ≤ (k : Int) := by omega
        have i1' : (k : Int) < (acts.length : Int) := by omega
        have dk : decide ((k : Int) < (acts.length : Int)) = true := decide_eq_true (by omega)
        have dk' : decide (k < acts.length) = true := decide_eq_true hlt
        have CX : Hid (∀ L w9, St w L w9 → w9.cell? ⟨b, off + k * 4, none⟩ = some (.int .i64 x.kind) ∧ w9.cell? ⟨b, off + k * 4 + 1, none⟩ = some (.int .i64 x.cls) ∧ w9.cell? ⟨b, off + k * 4 + 2, none⟩ = some (.int .i64 x.o) ∧ w9.cell? ⟨b, off + k * 4 + 3, none⟩ = some x.v) := Lib.hid fun L w9 g =>
          ⟨(g.was hb0).trans k0, (g.was (p := ⟨b, off + k * 4 + 1, none⟩) hb0).trans k1, (g.was (p := ⟨b, off + k * 4 + 2, none⟩) hb0).trans k2, (g.was (p := ⟨b, off + k * 4 + 3, none⟩) hb0).trans k3⟩
        clear hx k0 k1 k2 k3 hb0 hm
        obtain ⟨c0, c1, c2, c3⟩ := CX.out _ _ HS.out
        have BN : Hid (BareS w [] (.pointer none)) := Lib.hid fun _ _ => .inl rfl
        have PB := Lib.hid (play_bare w wr [] (.pointer none) BN.out HS.out x.kind x.cls x.o x.v)
        generalize x.v = xv at *
        by_cases h6 : x.kind = 6
        · have b6 : (x.kind == 6) = true := by rw [beq_iff_eq]; exact h6
          clear h6
          go_wp2_with fail
          refine (clone_bare (BN.out _ HS.out)).mono ?_
          rintro e w2 ⟨rfl, rfl⟩
          go_wp2_with fail
          refine (rclone_nil _).mono ?_
          rintro e w2 ⟨rfl, rfl⟩
          go_wp2_with fail
          refine PB.out.mono ?_
          rintro e w2 ⟨rfl, g⟩
          have G := Lib.hid g
          clear g c0 c1 c2 c3
          go_wp2_with fail
          go_roundw
          case rel => exact ⟨k + 1, hlt, rfl, rfl, by go_num, G⟩
          case measure => simp [intOf]; omega
        · have b6 : (x.kind == 6) = false := by rw [beq_eq_false_iff_ne]; exact h6
          clear h6
          go_wp2_with fail
          refine PB.out.mono ?_
          rintro e w2 ⟨rfl, g⟩
          have G := Lib.hid g
          clear g c0 c1 c2 c3
          go_wp2_with fail
          go_roundw
          case rel => exact ⟨k + 1, hlt, rfl, rfl, by go_num, G⟩
          case measure => simp [intOf]; omega
      · have dk : decide ((k : Int) < (acts.length : Int)) = false := decide_eq_false (by omega)
        have dk' : decide (k < acts.length) = false := decide_eq_false hlt
        have BN : Hid (BareS w [] (.pointer none)) := Lib.hid fun _ _ => .inl rfl
        have SB := Lib.hid (Same_bare w wr [] (.pointer none) BN.out HS.out tb.length (by omega))
        go_wp2_with fail
        refine SB.out.mono ?_
        rintro e w2 ⟨rfl, g⟩
        have G := Lib.hid g
        clear g
        go_wp2_with fail
        refine (AL.out _ _ G.out).mono ?_
        rintro e w1 ⟨rfl, h1⟩
        go_wp2_with fail
        go_ret
        exact ⟨rfl, h1.1⟩
  · have H1 := Lib.hid h1
    clear h1 NW
    go_wp2_with fail
    refine (RN.out _ _ H1.out).mono ?_
    rintro e w2 hc2
    rcases hc2 with ⟨hy, _⟩ | ⟨_, hy, _⟩ | ⟨_, _, c2, rfl, h2⟩
    · exact absurd hyes hy
    · exact absurd hy hb
    have H2 := Lib.hid h2.swap
    have TB := Lib.hid hyes.tb
    clear h2 H1 RN hyes hb
    go_wp2_with fail
    go_loopw [7, 9, 11] (fun p q i wr => ∃ (k : Nat) (c c2 : Nat) (s : Nat → CL) (rest : List HP), k ≤ acts.length ∧ p = .pointer (some ⟨c, 0, none⟩) ∧ q = .pointer (some ⟨c2, 0, none⟩) ∧ i = .int .i64 k ∧ Hid (∀ k, (s k).ok) ∧ Hid (St w (cacheP c tb bud s :: refP c2 tb bud s :: rest) wr)) (fun _ _ i _ => acts.length - (intOf i).toNat)
    case atStart => exact ⟨0, c, c2, fun _ => CL.new, [], Nat.zero_le _, rfl, rfl, rfl, Lib.hid fun _ => CL.ok_new, H2⟩
    case round =>
      clear H2
      obtain ⟨k, c, c2, s, rest, hk, rfl, rfl, rfl, OK, HS⟩ := hrel
      by_cases hlt : k < acts.length
      · obtain ⟨x, hx⟩ : ∃ x, acts[k]? = some x := ⟨acts[k], List.getElem?_eq_getElem hlt⟩
        obtain ⟨b, off, cp, e1, k0, k1, k2, k3⟩ := H.out.cell hx
        have hb0 := World.block_lt_of_cell? w _ k0
        injection e1 with e1 e2 e3
        clear e2 e3
        subst e1
        have hm := List.mem_of_getElem? hx
        have IX := Lib.hid (H.out.2 x hm).1
        have LX := Lib.hid (N300.out x hm)
        have i0' : (0 : Int) ≤ (k : Int) := by omega
        have i1' : (k : Int) < (acts.length : Int) := by omega
        have dk : decide ((k : Int) < (acts.length : Int)) = true := decide_eq_true (by omega)
        have dk' : decide (k < acts.length) = true := decide_eq_true hlt
        have CX : Hid (∀ L w9, St w L w9 → w9.cell? ⟨b, off + k * 4, none⟩ = some (.int .i64 x.kind) ∧ w9.cell? ⟨b, off + k * 4 + 1, none⟩ = some (.int .i64 x.cls) ∧ w9.cell? ⟨b, off + k * 4 + 2, none⟩ = some (.int .i64 x.o) ∧ w9.cell? ⟨b, off + k * 4 + 3, none⟩ = some x.v) := Lib.hid fun L w9 g =>
          ⟨(g.was hb0).trans k0, (g.was (p := ⟨b, off + k * 4 + 1, none⟩) hb0).trans k1, (g.was (p := ⟨b, off + k * 4 + 2, none⟩) hb0).trans k2, (g.was (p := ⟨b, off + k * 4 + 3, none⟩) hb0).trans k3⟩
        clear hx k0 k1 k2 k3 hb0 hm
        obtain ⟨c0, c1, c3, c4⟩ := CX.out _ _ HS.out
        have PL := Lib.hid fun w9 d d2 R (g : St w (cacheP d tb bud s :: refP d2 tb bud s :: R) w9) => play_in w w9 R d d2 tb bud s TB.out OK.out g x (fun G w' h => h.reads0 IX.out) LX.out
        have OK2 : Hid (∀ k, (actS tb s x.c k).ok) := Lib.hid (actS_ok TB.out OK.out x.c)
        generalize x.v = xv at *
        generalize actS tb s x.c = s2 at *
        by_cases h6 : x.kind = 6
        · have b6 : (x.kind == 6) = true := by rw [beq_iff_eq]; exact h6
          clear h6
          have CL1 := Lib.hid (clone_any w wr _ c tb bud s TB.out OK.out HS.out)
          go_wp2_with fail
          refine CL1.out.mono ?_
          rintro e w2 ⟨d, rfl, g⟩
          have CL2 := Lib.hid (rclone_in (c := c2) TB.out OK.out (g.perm (L' := refP c2 tb bud s :: cacheP d tb bud s :: cacheP c tb bud s :: rest) (by simp only [HP.big]; ac_rfl)))
          clear g c0 c1 c3 c4
          go_wp2_with fail
          refine CL2.out.mono ?_
          rintro e w3 ⟨d2, rfl, g⟩
          have GP := Lib.hid (g.perm (L' := cacheP d tb bud s :: refP d2 tb bud s :: refP c2 tb bud s :: cacheP c tb bud s :: rest) (by simp only [HP.big]; ac_rfl))
          clear g CL1 CL2
          obtain ⟨c0, c1, c3, c4⟩ := CX.out _ _ GP.out
          go_wp2_with fail
          refine (PL.out _ _ _ _ GP.out).mono ?_
          rintro e w4 ⟨rfl, g⟩
          have G := Lib.hid g
          clear g c0 c1 c3 c4 GP
          go_wp2_with fail
          go_roundw
          case rel => exact ⟨k + 1, d, d2, s2, _, hlt, rfl, rfl, by go_num, OK2, G⟩
          case measure => simp [intOf]; omega
        · have b6 : (x.kind == 6) = false := by rw [beq_eq_false_iff_ne]; exact h6
          clear h6
          go_wp2_with fail
          refine (PL.out _ _ _ _ HS.out).mono ?_
          rintro e w4 ⟨rfl, g⟩
          have G := Lib.hid g
          clear g c0 c1 c3 c4
          go_wp2_with fail
          go_roundw
          case rel => exact ⟨k + 1, c, c2, s2, _, hlt, rfl, rfl, by go_num, OK2, G⟩
          case measure => simp [intOf]; omega
      · have dk : decide ((k : Int) < (acts.length : Int)) = false := decide_eq_false (by omega)
        have dk' : decide (k < acts.length) = false := decide_eq_false hlt
        have SB := Lib.hid (Same_any w wr rest c c2 tb bud s TB.out OK.out HS.out)
        go_wp2_with fail
        refine SB.out.mono ?_
        rintro e w2 ⟨rfl, g⟩
        have G := Lib.hid g
        clear g
        go_wp2_with fail
        refine (AL.out _ _ G.out).mono ?_
        rintro e w1 ⟨rfl, h1⟩
        go_wp2_with fail
        go_ret
        exact ⟨rfl, h1.1⟩
end Go.Proofs.Ytaejojbdkgccpaa

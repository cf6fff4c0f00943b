/-
  The law CacheIdle. (Printed by mkL3.py.)
-/
import Derived.Test.YtaejojbdkgccpaaL2
namespace Go.Proofs.Ytaejojbdkgccpaa
open Go.RowKit Go.Maps Go.ChangeMaps

/-- how many objects the first n classes have -/
def lenN (s : Nat → CL) : Nat → Nat
  | 0 => 0
  | n + 1 => lenN s n + (s n).objs.length
theorem lenN_le {s : Nat → CL} (hok : ∀ k, (s k).ok) : ∀ n, lenN s n ≤ 256 * n
  | 0 => Nat.le_refl _
  | n + 1 => by
    have := lenN_le hok n
    have := (hok n).2.2.2
    show lenN s n + _ ≤ _
    omega
def itS (tb : List Cls) (s : Nat → CL) : Nat → Nat → CL
  | 0 => s
  | j + 1 => scavS tb (itS tb s j)
theorem scavs_out (b : Nat) : ∀ (j : Nat) (x : CL), CL.scavs b (j + 1) x = (CL.scavs b j x).scavF b
  | 0, _ => rfl
  | j + 1, x => scavs_out b j (x.scavF b)
theorem itS_at (tb : List Cls) (s : Nat → CL) (k : Nat) : ∀ j, itS tb s j k = CL.scavs (Bt tb k) j (s k)
  | 0 => rfl
  | j + 1 => by
    rw [scavs_out, ← itS_at tb s k j]
    rfl
theorem itS_ok {tb : List Cls} (ht : tbOk tb) {s : Nat → CL} (hok : ∀ k, (s k).ok) : ∀ j k, (itS tb s j k).ok
  | 0, k => hok k
  | j + 1, k => CL.ok_scav (itS_ok ht hok j k) (Bt_range ht k)
theorem itS_ten {tb : List Cls} {s : Nat → CL} (hok : ∀ k, (s k).ok) (k : Nat) : (itS tb s 10 k).objs = [] := by rw [itS_at]; exact CL.scavs_ten (hok k)
theorem lenN_zero {s : Nat → CL} (h : ∀ k, (s k).objs = []) : ∀ n, lenN s n = 0
  | 0 => rfl
  | n + 1 => by
    show lenN s n + (s n).objs.length = 0
    rw [lenN_zero h n, h n]
    rfl
theorem bytesN_zero {tb : List Cls} {s : Nat → CL} (h : ∀ k, (s k).objs = []) : ∀ n, bytesN tb s n = 0
  | 0 => rfl
  | n + 1 => by
    show bytesN tb s n + sizeT tb n * ((s n).objs.length : Int) = 0
    rw [bytesN_zero h n, h n]
    simp
theorem flat_outB (fL : CL → List Int) (s : Nat → CL) : ∀ n, flatB (outB fL s (n + 1)) = flatB (outB fL s n) ++ fL (s n) := by
  intro n
  unfold flatB outB
  rw [List.range_succ, List.filterMap_append, List.flatMap_append]
  congr 1
  simp only [List.filterMap_cons, List.filterMap_nil]
  by_cases h : 0 < (fL (s n)).length
  · rw [if_pos h]; simp
  · rw [if_neg h]
    have : fL (s n) = [] := List.eq_nil_of_length_eq_zero (by omega)
    simp [this]
theorem lenN_scav {tb : List Cls} {s : Nat → CL} (hok : ∀ k, (s k).ok) : ∀ n, lenN (scavS tb s) n + (flatB (outB CL.scavL s n)).length = lenN s n
  | 0 => rfl
  | n + 1 => by
    have h1 := lenN_scav (tb := tb) hok n
    rw [flat_outB, List.length_append, scav_len' (hok n)]
    show lenN (scavS tb s) n + (scavS tb s n).objs.length + _ = lenN s n + (s n).objs.length
    have h2 : (scavS tb s n).objs.length = (s n).objs.length - (s n).scavN := by
      unfold scavS CL.scavF
      rw [List.length_drop]
    have h3 : (s n).scavN ≤ (s n).objs.length := by
      have := (hok n).2.2.1
      unfold CL.scavN
      omega
    omega

set_option maxRecDepth 10000 in
set_option maxHeartbeats 4000000 in
theorem idle_walk (a : Option Addr) (cap : Nat) (tb : List Cls) (bud : Int) (_w1 : (Lit.int .i64 bud).wf = true) (a2 : Option Addr) (cap2 : Nat) (acts : List ActV) (w : World)
    (ht : Reads w 3 (.slice a tb.length cap) tb.length (clsC tb)) (_hn : tb.length ≤ 9223372036854775807) (h : ActsAt w (.slice a2 acts.length cap2) acts) (hn2 : acts.length ≤ 9223372036854775807) :
    Calls Try.prog 8 #[.slice a tb.length cap, .int .i64 bud, .slice a2 acts.length cap2] w fun e w' => e = .returned (.bool true) ∧ Below w.heap.size w w' := by
  have GR := Lib.hid (great_any w a2 cap2 acts h hn2)
  have AL := Lib.hid fun w1 (L : List HP) (h1 : St w L w1) => alive_any w w1 L h1
  cases hg : greatB acts with
  | true =>
    rw [hg] at GR
    clear h ht hg
    go_enter Try.func8, Try.ntmps8
    go_wp2_with fail
    refine GR.out.mono ?_
    rintro e w' ⟨rfl, rfl⟩
    go_wp2_with fail
    refine (AL.out w _ (St.start w)).mono ?_
    rintro e w1 ⟨rfl, h1⟩
    go_wp2_with fail
    go_ret
    exact ⟨rfl, h1.1⟩
  | false =>
  obtain ⟨n60, n300⟩ := acts_ok hg
  rw [hg] at GR
  have MD := Lib.hid (made_any w w [] (St.start w) a cap tb (fun G w' h => h.reads0 ht) bud a2 cap2 acts h n60 n300)
  have HT := Lib.hid ht
  clear h ht hg n300
  go_enter Try.func8, Try.ntmps8
  go_wp2_with fail
  refine GR.out.mono ?_
  rintro e w' ⟨rfl, rfl⟩
  go_wp2_with fail
  refine MD.out.mono ?_
  rintro e w1 (⟨_, rfl, h1⟩ | ⟨hmk, c, rfl, h1⟩)
  · have H1 := Lib.hid h1
    clear h1
    go_wp2_with fail
    refine (AL.out w1 _ H1.out).mono ?_
    rintro e w1 ⟨rfl, h1⟩
    go_wp2_with fail
    go_ret
    exact ⟨rfl, h1.1⟩
  obtain ⟨T, OK⟩ := mk_ok hmk acts
  have T' := Lib.hid T
  clear T
  have T := T'
  clear T'
  have OK' := Lib.hid OK
  clear OK
  have OK := OK'
  clear OK'
  have H1 := Lib.hid h1
  have hN := T.out.2.1
  have BUD := Lib.hid hmk.2
  have TAB := Lib.hid hmk.1
  clear h1 hmk MD GR
  generalize actsS tb newS acts = s at *
  have LE := Lib.hid (lenN_le OK.out)
  go_wp2_with fail
  go_loopw [8, 9] (fun n i wr => ∃ k : Nat, k ≤ tb.length ∧ i = .int .i64 k ∧ n = .int .i64 (lenN s k : Nat) ∧ Hid (St w (cacheP c tb bud s :: []) wr)) (fun _ i _ => tb.length - (intOf i).toNat)
  case atStart => exact ⟨0, Nat.zero_le _, rfl, rfl, H1⟩
  case round =>
    clear H1
    obtain ⟨k, hk, rfl, rfl, HS⟩ := hrel
    by_cases hlt : k < tb.length
    · have LN := Lib.hid (len_in w wr [] c tb bud s k hN (OK.out k) HS.out hlt)
      have hb := LE.out k
      have hm := (OK.out k).2.2.2
      have q1 : IntKind.i64.wrap ((lenN s k : Int) + ((s k).objs.length : Int)) = ((lenN s (k + 1) : Nat) : Int) := by
        show _ = ((lenN s k + (s k).objs.length : Nat) : Int)
        rw [IntWalk.i64_in _ (by omega)]
        omega
      clear hb hm
      go_wp2_with fail
      refine LN.out.mono ?_
      rintro e w3 ⟨rfl, h3⟩
      have H3 := Lib.hid h3
      clear h3
      go_wp2_with fail
      go_roundw
      case rel => exact ⟨k + 1, hlt, by go_num, rfl, H3⟩
      case measure => simp [intOf]; omega
    · have e : k = tb.length := by omega
      subst e
      go_wp2_with fail
      go_loopw [8, 10] (fun n i wr => ∃ j : Nat, j ≤ 10 ∧ i = .int .i64 j ∧ n = .int .i64 (lenN (itS tb s j) tb.length : Nat) ∧ Hid (St w (cacheP c tb bud (itS tb s j) :: []) wr)) (fun _ i _ => 10 - (intOf i).toNat)
      case atStart => exact ⟨0, Nat.zero_le _, rfl, rfl, HS⟩
      case round =>
        clear HS
        obtain ⟨j, hj, rfl, rfl, HS⟩ := hrel
        by_cases hlt : j < 10
        · have ok9 := itS_ok T.out OK.out j
          have SC := Lib.hid (scavenge_any w wr [] c tb bud (itS tb s j) T.out ok9 HS.out)
          have hbl : (scavB (itS tb s j) tb.length).length ≤ 40 := Nat.le_trans (outB_len _ _ _) hN
          have hbo := scavB_objs ok9 tb.length
          have A : Hid (∀ w1 (G : List HP) a' c', St w (batsP (.slice a' (scavB (itS tb s j) tb.length).length c') (scavB (itS tb s j) tb.length) :: G) w1 → Calls Try.prog 26 #[.slice a' (scavB (itS tb s j) tb.length).length c'] w1 fun e w' => ∃ a2 c2, e = .returned (.slice a2 (flatB (scavB (itS tb s j) tb.length)).length c2) ∧ St w (intsP (.slice a2 (flatB (scavB (itS tb s j) tb.length)).length c2) (flatB (scavB (itS tb s j) tb.length)) :: batsP (.slice a' (scavB (itS tb s j) tb.length).length c') (scavB (itS tb s j) tb.length) :: G) w') := Lib.hid fun w1 G a' c' h => all_any w w1 G a' c' _ (flat_small hbo hbl) (by omega) h
          have hls := lenN_scav (tb := tb) ok9 tb.length
          have hle := lenN_le ok9 tb.length
          have q1 : IntKind.i64.wrap ((lenN (itS tb s j) tb.length : Int) - ((flatB (scavB (itS tb s j) tb.length)).length : Int)) = ((lenN (itS tb s (j + 1)) tb.length : Nat) : Int) := by
            have h1 : lenN (itS tb s (j + 1)) tb.length + (flatB (scavB (itS tb s j) tb.length)).length = lenN (itS tb s j) tb.length := hls
            rw [IntWalk.i64_in _ (by omega)]
            omega
          have ES : scavS tb (itS tb s j) = itS tb s (j + 1) := rfl
          rw [ES] at SC
          clear hbl hbo hls hle ES ok9
          generalize scavB (itS tb s j) tb.length = bs at *
          go_wp2_with fail
          refine SC.out.mono ?_
          rintro e w2 ⟨a', c', rfl, g⟩
          go_wp2_with fail
          refine (A.out _ _ _ _ g).mono ?_
          rintro e w3 ⟨a3, c3, rfl, g2⟩
          have H3 : Hid (St w (cacheP c tb bud (itS tb s (j + 1)) :: []) w3) := Lib.hid (g2.pick 3 [2])
          clear g g2
          go_wp2_with fail
          go_roundw
          case rel => exact ⟨j + 1, hlt, by go_num, rfl, H3⟩
          case measure => simp [intOf]; omega
        · have e : j = 10 := by omega
          subst e
          have ok9 := itS_ok T.out OK.out 10
          have hz := itS_ten (tb := tb) OK.out
          rw [lenN_zero hz]
          have BY := Lib.hid (bytes_any w wr [] c tb bud _ T.out ok9 HS.out)
          have OV := Lib.hid fun w9 (g : St w (cacheP c tb bud (itS tb s 10) :: []) w9) => over_any w w9 [] c tb bud _ T.out ok9 g
          rw [bytesN_zero hz, decide_eq_false (show ¬ bud < 0 by have := BUD.out; omega)] at OV
          rw [bytesN_zero hz] at BY
          clear ok9 hz
          go_wp2_with fail
          refine BY.out.mono ?_
          rintro e w2 ⟨rfl, h2⟩
          have H2 := Lib.hid h2
          clear h2
          go_wp2_with fail
          refine (OV.out _ H2.out).mono ?_
          rintro e w3 ⟨rfl, h3⟩
          have H3 := Lib.hid h3
          clear h3
          go_wp2_with fail
          refine (AL.out w3 _ H3.out).mono ?_
          rintro e w1 ⟨rfl, h1⟩
          go_wp2_with fail
          go_ret
          exact ⟨rfl, h1.1⟩
end Go.Proofs.Ytaejojbdkgccpaa

/-
  The law CacheBytes. (Printed by mkL2.py.)
-/
import Derived.Test.YtaejojbdkgccpaaL1
namespace Go.Proofs.Ytaejojbdkgccpaa
open Go.RowKit Go.Maps Go.ChangeMaps

theorem tab_size {w0 w : World} {L : List HP} {tbb toff cap : Nat} {tb : List Cls} (ht : Reads w0 3 (.slice (some ⟨tbb, toff, none⟩) tb.length cap) tb.length (clsC tb)) (hs : St w0 L w) {k : Nat} {x : Cls} (hx : tb[k]? = some x) :
    w.cell? ⟨tbb, toff + k * 3, none⟩ = some (.int .i64 x.size) ∧ w.cell? ⟨tbb, toff + k * 3 + 2, none⟩ = some (.int .i64 x.batch) := by
  obtain ⟨b, off, c, hv, h0, _, h2⟩ := tb_cells (hs.reads0 ht) hx
  cases hv
  exact ⟨h0, h2⟩
theorem bytesN_range {tb : List Cls} (ht : tbOk tb) {s : Nat → CL} (hok : ∀ k, (s k).ok) : ∀ n, 0 ≤ bytesN tb s n ∧ bytesN tb s n ≤ 131072 * (n : Int)
  | 0 => by simp [bytesN]
  | n + 1 => by
    have h1 := bytesN_range ht hok n
    have h2 := mul_range (sizeT_range ht n) (hok n).2.2.2
    show 0 ≤ bytesN tb s n + _ ∧ bytesN tb s n + _ ≤ _
    omega
set_option maxRecDepth 10000 in
set_option maxHeartbeats 4000000 in
theorem bytes_walk (a : Option Addr) (cap : Nat) (tb : List Cls) (bud : Int) (_w1 : (Lit.int .i64 bud).wf = true) (a2 : Option Addr) (cap2 : Nat) (acts : List ActV) (w : World)
    (ht : Reads w 3 (.slice a tb.length cap) tb.length (clsC tb)) (_hn : tb.length ≤ 9223372036854775807) (h : ActsAt w (.slice a2 acts.length cap2) acts) (hn2 : acts.length ≤ 9223372036854775807) :
    Calls Try.prog 9 #[.slice a tb.length cap, .int .i64 bud, .slice a2 acts.length cap2] w fun e w' => e = .returned (.bool true) ∧ Below w.heap.size w w' := by
  have GR := Lib.hid (great_any w a2 cap2 acts h hn2)
  have AL := Lib.hid fun w1 (L : List HP) (h1 : St w L w1) => alive_any w w1 L h1
  cases hg : greatB acts with
  | true =>
    rw [hg] at GR
    clear h ht hg
    go_enter Try.func9, Try.ntmps9
    go_wp2_with fail
    refine GR.out.mono ?_
    rintro e w' ⟨rfl, rfl⟩
    go_wp2_with fail
    refine (AL.out w _ (St.start w)).mono ?_
    rintro e w1 ⟨rfl, h1⟩
    go_wp2_with fail
    go_ret
    exact ⟨rfl, h1.1⟩
  | false =>
  obtain ⟨n60, n300⟩ := acts_ok hg
  rw [hg] at GR
  have MD := Lib.hid (made_any w w [] (St.start w) a cap tb (fun G w' h => h.reads0 ht) bud a2 cap2 acts h n60 n300)
  have HT := Lib.hid ht
  clear h ht hg n300
  go_enter Try.func9, Try.ntmps9
  go_wp2_with fail
  refine GR.out.mono ?_
  rintro e w' ⟨rfl, rfl⟩
  go_wp2_with fail
  refine MD.out.mono ?_
  rintro e w1 (⟨_, rfl, h1⟩ | ⟨hmk, c, rfl, h1⟩)
  · have H1 := Lib.hid h1
    clear h1
    go_wp2_with fail
    refine (AL.out w1 _ H1.out).mono ?_
    rintro e w1 ⟨rfl, h1⟩
    go_wp2_with fail
    go_ret
    exact ⟨rfl, h1.1⟩
  obtain ⟨T, OK⟩ := mk_ok hmk acts
  have T' := Lib.hid T
  clear T
  have T := T'
  clear T'
  have OK' := Lib.hid OK
  clear OK
  have OK := OK'
  clear OK'
  have H1 := Lib.hid h1
  have hN := T.out.2.1
  clear h1 hmk MD GR
  generalize actsS tb newS acts = s at *
  have BR := Lib.hid fun n => bytesN_range T.out OK.out n
  go_wp2_with fail
  go_loopw [8, 9] (fun n i wr => ∃ k : Nat, k ≤ tb.length ∧ i = .int .i64 k ∧ n = .int .i64 (bytesN tb s k) ∧ Hid (St w (cacheP c tb bud s :: []) wr)) (fun _ i _ => tb.length - (intOf i).toNat)
  case atStart => exact ⟨0, Nat.zero_le _, rfl, rfl, H1⟩
  case round =>
    clear H1
    obtain ⟨k, hk, rfl, rfl, HS⟩ := hrel
    by_cases hlt : k < tb.length
    · obtain ⟨x, hx⟩ : ∃ x, tb[k]? = some x := ⟨tb[k], List.getElem?_eq_getElem hlt⟩
      obtain ⟨tbb, toff, tcap, tv, _⟩ := tb_cells (HS.out.reads0 HT.out) hx
      injection tv with e1 _ e2
      subst e1
      clear e2
      have TS : Hid (∀ w9, St w (cacheP c tb bud s :: []) w9 → w9.cell? ⟨tbb, toff + k * 3, none⟩ = some (.int .i64 (sizeT tb k))) := Lib.hid fun w9 g => by rw [← sizeT_of hx]; exact (tab_size HT.out g hx).1
      have O := Lib.hid (objects_in w wr [] c tb bud s k hN (OK.out k) HS.out hlt)
      have LN := Lib.hid fun w9 (g : St w (cacheP c tb bud s :: []) w9) => len_in w w9 [] c tb bud s k hN (OK.out k) g hlt
      have i0 : (0 : Int) ≤ (k : Int) := by omega
      have i1 : (k : Int) < (tb.length : Int) := by omega
      have hb := BR.out k
      have hm := mul_range (sizeT_range T.out k) (OK.out k).2.2.2
      have hne : (((s k).objs.length : Int) != ((s k).objs.length : Int)) = false := by simp
      have q0 : IntKind.i64.wrap (((s k).objs.length : Int) * sizeT tb k) = sizeT tb k * ((s k).objs.length : Int) := by rw [Int.mul_comm]; exact IntWalk.i64_in _ (by omega)
      have q1 : IntKind.i64.wrap (bytesN tb s k + sizeT tb k * ((s k).objs.length : Int)) = bytesN tb s (k + 1) := by
        show _ = bytesN tb s k + _
        exact IntWalk.i64_in _ (by omega)
      clear hx hb hm
      go_wp2_with fail
      refine O.out.mono ?_
      rintro e w2 ⟨a4, c4, rfl, h2⟩
      have H2 := Lib.hid h2.drop
      clear h2
      go_wp2_with fail
      refine (LN.out _ H2.out).mono ?_
      rintro e w3 ⟨rfl, h3⟩
      have H3 := Lib.hid h3
      clear h3
      go_wp2_with fail
      refine wp_region_qst (fun w' => St w (cacheP c tb bud s :: []) w') (by kernel_rfl) (by kernel_rfl) H3.out.drew ?_
      repeat (
        with_reducible refine wpQuiet_step (fun K hK => ?_)
        go_simp
        first
          | (refine hK _ ?_; clear hK K)
          | (apply Exists.intro
             refine ⟨fun w1 h1 => ?_, hK _ ?_⟩
             (first
              | (with_reducible rfl)
              | (go_at_call 22; refine (LN.out _ h1).mono ?_; rintro e w' ⟨rfl, h9⟩; exact ⟨rfl, h9⟩)
              | (have z0 := TS.out _ h1; go_simp; with_reducible rfl))
             clear hK K))
      refine wpQuiet_nil ?_
      intro w2 h2
      go_wp2_with fail
      go_roundw
      case rel => exact ⟨k + 1, hlt, by go_num, rfl, Lib.hid h2⟩
      case measure => simp [intOf]; omega
    · have e : k = tb.length := by omega
      subst e
      have BY := Lib.hid (bytes_any w wr [] c tb bud s T.out OK.out HS.out)
      have OV := Lib.hid fun w9 (g : St w (cacheP c tb bud s :: []) w9) => over_any w w9 [] c tb bud s T.out OK.out g
      generalize bytesN tb s tb.length = n at *
      have hbb : (decide (bud < n) == decide (bud < n)) = true := by simp
      go_wp2_with fail
      refine BY.out.mono ?_
      rintro e w2 ⟨rfl, h2⟩
      have H2 := Lib.hid h2
      clear h2
      go_wp2_with fail
      refine (OV.out _ H2.out).mono ?_
      rintro e w3 ⟨rfl, h3⟩
      have H3 := Lib.hid h3
      clear h3
      go_wp2_with fail
      refine (AL.out w3 _ H3.out).mono ?_
      rintro e w1 ⟨rfl, h1⟩
      go_wp2_with fail
      go_ret
      exact ⟨rfl, h1.1⟩
end Go.Proofs.Ytaejojbdkgccpaa

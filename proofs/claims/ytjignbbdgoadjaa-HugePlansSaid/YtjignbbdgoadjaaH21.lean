/-
  The statement HugePlans: its walk. (Printed by mkH21.py.)
-/
import Derived.Test.YtjignbbdgoadjaaH15
import Derived.Test.YtjignbbdgoadjaaH19
namespace Go.Proofs.Ytjignbbdgoadjaa
open Go.RowKit

/-- truth values of a function, as cells -/
def boolsF (m : Nat) (f : Nat → Bool) : List Value := (List.range m).map fun p => .bool (f p)
theorem boolsF_len (m : Nat) (f : Nat → Bool) : (boolsF m f).length = m := by simp [boolsF]
theorem boolsF_get {m : Nat} {f : Nat → Bool} {p : Nat} (h : p < m) : (boolsF m f)[p]? = some (.bool (f p)) := by simp [boolsF, h]
theorem boolsF_set {m : Nat} {f : Nat → Bool} {p : Nat} (b : Bool) : (boolsF m f).set p (.bool b) = boolsF m (upd f p b) := by
  apply List.ext_getElem?
  intro j
  by_cases hj : j < m
  · rw [boolsF_get hj, List.getElem?_set]
    unfold upd
    by_cases e : p = j
    · subst e; simp [boolsF_len, hj]
    · rw [if_neg e, boolsF_get hj, if_neg (by omega)]
  · rw [List.getElem?_eq_none (by rw [List.length_set, boolsF_len]; omega), List.getElem?_eq_none (by rw [boolsF_len]; omega)]
theorem info4 : (Try.prog.info? 4).map (fun i => (i.zero, i.size, i.bytes)) = some (some (.bool false), 1, 1) := by kernel_rfl
theorem falses_made (m : Nat) : madeCells (Value.bool false).cells (m * 1) = (boolsF m fun _ => false).toArray := by
  apply Array.ext_getElem?
  intro j
  by_cases hj : j < m
  · rw [List.getElem?_toArray (xs := boolsF m fun _ => false), boolsF_get hj]
    simp [madeCells, Value.cells, hj, Nat.mod_one]
  · rw [Array.getElem?_eq_none (by simp [madeCells]; omega), Array.getElem?_eq_none (by simp [boolsF_len]; omega)]
theorem made_bools (w : World) : (Instr.makeSlice 50 (.int .i64 128) (.int .i64 128)).run Try.prog w = .ok (.slice (some ⟨w.heap.size, 0, none⟩) 128 128) (w.alloc (.cells (boolsF 128 fun _ => false).toArray 4)) := by
  obtain ⟨j0, hj, hy0, hy1, hy2⟩ := info_parts info4
  have h := run_makeSlice (P := Try.prog) w 50 4 j0 _ Try.underlying50 hj hy0 .i64 .i64 128 128 (by omega) (by omega) (by rw [hy1]; decide) (by rw [hy2]; omega) (by omega)
  rw [h, hy1, show Int.toNat 128 * 1 = 128 * 1 from rfl, falses_made]
  rfl

theorem planV_all {s : Nat → Int} {N : Nat} {want : Int} (hw : ¬ want < 0) : ¬ ((sumRn (planV s N want) : Int) < want ∧ (sumRn (planV s N want) : Int) ≠ (cnt (16 * N) (fun j => s j == 2) : Nat)) := by
  have e : planV s N want = planL s N want := if_neg hw
  rw [e]
  rintro ⟨h1, h2⟩
  rcases takeW_total (allR s N) want 0 with h | h
  · unfold planL at h1; omega
  · refine h2 ?_
    have h3 : planL s N want = allR s N := h
    rw [h3, ← cnt_covR (M := 16 * N) (allR_apart s N) (fun r hr => by
      obtain ⟨g, hg, hrg⟩ := allR_in hr
      have := runsOf_in hrg
      have := (ordL_mem.1 hg).1
      omega)]
    congr 1
    refine cnt_ext fun q hq => ?_
    rw [Bool.eq_iff_iff, covR_iff, beq_iff_eq]
    constructor
    · rintro ⟨r, hr, a1, a2⟩
      obtain ⟨g, hg, hrg⟩ := allR_in hr
      have := (runsOf_in hrg).2.2.2 (q - r.a) (by omega)
      rwa [show r.a + (q - r.a) = q by omega] at this
    · intro h2
      obtain ⟨r, hr, a1, a2⟩ := runsOf_cov h2
      exact ⟨r, List.mem_flatMap.2 ⟨q / 16, ordL_mem.2 ⟨by omega, ofS_pos h2⟩, hr⟩, a1, a2⟩
theorem planV_last {s : Nat → Int} {N : Nat} {want : Int} (hw : ¬ want < 0) (hne : (planV s N want).length ≠ 0) : (sumRn ((planV s N want).take ((planV s N want).length - 1)) : Int) < want := by
  have e : planV s N want = planL s N want := if_neg hw
  rw [e] at hne ⊢
  have hl : (planL s N want).length - 1 < (planL s N want).length := by omega
  have h1 := List.take_append_drop ((planL s N want).length - 1) (planL s N want)
  rw [List.drop_eq_getElem_cons hl] at h1
  have := takeW_before (allR s N) want 0 _ _ _ h1.symm
  omega
theorem rnCells_take (l : List Rn) (k : Nat) : rnCells (l.take k) = (rnCells l).take (k * 2) := by
  induction l generalizing k with
  | nil => simp [rnCells]
  | cons x l ih =>
    cases k with
    | zero => simp [rnCells]
    | succ k =>
      rw [List.take_succ_cons, show (k + 1) * 2 = k * 2 + 1 + 1 by omega]
      show x.cells ++ rnCells (l.take k) = (x.cells ++ rnCells l).take _
      rw [ih k]
      rfl
theorem RunsAt.take {w : World} {b off cap : Nat} {l : List Rn} (h : RunsAt w (.slice (some ⟨b, off, none⟩) l.length cap) l) {k : Nat} (hk : k ≤ l.length) : RunsAt w (.slice (some ⟨b, off, none⟩) (l.take k).length cap) (l.take k) := by
  have hl : (l.take k).length = k := by rw [List.length_take]; omega
  unfold RunsAt at h ⊢
  rw [hl, rnCells_take]
  refine ⟨by rw [List.length_take, rnCells_len]; omega, ?_⟩
  rcases h.2 with ⟨hv, _⟩ | ⟨b1, off1, sp1, cap1, hv, hn, hsp, hc⟩
  · cases hv
  · cases hv
    exact .inr ⟨b, off, none, cap, rfl, by omega, .inl rfl, fun i x hi => hc i x (by
      rw [List.getElem?_take] at hi
      split at hi
      · exact hi
      · cases hi)⟩
/-- what is told while the k-th run is looked at, j pages of it -/
def toldF (PL : List Rn) (k : Nat) (x : Rn) (j q : Nat) : Bool := covR (PL.take k) q || (decide (x.a ≤ q) && decide (q < x.a + j))
theorem toldF_zero (PL : List Rn) (k : Nat) (x : Rn) : toldF PL k x 0 = covR (PL.take k) := by
  funext q
  unfold toldF
  have : (decide (x.a ≤ q) && decide (q < x.a + 0)) = false := by
    rw [← Bool.not_eq_true]; simp
  rw [this, Bool.or_false]
theorem toldF_succ (PL : List Rn) (k : Nat) (x : Rn) (j : Nat) : upd (toldF PL k x j) (x.a + j) true = toldF PL k x (j + 1) := by
  funext q
  unfold upd toldF
  by_cases h : q = x.a + j
  · rw [if_pos h]
    have : (decide (x.a ≤ q) && decide (q < x.a + (j + 1))) = true := by simp; omega
    rw [this, Bool.or_true]
  · rw [if_neg h]
    congr 1
    rw [Bool.eq_iff_iff]
    simp
    omega
theorem toldF_all {PL : List Rn} {k : Nat} {x : Rn} (h : PL[k]? = some x) : toldF PL k x x.n = covR (PL.take (k + 1)) := by
  funext q
  rw [List.take_add_one, h]
  unfold toldF
  simp [covR, inR]
theorem toldF_not {PL : List Rn} (hp : PL.Pairwise apartR) {k : Nat} {x : Rn} (h : PL[k]? = some x) {j : Nat} (hj : j < x.n) : toldF PL k x j (x.a + j) = false := by
  have hk := (List.getElem?_eq_some_iff.1 h).1
  unfold toldF
  have h1 : covR (PL.take k) (x.a + j) = false := by
    rw [← Bool.not_eq_true, covR_iff]
    rintro ⟨r, hr, h1, h3⟩
    obtain ⟨i, hi, hir⟩ := List.getElem_of_mem hr
    rw [List.length_take] at hi
    have hir' : PL[i]'(by omega) = r := by rw [← hir, List.getElem_take]
    have hx' : PL[k] = x := by rw [List.getElem?_eq_getElem hk] at h; exact Option.some.inj h
    have := List.pairwise_iff_getElem.1 hp i k (by omega) hk (by omega)
    rw [hir', hx'] at this
    unfold apartR at this
    omega
  rw [h1, Bool.false_or, ← Bool.not_eq_true]
  simp

set_option maxRecDepth 10000 in
set_option maxHeartbeats 8000000 in
theorem plans_walk (m : Nat) (hm : m < 256) (a : Option Addr) (cap : Nat) (acts : List ActV) (want : Int) (w : World) (h : ActsAt w (.slice a acts.length cap) acts) (hn : acts.length ≤ 9223372036854775807) :
    Calls Try.prog 9 #[.int .u8 m, .slice a acts.length cap, .int .i64 want] w fun e w' => e = .returned (.bool true) ∧ Below w.heap.size w w' := by
  have H := Lib.hid h
  clear h
  by_cases hg : 40 < acts.length
  · have HG := Lib.hid (decide_eq_true hg)
    clear hg
    go_enter Try.func9, Try.ntmps9
    go_wp2_with fail
    refine (great_any _ a _ cap hn).mono ?_
    rintro e w' ⟨rfl, rfl⟩
    rw [HG.out]
    go_wp2_with fail
    refine (alive_any w _ _ (St.start w)).mono ?_
    rintro e w' ⟨rfl, hs⟩
    go_wp2_with fail
    go_ret
    exact ⟨rfl, hs.below⟩
  have hn60 : acts.length ≤ 60 := by omega
  have HG := Lib.hid (decide_eq_false hg)
  clear hg
  have hN0 : 0 < sizeN m := by unfold sizeN; omega
  have hN8 : sizeN m ≤ 8 := by unfold sizeN; omega
  have hN : sizeN m ≤ 64 := by omega
  go_enter Try.func9, Try.ntmps9
  go_wp2_with fail
  refine (great_any _ a _ cap hn).mono ?_
  rintro e w' ⟨rfl, rfl⟩
  rw [HG.out]
  go_wp2_with fail
  refine (made_any w _ _ (St.start w) m hm a cap acts H.out hn60).mono ?_
  rintro e w1 ⟨c, rfl, h1⟩
  generalize actsF (sizeN m) (fun _ => 0) acts = s at *
  generalize sizeN m = N at *
  go_wp2_with fail
  refine (clone_any w w1 _ c (16 * N) s (by omega) (by omega) h1).mono ?_
  rintro e w2 ⟨c2, rfl, h2⟩
  go_wp2_with fail
  refine (plan_any w w2 _ c N s hN hN0 h2.swap want).mono ?_
  rintro e w3 ⟨a3, p3, rfl, h3⟩
  by_cases hw : want < 0
  · have E1 : planE want = 1 := if_pos hw
    have E2 : planV s N want = [] := if_pos hw
    rw [E1, E2]
    have bw : decide (want < 0) = true := decide_eq_true hw
    clear E1 E2
    go_wp2_with fail
    refine (alive_any w _ _ h3).mono ?_
    rintro e w' ⟨rfl, hs⟩
    go_wp2_with fail
    go_ret
    exact ⟨rfl, hs.below⟩
  have E0 : planE want = 0 := if_neg hw
  rw [E0]
  clear E0
  have bw : decide (want < 0) = false := decide_eq_false hw
  have OK := Lib.hid fun r h => @planV_ok s N want r h
  have AP := Lib.hid (planV_apart s N want)
  have hlen := planV_len s N want
  have hsum := planV_sum_le s N want
  have ALL := Lib.hid (planV_all (s := s) (N := N) hw)
  have LAST := Lib.hid (planV_last (s := s) (N := N) hw)
  generalize planV s N want = PL at *
  have h4 := h3.newArr 4 1 128 (boolsF 128 fun _ => false) (by rw [boolsF_len]) (by decide)
  have hmk := made_bools
  have h5 : St w (HP.arr 4 1 (.slice (some ⟨w3.heap.size, 0, none⟩) 128 128) 128 (boolsF 128 (covR (PL.take 0))) :: runsP (.slice a3 PL.length p3) PL :: trk 61 c (16 * N) s :: trk 61 c2 (16 * N) s :: []) _ := h4
  clear h4 h3 h2 h1
  go_wp2_with fail
  generalize w3.heap.size = tb at *
  clear hmk
  go_loopw [12] (fun i wr => ∃ k : Nat, k ≤ PL.length ∧ i = .int .i64 k ∧ St w (HP.arr 4 1 (.slice (some ⟨tb, 0, none⟩) 128 128) 128 (boolsF 128 (covR (PL.take k))) :: runsP (.slice a3 PL.length p3) PL :: trk 61 c (16 * N) s :: trk 61 c2 (16 * N) s :: []) wr) (fun i _ => PL.length - (intOf i).toNat)
  case atStart => exact ⟨0, Nat.zero_le _, rfl, h5⟩
  case round =>
    clear h5
    obtain ⟨k, hk, rfl, hs1⟩ := hrel
    by_cases hlt : k < PL.length
    · obtain ⟨x, hx⟩ : ∃ x, PL[k]? = some x := ⟨PL[k], List.getElem?_eq_getElem hlt⟩
      obtain ⟨b, off, cp, e1, k0, k1⟩ := (runs_at (hs1.front 1)).cell hx
      injection e1 with e1 e2 e3
      clear e2 e3
      subst e1
      obtain ⟨o1, o2, o3, o4⟩ := OK.out x (List.mem_of_getElem? hx)
      have HX := Lib.hid hx
      have HO4 := Lib.hid o4
      have d1 : decide ((x.n : Int) < 1) = false := decide_eq_false (by omega)
      have d2 : decide ((16 : Int) < (x.n : Int)) = false := decide_eq_false (by omega)
      have ik0 : (0 : Int) ≤ (k : Int) := by omega
      have ik1 : (k : Int) < (PL.length : Int) := by omega
      have hs2 : St w (HP.arr 4 1 (.slice (some ⟨tb, 0, none⟩) 128 128) 128 (boolsF 128 (toldF PL k x 0)) :: runsP (.slice (some ⟨b, off, none⟩) PL.length p3) PL :: trk 61 c (16 * N) s :: trk 61 c2 (16 * N) s :: []) wr := by
        rw [toldF_zero]; exact hs1
      clear hx o4 hs1
      go_wp2_with fail
      clear k0 k1
      go_loopw [13] (fun q' wr => ∃ j : Nat, j ≤ x.n ∧ q' = .int .i64 ((x.a + j : Nat) : Int) ∧ St w (HP.arr 4 1 (.slice (some ⟨tb, 0, none⟩) 128 128) 128 (boolsF 128 (toldF PL k x j)) :: runsP (.slice (some ⟨b, off, none⟩) PL.length p3) PL :: trk 61 c (16 * N) s :: trk 61 c2 (16 * N) s :: []) wr) (fun q' _ => x.a + x.n - (intOf q').toNat)
      case atStart => exact ⟨0, Nat.zero_le _, rfl, hs2⟩
      case round =>
        clear hs2
        obtain ⟨j, hj, rfl, hs1⟩ := hrel
        obtain ⟨b', off', cp', e1, k0, k1⟩ := (runs_at (hs1.front 1)).cell HX.out
        injection e1 with e1 e2 e3
        injection e1 with e1
        injection e1 with e4 e5
        clear e2 e3
        subst e4 e5
        have hwq : IntKind.i64.wrap ((x.a : Int) + (x.n : Int)) = (x.a : Int) + (x.n : Int) := IntWalk.i64_in _ (by omega)
        by_cases hjl : j < x.n
        · have dq : decide (((x.a : Int) + (j : Int)) < (x.a : Int) + (x.n : Int)) = true := decide_eq_true (by omega)
          obtain ⟨tb1, to1, tp1, ht1⟩ := TrAt.of (by omega) (hs1.front 2)
          have H1 := fun q => state_any (wr.drewN q) c tb1 to1 tp1 (16 * N) _ (by omega) (ht1.drewN q) ((x.a + j : Nat) : Int)
          have hst : stateV (16 * N) s ((x.a + j : Nat) : Int) = 2 := by
            unfold stateV
            rw [if_pos (by omega), Int.toNat_natCast]
            exact HO4.out j hjl
          rw [hst] at H1
          have HS1 := Lib.hid H1
          have tc := HP.arr_cell hs1 (boolsF_get (show x.a + j < 128 by omega))
          rw [toldF_not AP.out HX.out hjl, Nat.zero_add] at tc
          obtain ⟨hset, hfz⟩ := HP.arr_set (x.a + j) (.bool true) (by omega) hs1
          rw [boolsF_set, toldF_succ, Nat.zero_add] at hset
          rw [Nat.zero_add] at hfz
          have hset2 := fun q => hset.drewN q
          have li0 : (0 : Int) ≤ (x.a : Int) + (j : Int) := by omega
          have li1 : (x.a : Int) + (j : Int) < 128 := by omega
          clear ht1 H1 hst hs1 hset
          go_wp2_with fail
          go_quiet (fail)
          go_wp2_with fail
          refine (HS1.out nq).mono ?_
          rintro e w' ⟨rfl, rfl⟩
          go_wp2_with fail
          go_roundw
          case rel => exact ⟨j + 1, hjl, by go_num, hset2 nq⟩
          case measure => simp [intOf]; omega
        · have dq : decide (((x.a : Int) + (j : Int)) < (x.a : Int) + (x.n : Int)) = false := decide_eq_false (by omega)
          have e : j = x.n := by omega
          have hs2 := hs1
          rw [e, toldF_all HX.out] at hs2
          have hs3 := fun q => hs2.drewN q
          clear hs1 hs2 e
          go_wp2_with fail
          go_quiet (fail)
          go_wp2_with fail
          go_roundw
          case rel => exact ⟨k + 1, hlt, by go_num, hs3 nq⟩
          case measure => simp [intOf]; omega
    · have e : PL.take k = PL := List.take_of_length_le (by omega)
      rw [e] at hs1
      clear e
      have hkk : decide ((k : Int) < (PL.length : Int)) = false := decide_eq_false (by omega)
      have hs2 := hs1.pick 4 [1, 2, 3]
      obtain ⟨tb1, to1, tp1, ht1⟩ := TrAt.of (by omega) (hs2.front 1)
      obtain ⟨tb2, to2, tp2, ht2⟩ := TrAt.of (by omega) (hs2.front 2)
      have HC := Lib.hid (Count_any wr c tb1 to1 tp1 (16 * N) s (by omega) (by omega) ht1 2)
      have HA := Lib.hid (alike_any wr (16 * N) c tb1 to1 tp1 c2 tb2 to2 tp2 s s (by omega) (by omega) ht1 ht2)
      rw [sameS_self] at HA
      have HT := Lib.hid (total_any wr a3 p3 PL (runs_at hs2) (by omega) (by omega))
      have HS := Lib.hid hs2
      have lc := cnt_le (16 * N) fun j => s j == 2
      have hall := ALL.out
      clear ht1 ht2 hs1
      generalize (cnt (16 * N) fun j => s j == 2) = C at *
      by_cases hz : PL.length = 0
      · have hz' := Lib.hid hz
        have dz : ((PL.length : Int) == 0) = true := by rw [beq_iff_eq]; omega
        clear hs2 hz
        generalize sumRn PL = T at *
        generalize PL.length = L at *
        by_cases hlw : (T : Int) < want
        · have d1 : decide ((T : Int) < want) = true := decide_eq_true hlw
          have d2 : ((T : Int) != (C : Int)) = false := by
            rw [bne_eq_false_iff_eq]
            exact Classical.byContradiction fun hc => hall ⟨hlw, hc⟩
          clear hall
          go_wp2_with fail
          refine HT.out.mono ?_
          rintro e w' ⟨rfl, rfl⟩
          go_wp2_with fail
          refine HT.out.mono ?_
          rintro e w' ⟨rfl, rfl⟩
          go_wp2_with fail
          refine HC.out.mono ?_
          rintro e w' ⟨rfl, rfl⟩
          go_wp2_with fail
          refine HA.out.mono ?_
          rintro e w' ⟨rfl, rfl⟩
          go_wp2_with fail
          refine (alive_any w _ _ HS.out).mono ?_
          rintro e w' ⟨rfl, hs⟩
          go_wp2_with fail
          go_ret
          exact ⟨rfl, hs.below⟩
        · have d1 : decide ((T : Int) < want) = false := decide_eq_false hlw
          clear hall
          go_wp2_with fail
          refine HT.out.mono ?_
          rintro e w' ⟨rfl, rfl⟩
          go_wp2_with fail
          refine HA.out.mono ?_
          rintro e w' ⟨rfl, rfl⟩
          go_wp2_with fail
          refine (alive_any w _ _ HS.out).mono ?_
          rintro e w' ⟨rfl, hs⟩
          go_wp2_with fail
          go_ret
          exact ⟨rfl, hs.below⟩
      · have dz : ((PL.length : Int) == 0) = false := by rw [beq_eq_false_iff_ne]; omega
        rcases HP.arr_form hs2 with ⟨_, h⟩ | ⟨b, off, cap', hv, hcap⟩
        · omega
        cases hv
        have hL : (PL.take (PL.length - 1)).length = PL.length - 1 := by rw [List.length_take]; omega
        have hsumL := sumRn_take_le PL (PL.length - 1)
        have HL := Lib.hid (total_any wr (some ⟨b, off, none⟩) p3 (PL.take (PL.length - 1)) ((runs_at hs2).take (by omega)) (by omega) (by omega))
        rw [hL] at HL
        have dl : decide (((sumRn (PL.take (PL.length - 1)) : Nat) : Int) < want) = true := decide_eq_true (LAST.out hz)
        have l1 : (0 : Int) ≤ (PL.length : Int) - 1 := by omega
        have l2 : (PL.length : Int) - 1 ≤ (p3 : Int) := by omega
        have l3 : (PL.length : Int) - 1 = ((PL.length - 1 : Nat) : Int) := by omega
        have L3 := Lib.hid l3
        clear hs2 hz hL l3
        generalize sumRn (PL.take (PL.length - 1)) = TL at *
        generalize sumRn PL = T at *
        by_cases hlw : (T : Int) < want
        · have d1 : decide ((T : Int) < want) = true := decide_eq_true hlw
          have d2 : ((T : Int) != (C : Int)) = false := by
            rw [bne_eq_false_iff_eq]
            exact Classical.byContradiction fun hc => hall ⟨hlw, hc⟩
          clear hall
          go_wp2_with fail
          refine HT.out.mono ?_
          rintro e w' ⟨rfl, rfl⟩
          go_wp2_with fail
          refine HT.out.mono ?_
          rintro e w' ⟨rfl, rfl⟩
          go_wp2_with fail
          refine HC.out.mono ?_
          rintro e w' ⟨rfl, rfl⟩
          go_wp2_with fail
          refine HL.out.mono ?_
          rintro e w' ⟨rfl, rfl⟩
          go_wp2_with fail
          refine HA.out.mono ?_
          rintro e w' ⟨rfl, rfl⟩
          go_wp2_with fail
          refine (alive_any w _ _ HS.out).mono ?_
          rintro e w' ⟨rfl, hs⟩
          go_wp2_with fail
          go_ret
          exact ⟨rfl, hs.below⟩
        · have d1 : decide ((T : Int) < want) = false := decide_eq_false hlw
          clear hall
          go_wp2_with fail
          refine HT.out.mono ?_
          rintro e w' ⟨rfl, rfl⟩
          go_wp2_with fail
          refine HL.out.mono ?_
          rintro e w' ⟨rfl, rfl⟩
          go_wp2_with fail
          refine HA.out.mono ?_
          rintro e w' ⟨rfl, rfl⟩
          go_wp2_with fail
          refine (alive_any w _ _ HS.out).mono ?_
          rintro e w' ⟨rfl, hs⟩
          go_wp2_with fail
          go_ret
          exact ⟨rfl, hs.below⟩
theorem plans_row (m : Int) (hw : (Lit.int .u8 m).wf = true) (a : Option Addr) (cap : Nat) (acts : List ActV) (want : Int) (_ : (Lit.int .i64 want).wf = true) (w : World) (h : ActsAt w (.slice a acts.length cap) acts) (hn : acts.length ≤ 9223372036854775807) :
    Calls Try.prog 9 #[.int .u8 m, .slice a acts.length cap, .int .i64 want] w fun e w' => e = .returned (.bool true) ∧ Below w.heap.size w w' := by
  obtain ⟨k, hk, rfl⟩ := u8_nat hw
  exact plans_walk k hk a cap acts want w h hn
end Go.Proofs.Ytjignbbdgoadjaa

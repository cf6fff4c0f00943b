/-
  The reference's Clone. (Printed by mkC43.py.)
-/
import Derived.Test.YtaejojbdkgccpaaC42
namespace Go.Proofs.Ytaejojbdkgccpaa
open Go.RowKit Go.Maps Go.ChangeMaps

/-- a clone that is being made: the first i lists are there -/
def cloneH (c N : Nat) (bud : Int) (D : RD) (vL : Value) : HP := HP.blk c #[.slice D.ta N D.tc, .int .i64 bud, vL, D.M N, D.W N] 83
def cloneP (c : Nat) (tb : List Cls) (bud : Int) (s : Nat → CL) (i : Nat) : HP := HP.ex fun D : RD => HP.ex fun vL : Value =>
  cloneH c tb.length bud D vL * (HP.arr 43 3 (.slice D.ta tb.length D.tc) tb.length (clsC tb) * (HP.arr 28 1 vL i (slcL i (D.v s)) *
    (HP.arr 3 1 (D.M tb.length) tb.length (numsF tb.length (limF s)) * (HP.arr 3 1 (D.W tb.length) tb.length (numsF tb.length (lowF s)) * stars i fun k => intsP (D.v s k) (s k).objs))))
theorem clone_done {w0 w : World} {F : List HP} {c : Nat} {tb : List Cls} {bud : Int} {s : Nat → CL} (hN : 1 ≤ tb.length) (h : St w0 (cloneP c tb bud s tb.length :: F) w) : St w0 (refP c tb bud s :: F) w := by
  obtain ⟨D, h⟩ := St.ex.1 h
  obtain ⟨vL, h⟩ := St.ex.1 h
  have h2 := h.perm (L' := HP.arr 28 1 vL tb.length (slcL tb.length (D.v s)) :: (cloneH c tb.length bud D vL :: HP.arr 43 3 (.slice D.ta tb.length D.tc) tb.length (clsC tb) :: HP.arr 3 1 (D.M tb.length) tb.length (numsF tb.length (limF s)) :: HP.arr 3 1 (D.W tb.length) tb.length (numsF tb.length (lowF s)) :: (stars tb.length fun k => intsP (D.v s k) (s k).objs) :: F)) (by simp only [HP.big]; ac_rfl)
  rcases HP.arr_form h2 with ⟨_, h0⟩ | ⟨b, o, cap, rfl, _⟩
  · omega
  · refine ref_shut (D := { D with lb := b, lo := o, lc := cap }) (h2.perm ?_)
    simp only [refL, rheadP, cloneH, HP.big, List.cons_append, List.nil_append, RD.L, RD.M, RD.W]
    show _ = HP.blk c _ 83 * _
    have e : ∀ k, RD.v { D with lb := b, lo := o, lc := cap } s k = D.v s k := fun k => rfl
    have e2 : (RD.v { D with lb := b, lo := o, lc := cap } s) = D.v s := funext e
    simp only [e2]
    ac_rfl
theorem slcL_snoc (n : Nat) (v : Nat → Value) (y : Value) : slcL n v ++ [y] = slcL (n + 1) (upd v n y) := by
  unfold slcL
  rw [List.range_succ, List.map_append]
  congr 1
  · exact List.map_congr_left fun k hk => by rw [upd_ne]; have := List.mem_range.1 hk; omega
  · simp [upd]
/-- one list more -/
theorem clone_add {w0 w : World} {F : List HP} {c i : Nat} {tb : List Cls} {bud : Int} {s : Nat → CL} {D : RD} {vL vN y : Value} {a : Option Addr} {p : Nat} (hy : y = .slice a (s i).objs.length p)
    (h : St w0 (HP.arr 28 1 vN (i + 1) (slcL i (D.v s) ++ [y]) :: intsP y (s i).objs :: cloneH c tb.length bud D vL :: HP.arr 43 3 (.slice D.ta tb.length D.tc) tb.length (clsC tb) ::
      HP.arr 3 1 (D.M tb.length) tb.length (numsF tb.length (limF s)) :: HP.arr 3 1 (D.W tb.length) tb.length (numsF tb.length (lowF s)) :: (stars i fun k => intsP (D.v s k) (s k).objs) :: F) w) :
    St w0 (cloneP c tb bud s (i + 1) :: F) (w.setCell ⟨c, 2, none⟩ vN) := by
  subst hy
  have h2 : St w0 (HP.blk c #[.slice D.ta tb.length D.tc, .int .i64 bud, vN, D.M tb.length, D.W tb.length] 83 :: _) _ := (St.front h 2).set 2 vN
  have e1 : (fun k => (D.put i a p).v s k) = upd (D.v s) i (.slice a (s i).objs.length p) := by
    funext k
    unfold RD.v RD.put upd
    by_cases hk : k = i
    · subst hk; simp
    · simp [hk]
  refine St.ex.2 ⟨D.put i a p, St.ex.2 ⟨vN, h2.perm ?_⟩⟩
  have e2 : (stars (i + 1) fun k => intsP ((D.put i a p).v s k) (s k).objs) = (stars i fun k => intsP (D.v s k) (s k).objs) * intsP (.slice a (s i).objs.length p) (s i).objs := by
    show stars i _ * _ = _
    congr 1
    · refine stars_ext fun k hk => ?_
      have := congrFun e1 k
      rw [this, upd_ne (by omega)]
    · have := congrFun e1 i
      show intsP ((D.put i a p).v s i) (s i).objs = _
      rw [this, upd_at]
  have e3 : slcL (i + 1) ((D.put i a p).v s) = slcL i (D.v s) ++ [.slice a (s i).objs.length p] := by rw [slcL_snoc]; exact congrArg _ e1
  simp only [HP.big, cloneH, e2, e3, List.eraseIdx_cons_succ, List.eraseIdx_cons_zero]
  show _ = (HP.blk c #[.slice D.ta tb.length D.tc, .int .i64 bud, vN, D.M tb.length, D.W tb.length] 83 * _) * _
  simp only [show (D.put i a p).ta = D.ta from rfl, show (D.put i a p).tc = D.tc from rfl, show (D.put i a p).M tb.length = D.M tb.length from rfl, show (D.put i a p).W tb.length = D.W tb.length from rfl]
  ac_rfl

set_option maxRecDepth 10000 in
set_option maxHeartbeats 4000000 in
theorem rclone_in {w0 w : World} {F : List HP} {c : Nat} {tb : List Cls} {bud : Int} {s : Nat → CL} (ht : tbOk tb) (hok : ∀ k, (s k).ok) (h : St w0 (refP c tb bud s :: F) w) :
    Calls Try.prog 34 #[.pointer (some ⟨c, 0, none⟩)] w fun e w' => ∃ b, e = .returned (.pointer (some ⟨b, 0, none⟩)) ∧ St w0 (refP b tb bud s :: refP c tb bud s :: F) w' := by
  have M := Lib.hid (rmade_in ht.1 h)
  have hN := ht.2.1
  obtain ⟨D0, g⟩ := ref_open h
  have H1 := Lib.hid g
  have HT := Lib.hid ht
  have HOK := Lib.hid hok
  obtain ⟨i0, hi, hz0, hz1, hz2⟩ := info_parts info43
  have HI := Lib.hid hi
  have Z0 := Lib.hid hz0
  have Z1 := Lib.hid hz1
  have Z2 := Lib.hid hz2
  obtain ⟨i3, hi3, hx0, hx1, hx2⟩ := info_parts info3
  have HI3 := Lib.hid hi3
  have X0 := Lib.hid hx0
  have X1 := Lib.hid hx1
  have X2 := Lib.hid hx2
  obtain ⟨i2, hi2, hy0, hy1, hy2⟩ := info_parts info28
  have HI2 := Lib.hid hi2
  have Y0 := Lib.hid hy0
  have Y1 := Lib.hid hy1
  have Y2 := Lib.hid hy2
  clear h g ht hok hi hz0 hz1 hz2 hi2 hy0 hy1 hy2 hi3 hx0 hx1 hx2
  go_enter Try.func34, Try.ntmps34
  go_wp2_with fail
  refine M.out.mono ?_
  rintro e w' ⟨rfl, rfl⟩
  go_wp2_with fail
  clear M
  refine wp_region_par (w0 := w0) 0 24 [23] [] (refL c tb bud s D0 ++ F) [(0, []), (5, [0]), (10, []), (15, [10]), (16, []), (21, [16]), (23, [5, 15, 21])]
    (fun i v => if i = 0 ∨ i = 10 ∨ i = 16 then ∃ a, v = .slice (some a) 0 0 else if i = 5 then ∃ a' c', v = .slice a' tb.length c' else if i = 23 then ∃ b, v = .pointer (some ⟨b, 0, none⟩) else ∃ b o c', v = .slice (some ⟨b, o, none⟩) tb.length c')
    (fun i v => if i = 0 then HP.arr 43 3 v 0 [] else if i = 10 ∨ i = 16 then HP.arr 3 1 v 0 [] else if i = 5 then HP.arr 43 3 v tb.length (clsC tb) else if i = 15 then HP.arr 3 1 v tb.length (numsF tb.length (limF s)) else if i = 23 then (HP.ex fun b : Nat => HP.pur (v = .pointer (some ⟨b, 0, none⟩)) * cloneP b tb bud s 0) else HP.arr 3 1 v tb.length (numsF tb.length (lowF s))) (by kernel_rfl) (by kernel_rfl) rfl (by kernel_rfl) (by simpa using H1.out) ?_
  simp only [List.take_succ_cons, List.take_zero, List.drop_succ_cons, List.drop_zero]
  refine wpPar_eff (c := []) (by kernel_rfl) ⟨.slice (some ⟨0, 0, none⟩) 0 0, (by simp)⟩ (fun G w1 h1 => ?_) (fun v hv K hK => ?_)
  · simp only [List.map_nil, List.nil_append] at h1
    go_simp
    simpa using h1.newArr 43 3 0 [] rfl (by decide)
  simp at hv
  obtain ⟨a0, rfl⟩ := hv
  refine hK _ ?_; clear hK K
  iterate 4
    with_reducible refine wpPar_pure (by kernel_rfl) (fun K hK => ?_)
    go_simp
    apply Exists.intro
    refine ⟨fun G w1 h1 => ?_, hK _ ?_⟩
    (first
      | (with_reducible rfl)
      | (obtain ⟨c0, c1, c2, c3, c4⟩ := ref_head h1; go_simp; done)
      | (obtain ⟨c0, c1, c2, c3, c4⟩ := ref_head h1; go_simp; with_reducible rfl))
    clear hK K
  refine wpPar_eff (c := [0]) (by kernel_rfl) ⟨.slice none tb.length 0, (show ∃ a' c', (Value.slice none tb.length 0) = .slice a' tb.length c' from ⟨_, _, rfl⟩)⟩ (fun G w1 h1 => ?_) (fun v hv K hK => ?_)
  · simp [tokA, upd] at h1
    have R1 := HP.arr_reads (h1.drop.front 1 (by simp [refL]))
    refine eff_append_st _ _ 22 rfl 43 i0 _ 3 24 Try.underlying22 HI.out Z0.out Z1.out Z2.out rfl _ _ rfl rfl 0 [] h1 tb.length (clsC tb) R1 (clsC_one tb) (by unfold maxLen; omega) (by omega) ?_
    intro v' w' hs' _
    simp only [Nat.zero_add, List.nil_append] at hs'
    obtain ⟨a7, p7, rfl⟩ := (HP.arr_reads hs').form
    refine ⟨⟨a7, p7, rfl⟩, ?_⟩
    simpa using hs'
  simp at hv
  obtain ⟨a5, p5, rfl⟩ := hv
  refine hK _ ?_; clear hK K
  iterate 4
    with_reducible refine wpPar_pure (by kernel_rfl) (fun K hK => ?_)
    go_simp
    apply Exists.intro
    refine ⟨fun G w1 h1 => ?_, hK _ ?_⟩
    (first
      | (with_reducible rfl)
      | (obtain ⟨c0, c1, c2, c3, c4⟩ := ref_head h1; go_simp; done)
      | (obtain ⟨c0, c1, c2, c3, c4⟩ := ref_head h1; go_simp; with_reducible rfl))
    clear hK K
  refine wpPar_eff (c := []) (by kernel_rfl) ⟨.slice (some ⟨0, 0, none⟩) 0 0, (by simp)⟩ (fun G w1 h1 => ?_) (fun v hv K hK => ?_)
  · simp only [List.map_nil, List.nil_append] at h1
    go_simp
    simpa using h1.newArr 3 1 0 [] rfl (by decide)
  simp at hv
  obtain ⟨a10, rfl⟩ := hv
  refine hK _ ?_; clear hK K
  iterate 4
    with_reducible refine wpPar_pure (by kernel_rfl) (fun K hK => ?_)
    go_simp
    apply Exists.intro
    refine ⟨fun G w1 h1 => ?_, hK _ ?_⟩
    (first
      | (with_reducible rfl)
      | (obtain ⟨c0, c1, c2, c3, c4⟩ := ref_head h1; go_simp; done)
      | (obtain ⟨c0, c1, c2, c3, c4⟩ := ref_head h1; go_simp; with_reducible rfl))
    clear hK K
  refine wpPar_eff (c := [10]) (by kernel_rfl) ⟨.slice (some ⟨0, 0, none⟩) tb.length 0, (by simp)⟩ (fun G w1 h1 => ?_) (fun v hv K hK => ?_)
  · simp [tokA, upd] at h1
    have R1 := HP.arr_reads (h1.drop.front 3 (by simp [refL]))
    refine eff_append_st _ _ 28 rfl 3 i3 _ 1 8 Try.underlying28 HI3.out X0.out X1.out X2.out rfl _ _ rfl rfl 0 [] h1 tb.length (numsF tb.length (limF s)) R1 (by intro u hu; unfold numsF at hu; obtain ⟨q, _, rfl⟩ := List.mem_map.1 hu; rfl) (by unfold maxLen; omega) (by omega) ?_
    intro v' w' hs' _
    simp only [Nat.zero_add, List.nil_append] at hs'
    have := HT.out.1
    rcases HP.arr_form hs' with ⟨_, h0⟩ | ⟨b7, o7, p7, rfl, _⟩
    · omega
    refine ⟨⟨b7, o7, p7, rfl⟩, ?_⟩
    simpa using hs'
  simp at hv
  obtain ⟨b15, o15, p15, rfl⟩ := hv
  refine hK _ ?_; clear hK K
  refine wpPar_eff (c := []) (by kernel_rfl) ⟨.slice (some ⟨0, 0, none⟩) 0 0, (by simp)⟩ (fun G w1 h1 => ?_) (fun v hv K hK => ?_)
  · simp only [List.map_nil, List.nil_append] at h1
    go_simp
    simpa using h1.newArr 3 1 0 [] rfl (by decide)
  simp at hv
  obtain ⟨a16, rfl⟩ := hv
  refine hK _ ?_; clear hK K
  iterate 4
    with_reducible refine wpPar_pure (by kernel_rfl) (fun K hK => ?_)
    go_simp
    apply Exists.intro
    refine ⟨fun G w1 h1 => ?_, hK _ ?_⟩
    (first
      | (with_reducible rfl)
      | (obtain ⟨c0, c1, c2, c3, c4⟩ := ref_head h1; go_simp; done)
      | (obtain ⟨c0, c1, c2, c3, c4⟩ := ref_head h1; go_simp; with_reducible rfl))
    clear hK K
  refine wpPar_eff (c := [16]) (by kernel_rfl) ⟨.slice (some ⟨0, 0, none⟩) tb.length 0, (by simp)⟩ (fun G w1 h1 => ?_) (fun v hv K hK => ?_)
  · simp [tokA, upd] at h1
    have R1 := HP.arr_reads (h1.drop.front 4 (by simp [refL]))
    refine eff_append_st _ _ 28 rfl 3 i3 _ 1 8 Try.underlying28 HI3.out X0.out X1.out X2.out rfl _ _ rfl rfl 0 [] h1 tb.length (numsF tb.length (lowF s)) R1 (by intro u hu; unfold numsF at hu; obtain ⟨q, _, rfl⟩ := List.mem_map.1 hu; rfl) (by unfold maxLen; omega) (by omega) ?_
    intro v' w' hs' _
    simp only [Nat.zero_add, List.nil_append] at hs'
    have := HT.out.1
    rcases HP.arr_form hs' with ⟨_, h0⟩ | ⟨b7, o7, p7, rfl, _⟩
    · omega
    refine ⟨⟨b7, o7, p7, rfl⟩, ?_⟩
    simpa using hs'
  simp at hv
  obtain ⟨b21, o21, p21, rfl⟩ := hv
  refine hK _ ?_; clear hK K
  iterate 1
    with_reducible refine wpPar_pure (by kernel_rfl) (fun K hK => ?_)
    go_simp
    apply Exists.intro
    refine ⟨fun G w1 h1 => ?_, hK _ ?_⟩
    (first
      | (with_reducible rfl))
    clear hK K
  refine wpPar_eff (c := [5, 15, 21]) (by kernel_rfl) ⟨.pointer (some ⟨0, 0, none⟩), (by simp)⟩ (fun G w1 h1 => ?_) (fun v hv K hK => ?_)
  · simp [tokA, upd] at h1
    go_simp
    have h2 := h1.allocRow #[.slice a5 tb.length p5, .int .i64 bud, .slice none 0 0, .slice (some ⟨b15, o15, none⟩) tb.length p15, .slice (some ⟨b21, o21, none⟩) tb.length p21] 83
    refine St.ex.2 ⟨w1.heap.size, St.two.2 (St.pur.2 ⟨rfl, ?_⟩)⟩
    refine St.ex.2 ⟨⟨a5, p5, 0, 0, 0, b15, o15, p15, b21, o21, p21, fun _ => none, fun _ => 0⟩, St.ex.2 ⟨.slice none 0 0, ?_⟩⟩
    refine (h2.arr_nil 28 1).perm ?_
    simp only [HP.big, cloneH, RD.M, RD.W, stars, HP.sep_emp]
    show HP.arr 28 1 (.slice none 0 0) 0 [] * _ = (_ * (_ * (HP.arr 28 1 (.slice none 0 0) 0 [] * _))) * _
    ac_rfl
  simp at hv
  obtain ⟨b23, rfl⟩ := hv
  refine hK _ ?_; clear hK K
  refine wpPar_nil ?_
  intro w5 h5
  simp [tokA, upd] at h5
  obtain ⟨b, h5⟩ := St.ex.1 h5
  obtain ⟨eb, h5⟩ := St.pur.1 (St.two.1 h5)
  have eb : b23 = b := by simpa using eb
  subst eb
  have H5 := Lib.hid h5
  clear h5 H1
  go_wp2_with fail
  go_loopw [4] (fun i wr => ∃ k : Nat, k ≤ tb.length ∧ i = .int .i64 k ∧ Hid (St w0 (cloneP b23 tb bud s k :: (refL c tb bud s D0 ++ F)) wr)) (fun i _ => tb.length - (intOf i).toNat)
  case atStart => exact ⟨0, Nat.zero_le _, rfl, H5⟩
  case round =>
    clear H5
    obtain ⟨k, hk, rfl, HS⟩ := hrel
    obtain ⟨D, h6⟩ := St.ex.1 HS.out
    obtain ⟨vL, h6⟩ := St.ex.1 h6
    have h7 := h6.perm (L' := HP.arr 28 1 vL k (slcL k (D.v s)) :: (refL c tb bud s D0 ++ (cloneH b23 tb.length bud D vL :: HP.arr 43 3 (.slice D.ta tb.length D.tc) tb.length (clsC tb) ::
        HP.arr 3 1 (D.M tb.length) tb.length (numsF tb.length (limF s)) :: HP.arr 3 1 (D.W tb.length) tb.length (numsF tb.length (lowF s)) :: (stars k fun k => intsP (D.v s k) (s k).objs) :: F))) (by simp only [HP.big, HP.big_append]; ac_rfl)
    obtain ⟨aL, cL, rfl⟩ := (HP.arr_reads h7).form
    obtain ⟨c0, c1, c2, c3, c4⟩ := ref_head h7.drop
    have H7 := Lib.hid h7
    clear h6 h7
    by_cases hlt : k < tb.length
    · have i0' : (0 : Int) ≤ (k : Int) := by omega
      have i1' : (k : Int) < (tb.length : Int) := by omega
      have dk : decide ((k : Int) < (tb.length : Int)) = true := decide_eq_true (by omega)
      have dk' : decide (k < tb.length) = true := decide_eq_true hlt
      have qk : IntKind.i64.wrap ((k : Int) + 1) = ((k + 1 : Nat) : Int) := by rw [IntWalk.i64_in _ (by omega)]; rfl
      have hl := (HOK.out k).2.2.2
      have HALL : Hid (∀ (G : List HP) w', St w0 (refL c tb bud s D0 ++ (cloneH b23 tb.length bud D (.slice aL k cL) :: G)) w' → w'.cell? ⟨c, 2, none⟩ = some (.slice (some ⟨D0.lb, D0.lo, none⟩) tb.length D0.lc) ∧ w'.cell? ⟨D0.lb, D0.lo + k, none⟩ = some (.slice (D0.va k) (s k).objs.length (D0.vc k)) ∧ w'.cell? ⟨b23, 2, none⟩ = some (.slice aL k cL)) := Lib.hid fun G w' h' => by
        have h8 : St w0 (cloneH b23 tb.length bud D (.slice aL k cL) :: _) w' := h'.front 6 (by simp [refL])
        exact ⟨(ref_head h').2.2.1, (ref_at h' hlt).1, St.cell (b := b23) (c := #[.slice D.ta tb.length D.tc, .int .i64 bud, .slice aL k cL, D.M tb.length, D.W tb.length]) h8 rfl⟩
      go_wp2_with fail
      clear c0 c1 c2 c3 c4
      refine wp_region_par (w0 := w0) 1 16 [16] [HP.arr 28 1 (.slice aL k cL) k (slcL k (D.v s))] (refL c tb bud s D0 ++ (cloneH b23 tb.length bud D (.slice aL k cL) :: HP.arr 43 3 (.slice D.ta tb.length D.tc) tb.length (clsC tb) :: HP.arr 3 1 (D.M tb.length) tb.length (numsF tb.length (limF s)) :: HP.arr 3 1 (D.W tb.length) tb.length (numsF tb.length (lowF s)) :: (stars k fun k => intsP (D.v s k) (s k).objs) :: F)) [(5, []), (13, [6]), (14, [14]), (15, [0, 15])]
        (fun i v => if i = 5 then ∃ a, v = .slice (some a) 0 0 else if i = 13 then ∃ a' c', v = .slice a' (s k).objs.length c' else if i = 14 then ∃ a, v = .slice (some a) 1 1 else ∃ a' c', v = .slice a' (k + 1) c')
        (fun i v => if i = 5 then HP.arr 3 1 v 0 [] else if i = 13 then intsP v (s k).objs else if i = 14 then (HP.ex fun y : Option Addr × Nat => HP.arr 28 1 v 1 [.slice y.1 (s k).objs.length y.2] * intsP (.slice y.1 (s k).objs.length y.2) (s k).objs) else (HP.ex fun y : Option Addr × Nat => HP.arr 28 1 v (k + 1) (slcL k (D.v s) ++ [.slice y.1 (s k).objs.length y.2]) * intsP (.slice y.1 (s k).objs.length y.2) (s k).objs)) (by kernel_rfl) (by kernel_rfl) rfl (by kernel_rfl) (by simpa using H7.out) ?_
      simp only [List.take_succ_cons, List.take_zero, List.drop_succ_cons, List.drop_zero]
      iterate 5
        with_reducible refine wpPar_pure (by kernel_rfl) (fun K hK => ?_)
        go_simp
        apply Exists.intro
        refine ⟨fun G w1 h1 => ?_, hK _ ?_⟩
        (first
          | (with_reducible rfl)
          | (obtain ⟨q1, q2, q3⟩ := HALL.out _ w1 h1; go_simp; done)
          | (obtain ⟨q1, q2, q3⟩ := HALL.out _ w1 h1; go_simp; with_reducible rfl))
        clear hK K
      refine wpPar_eff (c := []) (by kernel_rfl) ⟨.slice (some ⟨0, 0, none⟩) 0 0, (by simp)⟩ (fun G w1 h1 => ?_) (fun v hv K hK => ?_)
      · simp only [List.map_nil, List.nil_append] at h1
        go_simp
        simpa using h1.newArr 3 1 0 [] rfl (by decide)
      simp at hv
      obtain ⟨a5x, rfl⟩ := hv
      refine hK _ ?_; clear hK K
      iterate 7
        with_reducible refine wpPar_pure (by kernel_rfl) (fun K hK => ?_)
        go_simp
        apply Exists.intro
        refine ⟨fun G w1 h1 => ?_, hK _ ?_⟩
        (first
          | (with_reducible rfl)
          | (obtain ⟨q1, q2, q3⟩ := HALL.out _ w1 h1; go_simp; done)
          | (obtain ⟨q1, q2, q3⟩ := HALL.out _ w1 h1; go_simp; with_reducible rfl))
        clear hK K
      refine wpPar_eff (c := [6]) (by kernel_rfl) ⟨.slice none (s k).objs.length 0, (by simp)⟩ (fun G w1 h1 => ?_) (fun v hv K hK => ?_)
      · simp [tokA, upd] at h1
        have R1 := ref_list h1.drop hlt
        refine eff_append_st _ _ 28 rfl 3 i3 _ 1 8 Try.underlying28 HI3.out X0.out X1.out X2.out rfl _ _ rfl rfl 0 [] h1 (s k).objs.length (intsC (s k).objs) R1 (intsC_one _) (by unfold maxLen; omega) (by omega) ?_
        intro v' w' hs' _
        simp only [Nat.zero_add, List.nil_append] at hs'
        obtain ⟨a7, p7, rfl⟩ := (HP.arr_reads hs').form
        refine ⟨⟨a7, p7, rfl⟩, ?_⟩
        simpa [intsP] using hs'
      simp at hv
      obtain ⟨a13, p13, rfl⟩ := hv
      refine hK _ ?_; clear hK K
      refine wpPar_eff (c := [14]) (by kernel_rfl) ⟨.slice (some ⟨0, 0, none⟩) 1 1, (by simp)⟩ (fun G w1 h1 => ?_) (fun v hv K hK => ?_)
      · simp [tokA, upd] at h1
        go_simp
        have h2 := h1.newArr 28 1 1 [.slice a13 (s k).objs.length p13] rfl (by decide)
        exact St.ex.2 ⟨(a13, p13), St.two.2 (by simpa using h2)⟩
      simp at hv
      obtain ⟨a14, rfl⟩ := hv
      refine hK _ ?_; clear hK K
      refine wpPar_eff (c := [0, 15]) (by kernel_rfl) ⟨.slice none (k + 1) 0, (by simp)⟩ (fun G w1 h1 => ?_) (fun v hv K hK => ?_)
      · simp [tokA, upd] at h1
        obtain ⟨y, h2⟩ := St.ex.1 h1.swap
        have h3 := (St.two.1 h2)
        have h4 := h3.rot
        have R1 := HP.arr_reads h4.drop
        refine eff_append_st _ _ 81 rfl 28 i2 _ 1 24 Try.underlying81 HI2.out Y0.out Y1.out Y2.out rfl _ _ rfl rfl k (slcL k (D.v s)) h4 1 [.slice y.1 (s k).objs.length y.2] R1 (by intro u hu; simp at hu; subst hu; rfl) (by unfold maxLen; omega) (by omega) ?_
        intro v' w' hs' _
        obtain ⟨a7, p7, rfl⟩ := (HP.arr_reads hs').form
        refine ⟨⟨a7, p7, rfl⟩, ?_⟩
        have h5 := hs'.swap.drop
        simp
        exact St.ex.2 ⟨y, St.two.2 (h5.perm (by simp only [HP.big, HP.big_append] <;> ac_rfl))⟩
      simp at hv
      obtain ⟨a15, p15, rfl⟩ := hv
      refine hK _ ?_; clear hK K
      refine wpPar_nil ?_
      intro w9 h9
      simp [tokA, upd] at h9
      obtain ⟨y, h9⟩ := St.ex.1 h9
      have h10 := (St.two.1 h9).perm (L' := HP.arr 28 1 (.slice a15 (k + 1) p15) (k + 1) (slcL k (D.v s) ++ [.slice y.1 (s k).objs.length y.2]) :: intsP (.slice y.1 (s k).objs.length y.2) (s k).objs :: cloneH b23 tb.length bud D (.slice aL k cL) :: HP.arr 43 3 (.slice D.ta tb.length D.tc) tb.length (clsC tb) :: HP.arr 3 1 (D.M tb.length) tb.length (numsF tb.length (limF s)) :: HP.arr 3 1 (D.W tb.length) tb.length (numsF tb.length (lowF s)) :: (stars k fun k => intsP (D.v s k) (s k).objs) :: (refL c tb bud s D0 ++ F)) (by simp only [HP.big, HP.big_append]; ac_rfl)
      have h11 : St w0 (HP.blk b23 #[.slice D.ta tb.length D.tc, .int .i64 bud, .slice aL k cL, D.M tb.length, D.W tb.length] 83 :: _) w9 := St.front h10 2
      have q3 : w9.cell? ⟨b23, 2, none⟩ = some (.slice aL k cL) := h11.cell rfl
      have fz := h11.frozen 2
      have G9 := Lib.hid (clone_add rfl h10)
      clear h9 h10 h11 HALL H7 HS
      go_wp2_with fail
      go_roundw
      case rel => exact ⟨k + 1, by omega, by first | rfl | rw [qk], G9⟩
      case measure => simp [intOf]; omega
    · have dk : decide ((k : Int) < (tb.length : Int)) = false := decide_eq_false (by omega)
      have dk' : decide (k < tb.length) = false := decide_eq_false hlt
      have KN := Lib.hid (show k = tb.length by omega)
      go_wp2_with fail
      go_ret
      have h9 := HS.out
      rw [KN.out] at h9
      refine ⟨b23, rfl, ?_⟩
      have h10 := clone_done HT.out.1 h9
      exact (ref_shut (h10.perm (L' := refL c tb bud s D0 ++ (refP b23 tb bud s :: F)) (by simp only [HP.big, HP.big_append]; ac_rfl))).swap
end Go.Proofs.Ytaejojbdkgccpaa

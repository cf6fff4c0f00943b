/-
  Bytes, Over.
-/
import Derived.Test.YtaejojbdkgccpaaC18
namespace Go.Proofs.Ytaejojbdkgccpaa
open Go.RowKit Go.Maps Go.ChangeMaps

def sizeT (tb : List Cls) (k : Nat) : Int := (tb[k]?.map Cls.size).getD 0
/-- the bytes of the first n classes -/
def bytesN (tb : List Cls) (s : Nat → CL) : Nat → Int
  | 0 => 0
  | n + 1 => bytesN tb s n + sizeT tb n * ((s n).objs.length : Int)
def sumI (l : List Int) : Int := l.foldr (· + ·) 0
theorem sumI_cons (x : Int) (l : List Int) : sumI (x :: l) = x + sumI l := rfl
theorem sumI_append : ∀ l m : List Int, sumI (l ++ m) = sumI l + sumI m
  | [], m => by simp [sumI]
  | x :: l, m => by rw [List.cons_append, sumI_cons, sumI_cons, sumI_append l m]; omega
theorem sumI_perm {l m : List Int} (h : l.Perm m) : sumI l = sumI m := by
  induction h with
  | nil => rfl
  | cons x _ ih => rw [sumI_cons, sumI_cons, ih]
  | swap x y l => simp only [sumI_cons]; omega
  | trans _ _ h1 h2 => exact h1.trans h2
/-- a sum over keys of which each is there once is the sum over all numbers, where the others count nothing -/
theorem sumI_keys (f : Nat → Int) : ∀ (N : Nat) (l : List Nat), l.Nodup → (∀ k ∈ l, k < N) → (∀ k, k < N → k ∉ l → f k = 0) → sumI (l.map f) = sumI ((List.range N).map f)
  | 0, l, _, h, _ => by
    cases l with
    | nil => rfl
    | cons x l => exact absurd (h x (by simp)) (by omega)
  | N + 1, l, hd, h, h0 => by
    rw [List.range_succ, List.map_append, sumI_append]
    by_cases hN : N ∈ l
    · have hp : l.Perm (N :: l.erase N) := List.perm_cons_erase hN
      rw [sumI_perm (hp.map f), List.map_cons, sumI_cons, sumI_keys f N (l.erase N) (hd.erase N) (fun k hk => by
          have h2 := (hd.mem_erase_iff).1 hk
          have := h k h2.2
          have := h2.1
          omega) (fun k hk hn => h0 k (by omega) fun hkl => hn ((hd.mem_erase_iff).2 ⟨by omega, hkl⟩))]
      simp [sumI]
      omega
    · rw [sumI_keys f N l hd (fun k hk => by
          have h1 := h k hk
          have : k ≠ N := fun e => hN (e ▸ hk)
          omega) (fun k hk hn => h0 k (by omega) hn)]
      simp [sumI, h0 N (by omega) hN]
theorem bytesN_sum (tb : List Cls) (s : Nat → CL) : ∀ n, bytesN tb s n = sumI ((List.range n).map fun k => sizeT tb k * ((s k).objs.length : Int))
  | 0 => rfl
  | n + 1 => by
    rw [List.range_succ, List.map_append, sumI_append, ← bytesN_sum tb s n]
    simp [bytesN, sumI]
theorem sizeT_range {tb : List Cls} (h : tbOk tb) (k : Nat) : 0 ≤ sizeT tb k ∧ sizeT tb k ≤ 512 := by
  unfold sizeT
  cases hx : tb[k]? with
  | none => simp
  | some x =>
    have := h.2.2 x (List.mem_of_getElem? hx)
    unfold okCls at this
    simp
    omega
theorem sizeT_of {tb : List Cls} {k : Nat} {x : Cls} (hx : tb[k]? = some x) : x.size = sizeT tb k := by unfold sizeT; rw [hx]; rfl
theorem mul_range {a : Int} {b : Nat} (ha : 0 ≤ a ∧ a ≤ 512) (hb : b ≤ 256) : 0 ≤ a * (b : Int) ∧ a * (b : Int) ≤ 131072 := by
  refine ⟨Int.mul_nonneg ha.1 (by omega), ?_⟩
  have h1 : a * (b : Int) ≤ 512 * (b : Int) := Int.mul_le_mul_of_nonneg_right ha.2 (by omega)
  omega
theorem sum_range (f : Nat → Int) (hf : ∀ k, 0 ≤ f k ∧ f k ≤ 131072) : ∀ l : List Nat, 0 ≤ sumI (l.map f) ∧ sumI (l.map f) ≤ 131072 * (l.length : Int)
  | [] => by simp [sumI]
  | x :: l => by
    have h1 := sum_range f hf l
    have h2 := hf x
    rw [List.map_cons, sumI_cons, List.length_cons]
    omega

set_option maxRecDepth 10000 in
set_option maxHeartbeats 4000000 in
theorem bytes_any (w0 w : World) (F : List HP) (c : Nat) (tb : List Cls) (bud : Int) (s : Nat → CL) (ht : tbOk tb) (hok : ∀ k, (s k).ok) (hs : St w0 (cacheP c tb bud s :: F) w) :
    Calls Try.prog 27 #[.pointer (some ⟨c, 0, none⟩)] w fun e w' => e = .returned (.int .i64 (bytesN tb s tb.length)) ∧ St w0 (cacheP c tb bud s :: F) w' := by
  obtain ⟨D, ho, h⟩ := cache_open hs
  obtain ⟨c0, c1, c2⟩ := St.cells3 h
  have hbm := (h.front 1).block.2
  clear hs
  have hrg := run_range_map (P := Try.prog) w 63 3 68 D.bm (entsA D.l) D.clock Try.underlying63 hbm
  have h1 := h.alloc (.mapIter (some D.bm) D.clock #[] D.clock)
  have hN : tb.length ≤ 40 := ht.2.1
  have HT := Lib.hid ht
  have HOK := Lib.hid hok
  have HO := Lib.hid ho
  obtain ⟨f, hf⟩ : ∃ f : Nat → Int, f = fun k => sizeT tb k * ((s k).objs.length : Int) := ⟨_, rfl⟩
  have HF := Lib.hid hf
  have FR := Lib.hid (show ∀ k, 0 ≤ f k ∧ f k ≤ 131072 from fun k => by rw [hf]; exact mul_range (sizeT_range ht k) (hok k).2.2.2)
  clear hf ht hok ho h hbm
  go_enter Try.func27, Try.ntmps27
  go_wp2_with (first | (go_at_call 47; refine (cmade_true _ _ _ c2).mono ?_; rintro e w' ⟨rfl, rfl⟩))
  go_loopg [3] D.l.length (fun n sm wr => ∃ (ps : List Ent) (seen : Array Nat) (cc : Nat) (m : Int), sm = .int .i64 m ∧ Hid (m = sumI ((ps.map Ent.k).map f)) ∧ Hid ((leftE D.l seen).length ≤ n) ∧ Hid ((ps ++ leftE D.l seen).Perm D.l) ∧ Hid (D.clock ≤ cc) ∧
    Hid (St w0 (HP.at w.heap.size (.mapIter (some D.bm) D.clock seen cc) :: HP.at D.bm (.map (entsA D.l) D.clock) :: headP c tb.length bud D :: HP.arr 43 3 (.slice D.ta tb.length D.tcap) tb.length (clsC tb) :: (D.l.map (entP s) ++ F)) wr))
  case atStart =>
    refine ⟨[], #[], D.clock, 0, rfl, Lib.hid rfl, Lib.hid (by rw [leftE_start]; exact Nat.le_refl _), Lib.hid (by rw [leftE_start]; exact List.Perm.refl _), Lib.hid (Nat.le_refl _), Lib.hid ?_⟩
    refine h1.perm ?_
    simp only [HP.big, HP.big_append]
    ac_rfl
  case round =>
    clear h1 hrg c0 c1 c2
    obtain ⟨ps, seen, cc, m, rfl, HM, HL, HP1, HC, HS⟩ := hrel
    have hs1 := HS.out
    go_wp2_with (first
      | (at_next; refine wpList_next_st rfl _ rfl rfl hs1 HO.out.1 HO.out.1.past HC.out ?_ ?_))
    · intro hd
      rw [hd, List.append_nil] at HP1
      have hm : m = bytesN tb s tb.length := by
        rw [HM.out, sumI_perm ((HP1.out.map Ent.k).map f), sumI_keys f tb.length _ HO.out.1.once (fun k hk => by
            obtain ⟨e, he, rfl⟩ := List.mem_map.1 hk
            exact HO.out.2.1 e he) (fun k hk hn => by
            rw [HF.out]
            show sizeT tb k * ((s k).objs.length : Int) = 0
            rw [HO.out.2.2 k hk fun e he hek => hn (hek ▸ List.mem_map_of_mem he)]
            simp [CL.new]), bytesN_sum, HF.out]
      have HM2 := Lib.hid hm
      have h9 := Lib.hid (cache_shut (F := F) HO.out ((hs1.drop).perm (by simp only [HP.big, HP.big_append]; ac_rfl)))
      clear hs1 HL HC HS HP1 hd hm HM
      go_wp2_with fail
      go_ret
      exact ⟨by rw [← HM2.out]; rfl, h9.out⟩
    · intro x w2 hx hs2 hen
      have hxl : x ∈ D.l := (List.mem_filter.1 hx).1
      have hxN := HO.out.2.1 x hxl
      obtain ⟨cl, hcl⟩ : ∃ cl, tb[x.k]? = some cl := ⟨tb[x.k], List.getElem?_eq_getElem hxN⟩
      have hb := sizeT_of hcl
      obtain ⟨R, e1, e2, e3⟩ := St.entry (w0 := w0) (s := s) hxl HO.out.1.once
      have hpush := leftE_push HO.out.1 hx
      have HL2 := Lib.hid (show (leftE D.l (seen.push x.t)).length ≤ gk - 1 by
        have h1 := hpush.length_eq
        rw [List.length_cons] at h1
        have h2 := HL.out
        omega)
      have HG0 := Lib.hid (show 0 < gk by
        have h1 := hpush.length_eq
        rw [List.length_cons] at h1
        have h2 := HL.out
        omega)
      have hpl : ps.length ≤ 40 := by
        have h3 := HP1.out.length_eq
        rw [List.length_append] at h3
        have h4 := nodup_lt_len tb.length (D.l.map Ent.k) HO.out.1.once fun k hk => by
          obtain ⟨e, he, rfl⟩ := List.mem_map.1 hk
          exact HO.out.2.1 e he
        rw [List.length_map] at h4
        omega
      have HP2 : Hid ((ps ++ [x] ++ leftE D.l (seen.push x.t)).Perm D.l) := Lib.hid (by
        refine List.Perm.trans ?_ HP1.out
        rw [List.append_assoc]
        exact (List.Perm.append_left ps hpush.symm))
      obtain ⟨d0, _, _⟩ := St.cells3 (hs2.front 2)
      obtain ⟨tbb, toff, tcap, tv, t0, _, _⟩ := tb_cells (HP.arr_reads (hs2.front 3)) hcl
      rw [tv] at d0
      rw [hb] at t0
      have g0 : St w0 (lstP x.b (s x.k) :: (R ++ (HP.at w.heap.size (.mapIter (some D.bm) D.clock (seen.push x.t) D.clock) :: HP.at D.bm (.map (entsA D.l) D.clock) :: headP c tb.length bud D :: HP.arr 43 3 (.slice D.ta tb.length D.tcap) tb.length (clsC tb) :: F))) w2 :=
        e1 _ _ (hs2.perm (by simp only [HP.big, HP.big_append]; ac_rfl))
      obtain ⟨a, cap, g⟩ := lst_open g0
      obtain ⟨y0, y1, y2⟩ := g.cells3
      have i0' : (0 : Int) ≤ (x.k : Int) := by omega
      have i1' : (x.k : Int) < (tb.length : Int) := by omega
      have hfx : sizeT tb x.k * ((s x.k).objs.length : Int) = f x.k := by rw [HF.out]
      have hfr := FR.out x.k
      have hmr : 0 ≤ m ∧ m ≤ 131072 * 40 := by
        have := sum_range f FR.out (ps.map Ent.k)
        rw [← HM.out, List.length_map] at this
        omega
      have q0 : IntKind.i64.wrap (sizeT tb x.k * ((s x.k).objs.length : Int)) = f x.k := by rw [hfx]; exact IntWalk.i64_in _ (by omega)
      have q1 : IntKind.i64.wrap (m + f x.k) = m + f x.k := IntWalk.i64_in _ (by omega)
      have S2 := Lib.hid hs2.drew
      clear hs1 hs2 HL HP1 HC HS hpush e1 e2 e3 hcl hb tv g0 g hx hxl hfx
      go_wp2_with fail
      refine wp_region_tail_drew 16 (by kernel_rfl) (by kernel_rfl) ?_
      simp only [List.take_succ_cons, List.take_zero, List.drop_succ_cons, List.drop_zero]
      repeat still_step
      refine wpStill_nil ?_
      go_wp2_with fail
      go_roundg (gk - 1)
      case measure => have := HG0.out; omega
      case rel =>
        refine ⟨ps ++ [x], seen.push x.t, D.clock, m + f x.k, rfl, Lib.hid ?_, HL2, HP2, Lib.hid (Nat.le_refl _), S2⟩
        rw [HM.out, List.map_append, List.map_append, sumI_append]
        simp [sumI]

set_option maxRecDepth 10000 in
set_option maxHeartbeats 1000000 in
theorem over_any (w0 w : World) (F : List HP) (c : Nat) (tb : List Cls) (bud : Int) (s : Nat → CL) (ht : tbOk tb) (hok : ∀ k, (s k).ok) (hs : St w0 (cacheP c tb bud s :: F) w) :
    Calls Try.prog 28 #[.pointer (some ⟨c, 0, none⟩)] w fun e w' => e = .returned (.bool (decide (bud < bytesN tb s tb.length))) ∧ St w0 (cacheP c tb bud s :: F) w' := by
  have B := Lib.hid fun w1 h => bytes_any w0 w1 F c tb bud s ht hok h
  have HS := Lib.hid hs
  generalize bytesN tb s tb.length = n at *
  generalize hv : decide (bud < n) = v
  clear hs hok ht
  go_enter Try.func28, Try.ntmps28
  go_wp2_with fail
  refine wp_region_qst (fun w' => St w0 (cacheP c tb bud s :: F) w') (by kernel_rfl) (by kernel_rfl) HS.out.drew ?_
  repeat (
    with_reducible refine wpQuiet_step (fun K hK => ?_)
    go_simp
    first
      | (refine hK _ ?_; clear hK K)
      | (apply Exists.intro
         refine ⟨fun w1 h1 => ?_, hK _ ?_⟩
         (first
          | (with_reducible rfl)
          | (go_at_call 47; obtain ⟨bm, z2⟩ := cache_map h1; refine (cmade_true _ _ _ z2).mono ?_; rintro e w' ⟨rfl, rfl⟩; exact ⟨rfl, h1⟩)
          | (go_at_call 27; refine (B.out _ h1).mono ?_; rintro e w' ⟨rfl, h2⟩; exact ⟨rfl, h2⟩)
          | (obtain ⟨D, _, h3⟩ := cache_open h1; obtain ⟨z0, z1, z2⟩ := St.cells3 h3; go_simp; with_reducible rfl))
         clear hK K))
  refine wpQuiet_nil ?_
  intro w2 h2
  go_wp2_with fail
  go_ret
  exact ⟨by rw [← hv]; rfl, h2⟩
end Go.Proofs.Ytaejojbdkgccpaa

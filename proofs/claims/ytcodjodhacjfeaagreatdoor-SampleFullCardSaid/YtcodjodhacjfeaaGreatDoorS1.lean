/-
  A sampler in memory: the known blocks and the rows; forget.
-/
import Derived.Test.YtcodjodhacjfeaaGreatDoorS0
namespace Go.Proofs.YtcodjodhacjfeaaGreatDoor
open Go.RowKit

/-- a known block -/
structure Smp where
  addr : Int
  size : Int
  weight : Int
  site : ByteArray
def Smp.val (x : Smp) : Value := .agg #[.int .i64 x.addr, .int .i64 x.size, .int .i64 x.weight, .string x.site]
def kvk (K : List Smp) : List (Int × Value) := K.map fun x => (x.addr, x.val)
def lookK (K : List Smp) (a : Int) : Option Smp := K.find? fun x => decide (x.addr = a)
def dropK (K : List Smp) (a : Int) : List Smp := K.filter fun x => decide (x.addr ≠ a)
def putK (K : List Smp) (x : Smp) : List Smp := if K.any (fun y => decide (y.addr = x.addr)) then K.map (fun y => if y.addr = x.addr then x else y) else K ++ [x]
theorem getG_kvk (K : List Smp) (a : Int) : getG (kvk K) a = (lookK K a).map Smp.val := by
  unfold getG lookK kvk
  induction K with
  | nil => rfl
  | cons y R ih =>
    simp only [List.map_cons, List.find?_cons]
    by_cases h : y.addr = a
    · simp [h]
    · simp only [h, decide_false]
      exact ih
theorem delG_kvk (K : List Smp) (a : Int) : delG (kvk K) a = kvk (dropK K a) := by
  unfold delG kvk dropK
  rw [List.filter_map]
  rfl
theorem putG_kvk (K : List Smp) (x : Smp) : putG (kvk K) x.addr x.val = kvk (putK K x) := by
  unfold putG kvk putK
  rw [List.any_map]
  have e : ((fun y : Int × Value => decide (y.1 = x.addr)) ∘ fun y : Smp => (y.addr, y.val)) = fun y : Smp => decide (y.addr = x.addr) := rfl
  rw [e]
  split
  · rw [List.map_map, List.map_map]
    refine List.map_congr_left fun y _ => ?_
    simp only [Function.comp]
    by_cases h : y.addr = x.addr
    · rw [if_pos h, if_pos h]
    · rw [if_neg h, if_neg h]
  · rw [List.map_append]; rfl
/-- a row is put at its site -/
def putR (R : List Rw) (r : Rw) : List Rw := if R.any (fun y => decide (y.site = r.site)) then R.map (fun y => if y.site = r.site then r else y) else R ++ [r]
theorem putG_row (R : List Rw) (r : Rw) : putG (kvs R) r.site r.val = kvs (putR R r) := by
  unfold putG putR kvs
  rw [List.any_map]
  have e : ((fun x : ByteArray × Value => decide (x.1 = r.site)) ∘ fun r : Rw => (r.site, r.val)) = fun y : Rw => decide (y.site = r.site) := rfl
  rw [e]
  split
  · rw [List.map_map, List.map_map]
    refine List.map_congr_left fun y _ => ?_
    simp only [Function.comp]
    by_cases h : y.site = r.site
    · rw [if_pos h, if_pos h]
    · rw [if_neg h, if_neg h]
  · rw [List.map_append]; rfl
/-- what forgetting a block makes of a row -/
def lessR (x : Smp) (r : Rw) : Rw := ⟨r.site, r.a - 1, r.b - x.weight, r.c, r.d⟩
def forgetR (K : List Smp) (R : List Rw) (a : Int) : List Rw := match lookK K a with
  | none => R
  | some x => putR R (lessR x ((look R x.site).getD (zeroR ⟨#[]⟩)))
abbrev intE : KeyE Tryz.prog 3 Int := intKey Tryz.underlying3
theorem info_sample : ∃ i : TypeInfo, Tryz.prog.info? 68 = some i ∧ i.zero = some (.agg #[.int .i64 0, .int .i64 0, .int .i64 0, .string ⟨#[]⟩]) ∧ i.size = 4 ∧ i.bytes = 40 := info_parts (show (Tryz.prog.info? 68).map (fun i => (i.zero, i.size, i.bytes)) = some (some (.agg #[.int .i64 0, .int .i64 0, .int .i64 0, .string ⟨#[]⟩]), 4, 40) by kernel_rfl)
def zeroS : Smp := ⟨0, 0, 0, ⟨#[]⟩⟩
theorem zero_smp (w : World) : (zeroValue 68).run Tryz.prog w = .ok zeroS.val w := by
  obtain ⟨i0, hi0, hz0, _, _⟩ := info_sample
  simp [zeroValue, typeInfo, hi0, hz0, zeroS, Smp.val]
theorem getD_smp (o : Option Smp) (z : Smp) : (o.map Smp.val).getD z.val = (o.getD z).val := by cases o <;> rfl
theorem isSome_smp (o : Option Smp) : (o.map Smp.val).isSome = o.isSome := by cases o <;> rfl
theorem isSome_row (o : Option Rw) : (o.map Rw.val).isSome = o.isSome := by cases o <;> rfl

structure SmWf (K : List Smp) (R : List Rw) : Prop where
  site : ∀ x ∈ K, x.site.size ≤ maxLen
  weight : ∀ x ∈ K, -2305843009213693952 ≤ x.weight ∧ x.weight ≤ 2305843009213693952
  there : ∀ x ∈ K, ∃ r, look R x.site = some r
  bnd : ∀ r ∈ R, Bnd 2305843009213693952 r
  rsite : ∀ r ∈ R, r.site.size ≤ maxLen

set_option maxRecDepth 10000 in
set_option maxHeartbeats 4000000 in
theorem forget_any (w0 w : World) (F : List HP) (b mk mr : Nat) (h : Value) (every total : Value) (K : List Smp) (R : List Rw) (a : Int) (ha : i64r a) (hwf : SmWf K R)
    (hs : St w0 (HP.blk b #[h, every, total, .map (some mk), .map (some mr)] 43 :: mapP intE mk (kvk K) :: mapP strE mr (kvs R) :: F) w) :
    Calls Tryz.prog 24 #[.pointer (some ⟨b, 0, none⟩), .int .i64 a] w fun e w' => e = .returned (.tuple #[]) ∧
      St w0 (HP.blk b #[h, every, total, .map (some mk), .map (some mr)] 43 :: mapP intE mk (kvk (dropK K a)) :: mapP strE mr (kvs (forgetR K R a)) :: F) w' := by
  have c3 : w.cell? ⟨b, 3, none⟩ = some (.map (some mk)) := hs.cell rfl
  have hlk := (St.lookG (hs.front 1) Tryz.underlying40 (zero_smp _) (c := a) ha).2
  rw [getG_kvk, getD_smp, isSome_smp] at hlk
  cases hx : lookK K a with
  | none =>
    have hd : dropK K a = K := by
      unfold dropK
      refine List.filter_eq_self.2 fun x hx' => ?_
      have := List.find?_eq_none.1 hx x hx'
      simpa using this
    have HF : Hid (forgetR K R a = R) := Lib.hid (by unfold forgetR; rw [hx])
    have HD := Lib.hid hd
    rw [hx] at hlk
    simp only [Option.getD_none, Option.isSome_none, zeroS, Smp.val, intE, intKey] at hlk
    have H1 := Lib.hid (hs.allocRow #[.int .i64 0, .int .i64 0, .int .i64 0, .string ⟨#[]⟩] 68).drop
    clear hx hd hs ha hwf
    go_enter Tryz.func24, Tryz.ntmps24
    go_wp2_with fail
    refine bodyPost_ret (results_none rfl _ _ _) rfl ?_
    rw [HF.out, HD.out]
    exact ⟨rfl, H1.out⟩
  | some x =>
    have hxm := List.mem_of_find?_eq_some hx
    have hsz := hwf.site x hxm
    obtain ⟨wb0, wb1⟩ := hwf.weight x hxm
    obtain ⟨r, hr⟩ := hwf.there x hxm
    obtain ⟨hrm, hrs⟩ := lookR_mem hr
    obtain ⟨⟨n1, n2⟩, ⟨n3, n4⟩, _, _⟩ := hwf.bnd r hrm
    have HF : Hid (forgetR K R a = putR R (lessR x r)) := Lib.hid (by unfold forgetR; rw [hx]; simp only [hr, Option.getD_some])
    rw [hx] at hlk
    simp only [Option.getD_some, Option.isSome_some, Smp.val, intE, intKey] at hlk
    have H1 := Lib.hid (hs.allocRow #[.int .i64 x.addr, .int .i64 x.size, .int .i64 x.weight, .string x.site] 68)
    have HA := Lib.hid ha
    have hcb : (⟨w.heap.size, 2, none⟩ : Addr).block = w.heap.size := rfl
    have HS := Lib.hid hsz
    have HR := Lib.hid hr
    have HRS := Lib.hid hrs
    have d3 : (w.alloc (.cells #[.int .i64 x.addr, .int .i64 x.size, .int .i64 x.weight, .string x.site] 68)).cell? ⟨b, 3, none⟩ = some (.map (some mk)) := (H1.out.front 1).cell rfl
    obtain ⟨xa, xs, xw, xt⟩ := x
    obtain ⟨rs, ra, rb, rc, rd⟩ := r
    simp only at wb0 wb1 n1 n2 n3 n4 hsz d3
    have sa : IntKind.i64.wrap (ra - 1) = ra - 1 := IntWalk.i64_in _ (by omega)
    have sb : IntKind.i64.wrap (rb - xw) = rb - xw := IntWalk.i64_in _ (by omega)
    clear hx hxm hr hrm hrs hs ha hwf wb0 wb1 n1 n2 n3 n4 hcb hsz
    obtain ⟨w3, hdel, h3⟩ := St.delMap (H1.out.front 2) Tryz.underlying40 (c := a) HA.out 3 0
    rw [delG_kvk] at h3
    have H3 := Lib.hid h3
    have FX : ∀ W G, St w0 (mapP intE mk (kvk (dropK K a)) :: HP.blk w.heap.size #[.int .i64 xa, .int .i64 xs, .int .i64 xw, .string xt] 68 :: HP.blk b #[h, every, total, .map (some mk), .map (some mr)] 43 :: mapP strE mr (kvs R) :: G) W →
        W.cell? ⟨b, 4, none⟩ = some (.map (some mr)) ∧ W.cell? ⟨w.heap.size, 3, none⟩ = some (.string xt) ∧ W.cell? ⟨w.heap.size, 2, none⟩ = some (.int .i64 xw) ∧ (Instr.lookup 41 (.map (some mr)) (.string xt) false).run Tryz.prog W = .ok (.agg #[.string rs, .int .i64 ra, .int .i64 rb, .int .i64 rc, .int .i64 rd]) W := fun W G hW => by
      have hl2 := (St.lookG (hW.front 3) Tryz.underlying41 (zero_row _) (c := xt) HS.out).1
      rw [getG_kvs, getD_val, HR.out] at hl2
      exact ⟨(hW.front 2).cell rfl, (hW.front 1).cell rfl, (hW.front 1).cell rfl, hl2⟩
    obtain ⟨p1, p2, p3, p4⟩ := FX _ _ H3.out.drew
    obtain ⟨q1, q2, q3, q4⟩ := FX _ _ ((H3.out.allocRow #[.string ⟨#[]⟩, .int .i64 0, .int .i64 0, .int .i64 0, .int .i64 0] 63).drew.pick 5 [1, 2, 3, 4])
    have t2 := ((H3.out.allocRow #[.string rs, .int .i64 (ra - 1), .int .i64 rb, .int .i64 rc, .int .i64 rd] 63).drew.front 2).cell (i := 2) rfl
    have H4 := (H3.out.allocRow #[.string rs, .int .i64 (ra - 1), .int .i64 (rb - xw), .int .i64 rc, .int .i64 rd] 63).drew.drew
    obtain ⟨w5, hup, h5⟩ := St.putMap (H4.front 4) Tryz.underlying41 (c := xt) HS.out (.agg #[.string rs, .int .i64 (ra - 1), .int .i64 (rb - xw), .int .i64 rc, .int .i64 rd])
    simp only [strE, strKey] at hup
    simp only [intE, intKey] at hdel
    have g4 := (H4.front 3).cell (i := 4) rfl
    have g3 := (H4.front 2).cell (i := 3) rfl
    have g1 := H4.row
    have H5 := Lib.hid h5
    clear h5 H4 h3 FX
    go_enter Tryz.func24, Tryz.ntmps24
    go_wp2_with fail
    go_region
    go_wp2_with fail
    all_goals
      refine wp_region_tail_drew 7 (by kernel_rfl) (by kernel_rfl) ?_
      simp only [List.take_succ_cons, List.take_zero, List.drop_succ_cons, List.drop_zero]
      repeat still_step
      refine wpStill_nil ?_
      go_wp2_with fail
      refine bodyPost_end (results_none rfl _ _ _) rfl ?_
      refine ⟨rfl, ?_⟩
      have hp := putG_row R (lessR ⟨xa, xs, xw, xt⟩ ⟨rs, ra, rb, rc, rd⟩)
      simp only [lessR, Rw.val, HRS.out] at hp
      have h6 := H5.out
      rw [HRS.out, hp] at h6
      rw [HF.out]
      simp only [lessR, HRS.out]
      exact h6.pick 5 [4, 2, 0]
end Go.Proofs.YtcodjodhacjfeaaGreatDoor

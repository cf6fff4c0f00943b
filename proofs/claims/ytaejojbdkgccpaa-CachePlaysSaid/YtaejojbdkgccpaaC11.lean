/-
  find at a cache; a class of the table in memory; Fill.
-/
import Derived.Test.YtaejojbdkgccpaaC10
namespace Go.Proofs.Ytaejojbdkgccpaa
open Go.RowKit Go.Maps Go.ChangeMaps

/-- a table that is right -/
def tbOk (tb : List Cls) : Prop := 1 ≤ tb.length ∧ tb.length ≤ 40 ∧ ∀ x ∈ tb, okCls x.size x.pages x.batch
def Bt (tb : List Cls) (k : Nat) : Nat := ((tb[k]?.map Cls.batch).getD 1).toNat
theorem Bt_of {tb : List Cls} (h : tbOk tb) {k : Nat} {x : Cls} (hx : tb[k]? = some x) : x.batch = (Bt tb k : Int) := by
  have := h.2.2 x (List.mem_of_getElem? hx)
  unfold okCls at this
  unfold Bt
  rw [hx]
  simp
  omega
theorem Bt_range {tb : List Cls} (h : tbOk tb) (k : Nat) : 1 ≤ Bt tb k ∧ Bt tb k ≤ 32 := by
  cases hx : tb[k]? with
  | none => unfold Bt; rw [hx]; simp
  | some x =>
    have h1 := Bt_of h hx
    have := h.2.2 x (List.mem_of_getElem? hx)
    unfold okCls at this
    omega
theorem clsC_len : ∀ tb : List Cls, (clsC tb).length = tb.length * 3
  | [] => rfl
  | x :: tb => by
    have := clsC_len tb
    unfold clsC at *
    rw [List.flatMap_cons, List.length_append, this, List.length_cons]
    simp
    omega
theorem clsC_get : ∀ (tb : List Cls) (k : Nat) (x : Cls), tb[k]? = some x → (clsC tb)[k * 3]? = some (.int .i64 x.size) ∧ (clsC tb)[k * 3 + 1]? = some (.int .i64 x.pages) ∧ (clsC tb)[k * 3 + 2]? = some (.int .i64 x.batch)
  | [], k, x, h => by simp at h
  | y :: tb, 0, x, h => by
    simp at h
    subst h
    exact ⟨rfl, rfl, rfl⟩
  | y :: tb, k + 1, x, h => by
    have ih := clsC_get tb k x (by simpa using h)
    unfold clsC at *
    rw [List.flatMap_cons, show (k + 1) * 3 = k * 3 + 1 + 1 + 1 by omega]
    exact ih
theorem tb_cells {w : World} {v : Value} {tb : List Cls} (h : Reads w 3 v tb.length (clsC tb)) {k : Nat} {x : Cls} (hx : tb[k]? = some x) :
    ∃ b off cap, v = .slice (some ⟨b, off, none⟩) tb.length cap ∧ w.cell? ⟨b, off + k * 3, none⟩ = some (.int .i64 x.size) ∧ w.cell? ⟨b, off + k * 3 + 1, none⟩ = some (.int .i64 x.pages) ∧ w.cell? ⟨b, off + k * 3 + 2, none⟩ = some (.int .i64 x.batch) := by
  have hk := (List.getElem?_eq_some_iff.1 hx).1
  obtain ⟨b, off, cap, hv, _, hc⟩ := Reads.lies h (by omega)
  obtain ⟨h1, h2, h3⟩ := clsC_get tb k x hx
  exact ⟨b, off, cap, hv, hc _ _ h1, by rw [Nat.add_assoc]; exact hc _ _ h2, by rw [Nat.add_assoc]; exact hc _ _ h3⟩

/-- where the parts are behind find -/
structure Found (w0 : World) (F : List HP) (c : Nat) (tb : List Cls) (bud : Int) (s : Nat → CL) (k : Nat) (b : Nat) (D : CD) (R : List HP) (w' : World) : Prop where
  st : St w0 (lstP b (s k) :: headP c tb.length bud D :: HP.arr 43 3 (.slice D.ta tb.length D.tcap) tb.length (clsC tb) :: (R ++ F)) w'
  back : ∀ y (G : List HP) w2, St w0 (lstP b y :: headP c tb.length bud D :: HP.arr 43 3 (.slice D.ta tb.length D.tcap) tb.length (clsC tb) :: (R ++ G)) w2 → St w0 (cacheP c tb bud (updC s k y) :: G) w2
theorem find_in (w0 w : World) (F : List HP) (c : Nat) (tb : List Cls) (bud : Int) (s : Nat → CL) (hN : tb.length ≤ 40) (hs : St w0 (cacheP c tb bud s :: F) w) (k : Nat) (hk : k < tb.length) :
    Calls Try.prog 41 #[.pointer (some ⟨c, 0, none⟩), .int .i64 k] w fun e w' => ∃ (b : Nat) (D : CD) (R : List HP), e = .returned (.tuple #[.pointer (some ⟨b, 0, none⟩), .int .i64 0]) ∧ Found w0 F c tb bud s k b D R w' := by
  obtain ⟨bm, c2⟩ := cache_map hs
  refine (find_of w c bm c2 k (fun q w' => ∃ b D R, q = some ⟨b, 0, none⟩ ∧ Found w0 F c tb bud s k b D R w') ?_).mono ?_
  · refine (of_in w0 w F c tb bud s hN hs k hk).mono ?_
    rintro e w' ⟨b, D, R, rfl, h1, h2⟩
    exact ⟨_, rfl, b, D, R, rfl, h1, h2⟩
  · rintro e w' ⟨q, rfl, b, D, R, rfl, h⟩
    exact ⟨b, D, R, by simp, h⟩
theorem find_out (w0 w : World) (F : List HP) (c : Nat) (tb : List Cls) (bud : Int) (s : Nat → CL) (hs : St w0 (cacheP c tb bud s :: F) w) (k : Int) (hk : ¬ inC tb.length k) :
    Calls Try.prog 41 #[.pointer (some ⟨c, 0, none⟩), .int .i64 k] w fun e w' => e = .returned (.tuple #[.pointer none, .int .i64 1]) ∧ w = w' := by
  obtain ⟨bm, c2⟩ := cache_map hs
  refine (find_of w c bm c2 k (fun q w' => q = none ∧ w = w') ?_).mono ?_
  · refine (of_out w0 w F c tb bud s hs k hk).mono ?_
    rintro e w' ⟨rfl, rfl⟩
    exact ⟨_, rfl, rfl, rfl⟩
  · rintro e w' ⟨q, rfl, rfl, rfl⟩
    exact ⟨by simp, rfl⟩

theorem fill_in (w0 w : World) (F : List HP) (c : Nat) (tb : List Cls) (bud : Int) (s : Nat → CL) (hN : tb.length ≤ 40) (hs : St w0 (cacheP c tb bud s :: F) w) (k : Nat) (hk : k < tb.length) (hok : (s k).ok) (a : Option Addr) (cap : Nat) (ys : List Int)
    (hr : ∀ (G : List HP) w', St w0 (G ++ F) w' → Reads w' 1 (.slice a ys.length cap) ys.length (intsC ys)) (hy : ys.length ≤ 300) :
    Calls Try.prog 20 #[.pointer (some ⟨c, 0, none⟩), .int .i64 k, .slice a ys.length cap] w fun e w' => e = .returned (.int .i64 ((s k).fillE ys)) ∧ St w0 (cacheP c tb bud (updC s k ((s k).fillF ys)) :: F) w' := by
  have H := Lib.hid (find_in w0 w F c tb bud s hN hs k hk)
  have HR := Lib.hid hr
  have hl := hok.2.2.2
  clear hs hok hr
  go_enter Try.func20, Try.ntmps20
  go_wp2_with fail
  refine H.out.mono ?_
  rintro e w1 ⟨b, D, R, rfl, hf⟩
  have r1 := HR.out (lstP b (s k) :: headP c tb.length bud D :: HP.arr 43 3 (.slice D.ta tb.length D.tcap) tb.length (clsC tb) :: R) w1 hf.st
  have BK := Lib.hid hf.back
  have S1 := Lib.hid hf.st
  clear hf H
  go_wp2_with fail
  refine (sclone_any w0 w1 _ a _ cap _ S1.out r1 (intsC_one _) (by omega)).mono ?_
  rintro e w2 ⟨a2, cap2, rfl, g2⟩
  have S2 : Hid (St w0 (intsP (.slice a2 ys.length cap2) ys :: _) w2) := Lib.hid g2
  clear g2 S1 r1
  go_wp2_with fail
  refine (reverse_any w0 w2 _ a2 ys cap2 (by omega) S2.out).mono ?_
  rintro e w3 ⟨rfl, g3⟩
  rw [List.length_reverse] at g3
  have r3 : Reads w3 1 (.slice a2 ys.reverse.length cap2) ys.reverse.length (intsC ys.reverse) := by
    rw [List.length_reverse]
    have := HP.arr_reads g3
    rwa [List.length_reverse] at this
  have S3 := Lib.hid g3.swap
  clear g3 S2
  have A := add_any w0 w3 _ b (s k) a2 cap2 ys.reverse S3.out r3 hl (by rw [List.length_reverse]; exact hy)
  rw [List.length_reverse, ← CL.fillF_add] at A
  have E : (if 256 < (s k).objs.length + ys.length then (6 : Int) else 0) = (s k).fillE ys := rfl
  rw [E] at A
  clear E
  have A := Lib.hid A
  clear r3
  go_wp2_with fail
  refine A.out.mono ?_
  rintro e w4 ⟨rfl, g4⟩
  go_wp2_with fail
  go_ret
  exact ⟨rfl, BK.out _ _ _ g4.swap.drop⟩
theorem fill_out (w0 w : World) (F : List HP) (c : Nat) (tb : List Cls) (bud : Int) (s : Nat → CL) (hs : St w0 (cacheP c tb bud s :: F) w) (k : Int) (hk : ¬ inC tb.length k) (v : Value) :
    Calls Try.prog 20 #[.pointer (some ⟨c, 0, none⟩), .int .i64 k, v] w fun e w' => e = .returned (.int .i64 1) ∧ w = w' := by
  have H := Lib.hid (find_out w0 w F c tb bud s hs k hk)
  clear hs hk
  go_enter Try.func20, Try.ntmps20
  go_wp2_with fail
  refine H.out.mono ?_
  rintro e w1 ⟨rfl, rfl⟩
  go_wp2_with fail
  go_ret
  exact ⟨rfl, rfl⟩
end Go.Proofs.Ytaejojbdkgccpaa

/-
  batches.
-/
import Derived.Test.YtaejojbdkgccpaaC16
import Derived.Deep.LoopGhost
namespace Go.Proofs.Ytaejojbdkgccpaa
open Go.RowKit Go.Maps Go.ChangeMaps

/-- a batch and its objects -/
structure BO where
  c : Nat
  v : Value
  o : List Int
def BO.bat (x : BO) : Bat := ⟨x.c, x.v⟩
def BO.key (x : BO) : Nat × List Int := (x.c, x.o)
def BO.P (x : BO) : HP := intsP x.v x.o
def batsZ (v : Value) (zs : List BO) : HP := HP.arr 48 2 v zs.length (batC (zs.map BO.bat)) * HP.big (zs.map BO.P)
/-- a slice of batches in memory -/
def batsP (v : Value) (bs : List (Nat × List Int)) : HP := HP.ex fun zs : {zs : List BO // zs.map BO.key = bs} => batsZ v zs.1

theorem perm_map_lift {α β : Type} (f : α → β) {l : List β} {zs : List α} (h : l.Perm (zs.map f)) : ∃ zs' : List α, zs'.Perm zs ∧ zs'.map f = l := by
  generalize hm : zs.map f = m at h
  induction h generalizing zs with
  | nil => exact ⟨[], by rw [List.map_eq_nil_iff] at hm; subst hm; exact List.Perm.refl _, rfl⟩
  | cons x h ih =>
    obtain ⟨z, zs', rfl, rfl, h3⟩ := List.map_eq_cons_iff.1 hm
    obtain ⟨zs2, h1, h2⟩ := ih h3
    exact ⟨z :: zs2, h1.cons z, by simp [h2]⟩
  | swap x y l =>
    obtain ⟨z, zs', rfl, rfl, h3⟩ := List.map_eq_cons_iff.1 hm
    obtain ⟨z2, zs2, rfl, rfl, rfl⟩ := List.map_eq_cons_iff.1 h3
    exact ⟨z2 :: z :: zs2, List.Perm.swap z z2 zs2, rfl⟩
  | trans h1 h2 ih1 ih2 =>
    obtain ⟨zs2, a1, a2⟩ := ih2 hm
    obtain ⟨zs3, b1, b2⟩ := ih1 a2
    exact ⟨zs3, b1.trans a1, b2⟩
theorem sorted_ext {β : Type} : ∀ {l m : List (Nat × β)}, l.Pairwise (fun x y : Nat × β => x.1 < y.1) → m.Pairwise (fun x y : Nat × β => x.1 < y.1) → (∀ x, x ∈ l ↔ x ∈ m) → l = m
  | [], [], _, _, _ => rfl
  | [], y :: m, _, _, h => by have := (h y).2 (by simp); simp at this
  | x :: l, [], _, _, h => by have := (h x).1 (by simp); simp at this
  | x :: l, y :: m, hl, hm, h => by
    rw [List.pairwise_cons] at hl hm
    have hx := (h x).1 (by simp)
    have hy := (h y).2 (by simp)
    have e : x = y := by
      rcases List.mem_cons.1 hx with e | hx
      · exact e
      · rcases List.mem_cons.1 hy with e | hy
        · exact e.symm
        · have := hl.1 y hy
          have := hm.1 x hx
          omega
    subst e
    congr 1
    refine sorted_ext hl.2 hm.2 fun z => ⟨fun hz => ?_, fun hz => ?_⟩
    · rcases List.mem_cons.1 ((h z).1 (List.mem_cons_of_mem _ hz)) with e | hz'
      · subst e
        have := hl.1 z hz
        omega
      · exact hz'
    · rcases List.mem_cons.1 ((h z).2 (List.mem_cons_of_mem _ hz)) with e | hz'
      · subst e
        have := hm.1 z hz
        omega
      · exact hz'

/-- what is removed, in order -/
def outB (fL : CL → List Int) (s : Nat → CL) (N : Nat) : List (Nat × List Int) := (List.range N).filterMap fun k => if 0 < (fL (s k)).length then some (k, fL (s k)) else none
theorem outB_sorted (fL : CL → List Int) (s : Nat → CL) (N : Nat) : (outB fL s N).Pairwise fun x y => x.1 < y.1 := by
  unfold outB
  rw [List.pairwise_filterMap]
  refine List.pairwise_lt_range.imp ?_
  intro a b hab x hx y hy
  split at hx <;> simp at hx
  split at hy <;> simp at hy
  subst hx hy
  exact hab
theorem mem_outB {fL : CL → List Int} {s : Nat → CL} {N : Nat} {x : Nat × List Int} : x ∈ outB fL s N ↔ x.1 < N ∧ x.2 = fL (s x.1) ∧ 0 < (fL (s x.1)).length := by
  unfold outB
  rw [List.mem_filterMap]
  constructor
  · rintro ⟨k, hk, hx⟩
    split at hx
    · rename_i h
      simp at hx
      subst hx
      exact ⟨List.mem_range.1 hk, rfl, h⟩
    · cases hx
  · rintro ⟨h1, h2, h3⟩
    refine ⟨x.1, List.mem_range.2 h1, ?_⟩
    rw [if_pos h3, ← h2]

theorem nodup_lt_len : ∀ (N : Nat) (l : List Nat), l.Nodup → (∀ x ∈ l, x < N) → l.length ≤ N
  | 0, l, _, h => by
    cases l with
    | nil => exact Nat.le_refl _
    | cons x l => exact absurd (h x (by simp)) (by omega)
  | N + 1, l, hd, h => by
    by_cases hN : N ∈ l
    · have h1 := nodup_lt_len N (l.erase N) (hd.erase N) fun x hx => by
        have h2 := (hd.mem_erase_iff).1 hx
        have := h x h2.2
        have := h2.1
        omega
      rw [List.length_erase_of_mem hN] at h1
      omega
    · have := nodup_lt_len N l hd fun x hx => by
        have h1 := h x hx
        have : x ≠ N := fun e => hN (e ▸ hx)
        omega
      omega
theorem HP.big_perm {L L' : List HP} (h : L.Perm L') : HP.big L = HP.big L' := by
  induction h with
  | nil => rfl
  | cons x _ ih => simp only [HP.big]; rw [ih]
  | swap x y l => simp only [HP.big]; ac_rfl
  | trans _ _ ih1 ih2 => exact ih1.trans ih2
/-- the lists of which these entries are done -/
def doneS (fG : Nat → CL → CL) (s : Nat → CL) (ps : List Ent) : Nat → CL := fun k => if k ∈ ps.map Ent.k then fG k (s k) else s k
theorem doneS_nil (fG : Nat → CL → CL) (s : Nat → CL) : doneS fG s [] = s := by funext k; simp [doneS]
theorem doneS_add {fG : Nat → CL → CL} {s : Nat → CL} {ps : List Ent} {x : Ent} : doneS fG s (ps ++ [x]) = updC (doneS fG s ps) x.k (fG x.k (s x.k)) := by
  funext k
  unfold doneS updC
  by_cases hk : k = x.k
  · subst hk; simp
  · simp [hk]
theorem doneS_not {fG : Nat → CL → CL} {s : Nat → CL} {ps : List Ent} {k : Nat} (h : k ∉ ps.map Ent.k) : doneS fG s ps k = s k := if_neg h
def keyOf (fL : CL → List Int) (s : Nat → CL) (e : Ent) : Option (Nat × List Int) := if 0 < (fL (s e.k)).length then some (e.k, fL (s e.k)) else none

theorem info48 : (Try.prog.info? 48).map (fun i => (i.zero, i.size, i.bytes)) = some (some (.agg #[.int .i64 0, .slice none 0 0]), 2, 32) := by kernel_rfl

set_option maxRecDepth 10000 in
set_option maxHeartbeats 4000000 in
theorem batches_any (w0 w : World) (F : List HP) (c : Nat) (tb : List Cls) (bud : Int) (s : Nat → CL) (ht : tbOk tb) (hok : ∀ k, (s k).ok) (hs : St w0 (cacheP c tb bud s :: F) w) (g : Nat) (fL : CL → List Int) (fF : Nat → CL → CL)
    (hg : ∀ args w, (callFunc g args).run Try.prog w = .ok (.enter g args) w)
    (hn1 : fL CL.new = []) (hn2 : ∀ k, fF (Bt tb k) CL.new = CL.new)
    (hrem : ∀ (G : List HP) w b x B, x.ok → 1 ≤ B ∧ B ≤ 32 → St w0 (lstP b x :: G) w → Calls Try.prog g #[.pointer (some ⟨b, 0, none⟩), .int .i64 (B : Nat)] w fun e w' => ∃ a' c', e = .returned (.slice a' (fL x).length c') ∧ St w0 (intsP (.slice a' (fL x).length c') (fL x) :: lstP b (fF B x) :: G) w') :
    Calls Try.prog 44 #[.pointer (some ⟨c, 0, none⟩), .func (.func g) #[] #[]] w fun e w' => ∃ a' c', e = .returned (.slice a' (outB fL s tb.length).length c') ∧
      St w0 (batsP (.slice a' (outB fL s tb.length).length c') (outB fL s tb.length) :: cacheP c tb bud (fun k => fF (Bt tb k) (s k)) :: F) w' := by
  obtain ⟨D, ho, h⟩ := cache_open hs
  obtain ⟨c0, c1, c2⟩ := St.cells3 h
  have hbm := (h.front 1).block.2
  clear hs
  have hrg := run_range_map (P := Try.prog) w 63 3 68 D.bm (entsA D.l) D.clock Try.underlying63 hbm
  have h1 := h.alloc (.mapIter (some D.bm) D.clock #[] D.clock)
  have hN : tb.length ≤ 40 := ht.2.1
  have HT := Lib.hid ht
  have HOK := Lib.hid hok
  have HR := Lib.hid hrem
  have HO := Lib.hid ho
  have HN1 := Lib.hid hn1
  have HN2 := Lib.hid hn2
  obtain ⟨i0, hi, hz0, hz1, hz2⟩ := info_parts info48
  have HI := Lib.hid hi
  have Z0 := Lib.hid hz0
  have Z1 := Lib.hid hz1
  have Z2 := Lib.hid hz2
  clear hi hz0 hz1 hz2 hrem ht hok ho hn1 hn2 h hbm
  go_enter Try.func44, Try.ntmps44
  go_wp2_with (first | (go_at_call 47; refine (cmade_true _ _ _ c2).mono ?_; rintro e w' ⟨rfl, rfl⟩))
  go_loopg [5] D.l.length (fun n out wr => ∃ (ps : List Ent) (seen : Array Nat) (cc : Nat) (zs : List BO) (a : Option Addr) (cap : Nat), out = .slice a zs.length cap ∧ Hid ((leftE D.l seen).length ≤ n) ∧ Hid ((ps ++ leftE D.l seen).Perm D.l) ∧ Hid (D.clock ≤ cc) ∧
    Hid (zs.map BO.key = ps.filterMap (keyOf fL s)) ∧ Hid (∀ z ∈ zs, z.v.oneCell' = true) ∧
    Hid (St w0 (HP.at w.heap.size (.mapIter (some D.bm) D.clock seen cc) :: HP.at D.bm (.map (entsA D.l) D.clock) :: headP c tb.length bud D :: HP.arr 43 3 (.slice D.ta tb.length D.tcap) tb.length (clsC tb) :: batsZ out zs :: (D.l.map (entP (doneS (fun k => fF (Bt tb k)) s ps)) ++ F)) wr))
  case atStart =>
    refine ⟨[], #[], D.clock, [], none, 0, rfl, Lib.hid (by rw [leftE_start]; exact Nat.le_refl _), Lib.hid (by rw [leftE_start]; exact List.Perm.refl _), Lib.hid (Nat.le_refl _), Lib.hid rfl, Lib.hid (by simp), Lib.hid ?_⟩
    rw [doneS_nil]
    have h2 := (h1.arr_nil 48 2)
    refine h2.perm ?_
    simp only [HP.big, HP.big_append, batsZ, List.map_nil, HP.sep_emp, List.length_nil, batC, List.flatMap_nil]
    ac_rfl
  case round =>
    clear h1 hrg c0 c1 c2
    obtain ⟨ps, seen, cc, zs, a, cap, rfl, HL, HP1, HC, HZ, HV, HS⟩ := hrel
    have hs1 := HS.out
    go_wp2_with (first
      | (at_next; refine wpList_next_st rfl _ rfl rfl hs1 HO.out.1 HO.out.1.past HC.out ?_ ?_))
    · intro hd
      rw [hd, List.append_nil] at HP1
      clear hs1 HL HC
      -- the batches
      have hz1 : ∀ z ∈ zs, z.c < tb.length ∧ z.o = fL (s z.c) ∧ 0 < (fL (s z.c)).length := fun z hz => by
        have h1 : z.key ∈ ps.filterMap (keyOf fL s) := HZ.out ▸ List.mem_map_of_mem hz
        obtain ⟨e, he, hk⟩ := List.mem_filterMap.1 h1
        unfold keyOf at hk
        split at hk
        · rename_i hp
          injection hk with hk
          injection hk with h2 h3
          rw [← h2, ← h3]
          exact ⟨HO.out.2.1 e (HP1.out.mem_iff.1 he), rfl, hp⟩
        · cases hk
      have hz2 : (zs.map BO.key).map Prod.fst = zs.map BO.c := by rw [List.map_map]; rfl
      have hnd : ((ps.filterMap (keyOf fL s)).map Prod.fst).Nodup := by
        have h1 : ((ps.filterMap (keyOf fL s)).map Prod.fst).Sublist (ps.map Ent.k) := by
          clear HZ hz1 hz2 HP1 HS
          induction ps with
          | nil => exact List.Sublist.refl _
          | cons e ps ih =>
            rw [List.filterMap_cons]
            unfold keyOf
            split
            · rename_i h; split at h
              · cases h
              · exact List.Sublist.cons _ ih
            · rename_i b h; split at h
              · injection h with h; subst h; exact List.Sublist.cons_cons _ ih
              · cases h
        exact ((HP1.out.map Ent.k).nodup_iff.2 HO.out.1.once).sublist h1
      rw [← HZ.out, hz2] at hnd
      have hcov : ∀ x : Nat × List Int, x ∈ zs.map BO.key ↔ x ∈ outB fL s tb.length := fun x => by
        rw [mem_outB, HZ.out, List.mem_filterMap]
        constructor
        · rintro ⟨e, he, hk⟩
          unfold keyOf at hk
          split at hk
          · rename_i hp
            injection hk with hk
            subst hk
            exact ⟨HO.out.2.1 e (HP1.out.mem_iff.1 he), rfl, hp⟩
          · cases hk
        · rintro ⟨h1, h2, h3⟩
          by_cases hin : ∃ e ∈ D.l, e.k = x.1
          · obtain ⟨e, he, hek⟩ := hin
            refine ⟨e, HP1.out.mem_iff.2 he, ?_⟩
            unfold keyOf
            rw [hek, if_pos h3, ← h2]
          · have := HO.out.2.2 x.1 h1 (fun e he hk => hin ⟨e, he, hk⟩)
            rw [this, HN1.out] at h3
            simp at h3
      have SB : ∀ (G : List HP) w1, St w0 (HP.arr 48 2 (.slice a zs.length cap) zs.length (batC (zs.map BO.bat)) :: G) w1 → Calls Try.prog 66 #[.slice a zs.length cap, .func (.func 67) #[] #[]] w1 fun e w' => e = .returned (.tuple #[]) ∧
          ∃ l', l'.Perm (zs.map BO.bat) ∧ l'.Pairwise (fun x y => x.c < y.c) ∧ St w0 (HP.arr 48 2 (.slice a zs.length cap) l'.length (batC l') :: G) w' := fun G w1 h1 => by
        have h2 := sortB_any w0 w1 G a cap (zs.map BO.bat) (fun x hx => by
            obtain ⟨z, hz, rfl⟩ := List.mem_map.1 hx
            have := (hz1 z hz).1
            show z.c ≤ 1000
            omega) (by rw [List.map_map]; exact hnd) (fun x hx => by
            obtain ⟨z, hz, rfl⟩ := List.mem_map.1 hx
            exact HV.out z hz) (by
            have h3 : (zs.map BO.c).length ≤ tb.length := by
              have h4 : (zs.map BO.c).Subset (List.range tb.length) := fun k hk => by
                obtain ⟨z, hz, rfl⟩ := List.mem_map.1 hk
                exact List.mem_range.2 (hz1 z hz).1
              exact nodup_lt_len tb.length _ hnd fun k hk => List.mem_range.1 (h4 hk)
            rw [List.length_map] at h3 ⊢
            omega) (by rw [List.length_map]; exact h1)
        rw [List.length_map] at h2
        exact h2
      have S2 : St w0 (HP.arr 48 2 (.slice a zs.length cap) zs.length (batC (zs.map BO.bat)) :: (zs.map BO.P ++ (headP c tb.length bud D :: HP.at D.bm (.map (entsA D.l) D.clock) :: HP.arr 43 3 (.slice D.ta tb.length D.tcap) tb.length (clsC tb) :: (D.l.map (entP (doneS (fun k => fF (Bt tb k)) s ps)) ++ F)))) wr := by
        refine (HS.out.drop).perm ?_
        simp only [HP.big, HP.big_append, batsZ]
        ac_rfl
      have SB2 := Lib.hid (SB _ _ S2)
      have CV := Lib.hid hcov
      have ES : D.l.map (entP (doneS (fun k => fF (Bt tb k)) s ps)) = D.l.map (entP fun k => fF (Bt tb k) (s k)) := List.map_congr_left fun x hx => by
        unfold entP doneS
        rw [if_pos (List.mem_map_of_mem (HP1.out.mem_iff.2 hx))]
      have ES := Lib.hid ES
      clear hz1 hz2 hnd hcov SB S2 HZ HS HP1 hd
      go_wp2_with fail
      refine SB2.out.mono ?_
      rintro e w2 ⟨rfl, l', hp, hsrt, hst⟩
      go_wp2_with fail
      go_ret
      obtain ⟨zs', hzp, hzm⟩ := perm_map_lift BO.bat hp
      subst hzm
      have hkeys : zs'.map BO.key = outB fL s tb.length := by
        refine sorted_ext ?_ (outB_sorted _ _ _) fun x => ?_
        · rw [List.pairwise_map] at hsrt ⊢
          exact hsrt
        · rw [(hzp.map BO.key).mem_iff]
          exact CV.out x
      have hln : (outB fL s tb.length).length = zs'.length := by rw [← hkeys, List.length_map]
      have hln2 : zs'.length = zs.length := hzp.length_eq
      rw [hln, hln2]
      refine ⟨a, cap, rfl, ?_⟩
      have g1 : St w0 (batsZ (.slice a zs'.length cap) zs' :: headP c tb.length bud D :: HP.at D.bm (.map (entsA D.l) D.clock) :: HP.arr 43 3 (.slice D.ta tb.length D.tcap) tb.length (clsC tb) :: (D.l.map (entP fun k => fF (Bt tb k) (s k)) ++ F)) w2 := by
        rw [ES.out, List.length_map, ← hln2] at hst
        refine hst.perm ?_
        have := HP.big_perm (hzp.map BO.P)
        simp only [HP.big, HP.big_append, batsZ, this]
        ac_rfl
      rw [hln2] at g1
      have g2 : St w0 (batsP (.slice a zs.length cap) (outB fL s tb.length) :: headP c tb.length bud D :: HP.at D.bm (.map (entsA D.l) D.clock) :: HP.arr 43 3 (.slice D.ta tb.length D.tcap) tb.length (clsC tb) :: (D.l.map (entP fun k => fF (Bt tb k) (s k)) ++ F)) w2 := St.ex.2 ⟨⟨zs', hkeys⟩, g1⟩
      have ho2 : D.ok tb.length (fun k => fF (Bt tb k) (s k)) := ⟨HO.out.1, HO.out.2.1, fun k hk hn => by
        show fF (Bt tb k) (s k) = CL.new
        rw [HO.out.2.2 k hk hn, HN2.out]⟩
      have g3 := cache_shut (F := batsP (.slice a zs.length cap) (outB fL s tb.length) :: F) ho2 (g2.perm (by simp only [HP.big, HP.big_append]; ac_rfl))
      exact g3.swap
    · intro x w2 hx hs2 hen
      have hxl : x ∈ D.l := (List.mem_filter.1 hx).1
      have hxN := HO.out.2.1 x hxl
      obtain ⟨cl, hcl⟩ : ∃ cl, tb[x.k]? = some cl := ⟨tb[x.k], List.getElem?_eq_getElem hxN⟩
      have hb := Bt_of HT.out hcl
      have hB := Lib.hid (Bt_range HT.out x.k)
      have hnp : x.k ∉ ps.map Ent.k := by
        have h1 := (HP1.out.map Ent.k).nodup_iff.2 HO.out.1.once
        rw [List.map_append, List.nodup_append] at h1
        intro h2
        exact h1.2.2 _ h2 _ (List.mem_map_of_mem hx) rfl
      have hsx : doneS (fun k => fF (Bt tb k)) s ps x.k = s x.k := doneS_not hnp
      obtain ⟨R, e1, e2, e3⟩ := St.entry (w0 := w0) (s := doneS (fun k => fF (Bt tb k)) s ps) hxl HO.out.1.once
      rw [hsx] at e1
      have hpush := leftE_push HO.out.1 hx
      -- what is so behind this round
      have HL2 := Lib.hid (show (leftE D.l (seen.push x.t)).length ≤ gk - 1 by
        have h1 := hpush.length_eq
        rw [List.length_cons] at h1
        have h2 := HL.out
        omega)
      have HG0 := Lib.hid (show 0 < gk by
        have h1 := hpush.length_eq
        rw [List.length_cons] at h1
        have h2 := HL.out
        omega)
      have HP2 : Hid ((ps ++ [x] ++ leftE D.l (seen.push x.t)).Perm D.l) := Lib.hid (by
        refine List.Perm.trans ?_ HP1.out
        rw [List.append_assoc]
        exact (List.Perm.append_left ps hpush.symm))
      obtain ⟨d0, _, _⟩ := St.cells3 (hs2.front 2)
      obtain ⟨tbb, toff, tcap, tv, _, _, t2⟩ := tb_cells (HP.arr_reads (hs2.front 3)) hcl
      rw [tv] at d0
      rw [hb] at t2
      have i0' : (0 : Int) ≤ (x.k : Int) := by omega
      have i1' : (x.k : Int) < (tb.length : Int) := by omega
      have g0 : St w0 (lstP x.b (s x.k) :: (R ++ (HP.at w.heap.size (.mapIter (some D.bm) D.clock (seen.push x.t) D.clock) :: HP.at D.bm (.map (entsA D.l) D.clock) :: headP c tb.length bud D :: HP.arr 43 3 (.slice D.ta tb.length D.tcap) tb.length (clsC tb) :: batsZ (.slice a zs.length cap) zs :: F))) w2 :=
        e1 _ _ (hs2.perm (by simp only [HP.big, HP.big_append]; ac_rfl))
      have C := Lib.hid (HR.out _ w2 x.b (s x.k) (Bt tb x.k) (HOK.out x.k) hB.out g0)
      have E3 := Lib.hid e3
      have HX := Lib.hid hx
      clear hs1 hs2 HL HP1 HC HS hpush e1 e2 e3 hsx hnp hcl hb tv g0 hx hxl HR
      go_wp2_with fail
      refine C.out.mono ?_
      rintro e w3 ⟨a4, c4, rfl, g1⟩
      have g2 := E3.out _ _ _ (g1.swap.perm (L' := lstP x.b (fF (Bt tb x.k) (s x.k)) :: (R ++ (intsP (.slice a4 (fL (s x.k)).length c4) (fL (s x.k)) :: HP.at w.heap.size (.mapIter (some D.bm) D.clock (seen.push x.t) D.clock) :: HP.at D.bm (.map (entsA D.l) D.clock) :: headP c tb.length bud D :: HP.arr 43 3 (.slice D.ta tb.length D.tcap) tb.length (clsC tb) :: batsZ (.slice a zs.length cap) zs :: F))) (by simp only [HP.big, HP.big_append]; ac_rfl))
      have eD : updC (doneS (fun k => fF (Bt tb k)) s ps) x.k (fF (Bt tb x.k) (s x.k)) = doneS (fun k => fF (Bt tb k)) s (ps ++ [x]) := doneS_add.symm
      rw [eD] at g2
      clear eD g1 C E3
      by_cases hpos : 0 < (fL (s x.k)).length
      · have j0 : decide ((0 : Int) < ((fL (s x.k)).length : Int)) = true := decide_eq_true (by omega)
        have j0' : decide (0 < (fL (s x.k)).length) = true := decide_eq_true hpos
        have g3 : St w0 (HP.arr 48 2 (.slice a zs.length cap) zs.length (batC (zs.map BO.bat)) :: _) w3 := g2.perm (L' := HP.arr 48 2 (.slice a zs.length cap) zs.length (batC (zs.map BO.bat)) :: (zs.map BO.P ++ (intsP (.slice a4 (fL (s x.k)).length c4) (fL (s x.k)) :: HP.at w.heap.size (.mapIter (some D.bm) D.clock (seen.push x.t) D.clock) :: HP.at D.bm (.map (entsA D.l) D.clock) :: headP c tb.length bud D :: HP.arr 43 3 (.slice D.ta tb.length D.tcap) tb.length (clsC tb) :: (D.l.map (entP (doneS (fun k => fF (Bt tb k)) s (ps ++ [x]))) ++ F)))) (by simp only [HP.big, HP.big_append, batsZ]; ac_rfl)
        have g4 := g3.newArr 48 2 1 [.int .i64 (x.k : Int), .slice a4 (fL (s x.k)).length c4] rfl (by decide)
        have hr := Lib.hid (HP.arr_reads g4)
        have g5 := Lib.hid g4.swap
        have hzl : zs.length ≤ 40 := by
          have h1 : zs.length ≤ ps.length := by
            have h2 := congrArg List.length HZ.out
            rw [List.length_map] at h2
            rw [h2]
            exact List.length_filterMap_le _ _
          have h3 := HP2.out.length_eq
          rw [List.length_append, List.length_append] at h3
          have h4 := nodup_lt_len tb.length (D.l.map Ent.k) HO.out.1.once fun k hk => by
            obtain ⟨e, he, rfl⟩ := List.mem_map.1 hk
            exact HO.out.2.1 e he
          rw [List.length_map] at h4
          omega
        clear g2 g3 g4
        go_wp2_with (at_builtin; refine wpList_append_st rfl _ _ 45 rfl 48 i0 _ 2 32 Try.underlying45 HI.out Z0.out Z1.out Z2.out rfl _ _ rfl rfl zs.length (batC (zs.map BO.bat)) g5.out 1 [.int .i64 (x.k : Int), .slice a4 (fL (s x.k)).length c4] hr.out (by intro u hu; simp at hu; rcases hu with rfl | rfl <;> rfl) (by unfold maxLen; omega) (by omega) ?_; intro v' w' hs' hv'; obtain ⟨a3, cap3, rfl⟩ := (HP.arr_reads hs').form; have HS9 := Lib.hid hs'; clear hs' hv')
        go_roundg (gk - 1)
        case measure => have := HG0.out; omega
        case rel =>
          have ez : (zs ++ [(⟨x.k, .slice a4 (fL (s x.k)).length c4, fL (s x.k)⟩ : BO)]).length = zs.length + 1 := by rw [List.length_append]; rfl
          refine ⟨ps ++ [x], seen.push x.t, D.clock, zs ++ [⟨x.k, .slice a4 (fL (s x.k)).length c4, fL (s x.k)⟩], a3, cap3, by rw [ez], HL2, HP2, Lib.hid (Nat.le_refl _), Lib.hid ?_, Lib.hid ?_, Lib.hid ?_⟩
          · rw [List.map_append, HZ.out, List.filterMap_append]
            congr 1
            show _ = List.filterMap (keyOf fL s) [x]
            rw [List.filterMap_cons]
            unfold keyOf
            rw [if_pos hpos]
            rfl
          · intro z hz
            rcases List.mem_append.1 hz with hz | hz
            · exact HV.out z hz
            · rw [List.mem_singleton.1 hz]; rfl
          · have h9 := HS9.out.swap.drop
            refine h9.perm ?_
            simp only [HP.big, HP.big_append, batsZ, List.map_append, List.map_cons, List.map_nil, ez, batC, List.flatMap_append, List.flatMap_cons, List.flatMap_nil, List.append_nil]
            simp only [BO.P, BO.bat, encB, HP.sep_emp]
            ac_rfl
      · have j0 : decide ((0 : Int) < ((fL (s x.k)).length : Int)) = false := decide_eq_false (by omega)
        have j0' : decide (0 < (fL (s x.k)).length) = false := decide_eq_false hpos
        have G9 := Lib.hid g2
        clear g2
        go_wp2_with fail
        go_roundg (gk - 1)
        case measure => have := HG0.out; omega
        case rel =>
          refine ⟨ps ++ [x], seen.push x.t, D.clock, zs, a, cap, rfl, HL2, HP2, Lib.hid (Nat.le_refl _), Lib.hid ?_, HV, Lib.hid ?_⟩
          · rw [HZ.out, List.filterMap_append]
            have : List.filterMap (keyOf fL s) [x] = [] := by
              rw [List.filterMap_cons]
              unfold keyOf
              rw [if_neg hpos]
              rfl
            rw [this, List.append_nil]
          · have h9 := G9.out.perm (L' := intsP (.slice a4 (fL (s x.k)).length c4) (fL (s x.k)) :: HP.at w.heap.size (.mapIter (some D.bm) D.clock (seen.push x.t) D.clock) :: HP.at D.bm (.map (entsA D.l) D.clock) :: headP c tb.length bud D :: HP.arr 43 3 (.slice D.ta tb.length D.tcap) tb.length (clsC tb) :: batsZ (.slice a zs.length cap) zs :: (D.l.map (entP (doneS (fun k => fF (Bt tb k)) s (ps ++ [x]))) ++ F)) (by simp only [HP.big, HP.big_append]; ac_rfl)
            exact h9.drop
end Go.Proofs.Ytaejojbdkgccpaa

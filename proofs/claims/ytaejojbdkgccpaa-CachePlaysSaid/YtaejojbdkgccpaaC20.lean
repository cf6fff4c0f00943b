/-
  Clone.
-/
import Derived.Test.YtaejojbdkgccpaaC19
namespace Go.Proofs.Ytaejojbdkgccpaa
open Go.RowKit Go.Maps Go.ChangeMaps

/-- a new key is stored, at a step of a region that draws -/
theorem step_mapUpdate_st {P : Program} {w w0 : World} {ops : Array Oper} {o : Oper} {a : Act} {K : Act → World → Prop} {Q : Exit → Act → World → Prop} {E : Prop} {bm clock : Nat} {l : List Ent} {L : List HP} {k e : TypeId}
    (hg : o.guard = none) (m x v : Operand) (t : TypeId) (hop : o.op = Op.mapUpdate t m x v) (ht : P.underlying t = some (.map k e)) (hk : P.underlying k = some (.int .i64)) (c b : Nat)
    (hm : a.eval m = .map (some bm)) (hx : a.eval x = .int .i64 (c : Int)) (hv : a.eval v = .pointer (some ⟨b, 0, none⟩))
    (h : St w0 (HP.at bm (.map (entsA l) clock) :: L) w) (ho : MapOk l clock) (hc : c ≤ 9223372036854775807) (hn : ∀ x ∈ l, x.k ≠ c)
    (hK : ∀ w', St w0 (HP.at bm (.map (entsA (l ++ [⟨c, b, clock⟩])) (clock + 1)) :: L) w' → K (a.put o.dst undef) w') :
    if Region.wanted o (yielded ops a.tmps) = true then Oper.wp P o a w K Q else E := by
  have hw : Region.wanted o (yielded ops a.tmps) = true := by simp [Region.wanted, hg]
  rw [if_pos hw]
  obtain ⟨w', hrun, hs⟩ := h.mapStore (P := P) (v := b) ht hk ho hc hn
  unfold Oper.wp
  simp [execOp, hop, hm, hx, hv, hrun, Result.andThen]
  exact hK w' hs
theorem head_cells {w0 w : World} {F : List HP} {A : HP} {c N : Nat} {bud : Int} {D : CD} (h : St w0 (A :: headP c N bud D :: F) w) : w.cell? ⟨c, 0, none⟩ = some (.slice D.ta N D.tcap) ∧ w.cell? ⟨c, 1, none⟩ = some (.int .i64 bud) := by
  obtain ⟨a, b, _⟩ := St.cells3 (h.front 1)
  exact ⟨a, b⟩
theorem keep_cells {w0 w : World} {A B : HP} {R G : List HP} {x b N m p2 : Nat} {a2 : Option Addr} {bud : Int} {u0 u1 u2 : Value} {I J K : HP} (h : St w0 (A :: HP.blk x #[u0, u1, u2] 72 :: B :: (R ++ (I :: J :: K :: headP b N bud ⟨m, 0, [], a2, p2⟩ :: G))) w) :
    w.cell? ⟨b, 2, none⟩ = some (.map (some m)) ∧ w.cell? ⟨x, 0, none⟩ = some u0 ∧ w.cell? ⟨x, 1, none⟩ = some u1 ∧ w.cell? ⟨x, 2, none⟩ = some u2 := by
  obtain ⟨y0, y1, y2⟩ := St.cells3 (h.front 1)
  have h2 : St w0 (headP b N bud ⟨m, 0, [], a2, p2⟩ :: (A :: HP.blk x #[u0, u1, u2] 72 :: B :: (R ++ (I :: J :: K :: G)))) w := h.perm (by simp only [HP.big, HP.big_append]; ac_rfl)
  exact ⟨(St.cells3 h2).2.2, y0, y1, y2⟩
theorem keep_cells2 {w0 w : World} {K N A B : HP} {R G : List HP} {x b M m p2 : Nat} {a2 : Option Addr} {bud : Int} {u0 u1 u2 : Value} {I J : HP} (h : St w0 (K :: N :: A :: HP.blk x #[u0, u1, u2] 72 :: B :: (R ++ (I :: J :: headP b M bud ⟨m, 0, [], a2, p2⟩ :: G))) w) :
    w.cell? ⟨b, 2, none⟩ = some (.map (some m)) ∧ w.cell? ⟨x, 0, none⟩ = some u0 ∧ w.cell? ⟨x, 1, none⟩ = some u1 ∧ w.cell? ⟨x, 2, none⟩ = some u2 := by
  obtain ⟨y0, y1, y2⟩ := St.cells3 (h.front 3)
  have h2 : St w0 (headP b M bud ⟨m, 0, [], a2, p2⟩ :: (K :: N :: A :: HP.blk x #[u0, u1, u2] 72 :: B :: (R ++ (I :: J :: G)))) w := h.perm (by simp only [HP.big, HP.big_append]; ac_rfl)
  exact ⟨(St.cells3 h2).2.2, y0, y1, y2⟩
theorem keep_map {w0 w : World} {A B C I J K : HP} {R G : List HP} (h : St w0 (A :: B :: C :: (R ++ (I :: J :: K :: G))) w) (cs : Array Value) :
    St w0 (K :: HP.blk w.heap.size cs 72 :: A :: B :: C :: (R ++ (I :: J :: G))) (w.alloc (.cells cs 72)) :=
  (h.allocRow cs 72).perm (by simp only [HP.big, HP.big_append]; ac_rfl)
set_option maxRecDepth 10000 in
set_option maxHeartbeats 4000000 in
theorem clone_any (w0 w : World) (F : List HP) (c : Nat) (tb : List Cls) (bud : Int) (s : Nat → CL) (ht : tbOk tb) (hok : ∀ k, (s k).ok) (hs : St w0 (cacheP c tb bud s :: F) w) :
    Calls Try.prog 31 #[.pointer (some ⟨c, 0, none⟩)] w fun e w' => ∃ c', e = .returned (.pointer (some ⟨c', 0, none⟩)) ∧ St w0 (cacheP c' tb bud s :: cacheP c tb bud s :: F) w' := by
  obtain ⟨D, ho, h⟩ := cache_open hs
  obtain ⟨c0, c1, c2⟩ := St.cells3 h
  clear hs
  have hN : tb.length ≤ 40 := ht.2.1
  have HOK := Lib.hid hok
  have HO := Lib.hid ho
  have hmk : ∀ w : World, (Instr.makeMap 63 none).run Try.prog w = .ok (.map (some w.heap.size)) (w.alloc (.map #[] 0)) := fun _ => rfl
  have T := Lib.hid fun w1 (G : List HP) (h1 : St w0 (headP c tb.length bud D :: HP.at D.bm (.map (entsA D.l) D.clock) :: HP.arr 43 3 (.slice D.ta tb.length D.tcap) tb.length (clsC tb) :: G) w1) => tclone_any w0 w1 _ D.ta tb.length D.tcap (clsC tb) h1 (HP.arr_reads (h1.front 2)) (clsC_one tb) (by omega)
  have H1 := Lib.hid h
  have h2 := h.drew
  have h3 := h2.alloc (.map #[] 0)
  have H3 := Lib.hid (h3.perm (L' := headP c tb.length bud D :: HP.at D.bm (.map (entsA D.l) D.clock) :: HP.arr 43 3 (.slice D.ta tb.length D.tcap) tb.length (clsC tb) :: HP.at w.heap.size (.map #[] 0) :: (D.l.map (entP s) ++ F)) (by simp only [HP.big, HP.big_append]; ac_rfl))
  have H2 := Lib.hid h2
  clear h h2 h3 ht hok ho
  go_enter Try.func31, Try.ntmps31
  go_wp2_with (first | (go_at_call 47; refine (cmade_true _ _ _ c2).mono ?_; rintro e w' ⟨rfl, rfl⟩))
  go_region_held3 (fun w' => w'.cell? ⟨c, 0, none⟩ = some (.slice D.ta tb.length D.tcap) ∧ w'.cell? ⟨c, 1, none⟩ = some (.int .i64 bud)) (first | exact head_cells (by assumption) | go_keep)
    (first
      | (go_at_call 49; refine (T.out _ _ H2.out).mono ?_; rintro e w2 ⟨a2, p2, rfl, h5⟩)
      | (go_at_call 49; refine (T.out _ _ H3.out).mono ?_; rintro e w2 ⟨a2, p2, rfl, h6⟩))
  · have h7 := (h5.alloc (.map #[] 0)).allocRow #[.slice a2 tb.length p2, .int .i64 bud, .map (some w2.heap.size)] 65
    rw [show (w2.alloc (.map #[] 0)).heap.size = w2.heap.size + 1 by simp] at h7
    generalize hW : (w2.alloc (.map #[] 0)).alloc (.cells #[.slice a2 tb.length p2, .int .i64 bud, .map (some w2.heap.size)] 65) = wv at h7 ⊢
    clear hW
    have HH : Hid (St w0 (headP (w2.heap.size + 1) tb.length bud ⟨w2.heap.size, 0, [], a2, p2⟩ :: HP.at w2.heap.size (.map (entsA []) 0) :: HP.arr 43 3 (.slice a2 tb.length p2) tb.length (clsC tb) :: HP.at D.bm (.map (entsA D.l) D.clock) :: headP c tb.length bud D :: HP.arr 43 3 (.slice D.ta tb.length D.tcap) tb.length (clsC tb) :: (D.l.map (entP s) ++ F)) wv) := Lib.hid (h7.perm (by
      show HP.big (headP (w2.heap.size + 1) tb.length bud ⟨w2.heap.size, 0, [], a2, p2⟩ :: _) = _
      rw [show entsA [] = #[] from rfl]
      simp only [HP.big, HP.big_append]
      ac_rfl))
    clear h7
    generalize (w2.heap.size + 1) = b at *
    generalize w2.heap.size = m at *
    have hrg : (Instr.range 63 (.map (some D.bm))).run Try.prog wv = .ok (.pointer (some ⟨wv.heap.size, 0, none⟩)) (wv.alloc (.mapIter (some D.bm) D.clock #[] D.clock)) := run_range_map wv 63 3 68 D.bm (entsA D.l) D.clock Try.underlying63 (HH.out.front 3).block.2
    obtain ⟨z0, z1, z2⟩ := St.cells3 (HH.out.front 4)
    have HH2 := Lib.hid (HH.out.alloc (.mapIter (some D.bm) D.clock #[] D.clock))
    clear HH c0 c1 c2 H1 H2 H3 T hmk
    go_wp2_with fail
    go_loopg [4] D.l.length (fun n _ wr => ∃ (ps : List Ent) (seen : Array Nat) (cc : Nat) (l2 : List Ent) (ck : Nat), Hid ((leftE D.l seen).length ≤ n) ∧ Hid ((ps ++ leftE D.l seen).Perm D.l) ∧ Hid (D.clock ≤ cc) ∧ Hid (l2.map Ent.k = ps.map Ent.k) ∧ Hid (MapOk l2 ck) ∧
      Hid (St w0 (HP.at wv.heap.size (.mapIter (some D.bm) D.clock seen cc) :: HP.at D.bm (.map (entsA D.l) D.clock) :: HP.at m (.map (entsA l2) ck) :: headP b tb.length bud ⟨m, 0, [], a2, p2⟩ :: HP.arr 43 3 (.slice a2 tb.length p2) tb.length (clsC tb) :: headP c tb.length bud D :: HP.arr 43 3 (.slice D.ta tb.length D.tcap) tb.length (clsC tb) :: (D.l.map (entP s) ++ (l2.map (entP s) ++ F))) wr))
    case atStart =>
      refine ⟨[], #[], D.clock, [], 0, Lib.hid (by rw [leftE_start]; exact Nat.le_refl _), Lib.hid (by rw [leftE_start]; exact List.Perm.refl _), Lib.hid (Nat.le_refl _), Lib.hid rfl, Lib.hid MapOk.nil, Lib.hid (HH2.out.perm ?_)⟩
      simp only [HP.big, HP.big_append, List.map_nil, List.nil_append]
      ac_rfl
    case round =>
      clear z0 z1 z2 hrg HH2
      obtain ⟨ps, seen, cc, l2, ck, HL, HP1, HC, HK, HM, HS⟩ := hrel
      have hs1 := HS.out
      go_wp2_with (first
        | (at_next; refine wpList_next_st rfl _ rfl rfl hs1 HO.out.1 HO.out.1.past HC.out ?_ ?_))
      · intro hd
        rw [hd, List.append_nil] at HP1
        have hkp : (l2.map Ent.k).Perm (D.l.map Ent.k) := by rw [HK.out]; exact HP1.out.map _
        have ho2 : (⟨m, ck, l2, a2, p2⟩ : CD).ok tb.length s := ⟨HM.out, fun x hx => by
            obtain ⟨y, hy, e⟩ := List.mem_map.1 (hkp.mem_iff.1 (List.mem_map_of_mem (f := Ent.k) hx))
            rw [← e]
            exact HO.out.2.1 y hy, fun k hk hn => HO.out.2.2 k hk fun x hx e => by
            obtain ⟨y, hy, e2⟩ := List.mem_map.1 (hkp.mem_iff.2 (List.mem_map_of_mem (f := Ent.k) hx))
            exact hn y hy (by rw [e2, e])⟩
        have g1 := cache_shut (F := D.l.map (entP s) ++ (headP c tb.length bud D :: HP.at D.bm (.map (entsA D.l) D.clock) :: HP.arr 43 3 (.slice D.ta tb.length D.tcap) tb.length (clsC tb) :: F)) ho2 ((hs1.drop).perm (by
          show _ = HP.big (headP b tb.length bud ⟨m, 0, [], a2, p2⟩ :: _)
          simp only [HP.big, HP.big_append]
          ac_rfl))
        have g2 := cache_shut (F := cacheP b tb bud s :: F) HO.out (g1.perm (by simp only [HP.big, HP.big_append]; ac_rfl))
        have G := Lib.hid g2.swap
        clear hs1 HL HC HS HP1 HK HM hd hkp ho2 g1 g2
        go_wp2_with fail
        go_ret
        exact ⟨b, rfl, G.out⟩
      · intro x w3 hx hs2 hen
        have hxl : x ∈ D.l := (List.mem_filter.1 hx).1
        have hxN := HO.out.2.1 x hxl
        obtain ⟨R, e1, e2, e3⟩ := St.entry (w0 := w0) (s := s) hxl HO.out.1.once
        have hpush := leftE_push HO.out.1 hx
        have HL2 := Lib.hid (show (leftE D.l (seen.push x.t)).length ≤ gk - 1 by
          have h1 := hpush.length_eq
          rw [List.length_cons] at h1
          have h2 := HL.out
          omega)
        have HG0 := Lib.hid (show 0 < gk by
          have h1 := hpush.length_eq
          rw [List.length_cons] at h1
          have h2 := HL.out
          omega)
        have hnp : x.k ∉ ps.map Ent.k := by
          have h1 := (HP1.out.map Ent.k).nodup_iff.2 HO.out.1.once
          rw [List.map_append, List.nodup_append] at h1
          intro h2
          exact h1.2.2 _ h2 _ (List.mem_map_of_mem hx) rfl
        have HN := Lib.hid (show ∀ y ∈ l2, y.k ≠ x.k from fun y hy e => hnp (by rw [← HK.out, ← e]; exact List.mem_map_of_mem hy))
        have HP2 : Hid ((ps ++ [x] ++ leftE D.l (seen.push x.t)).Perm D.l) := Lib.hid (by
          refine List.Perm.trans ?_ HP1.out
          rw [List.append_assoc]
          exact (List.Perm.append_left ps hpush.symm))
        obtain ⟨d0, d1, d2⟩ := St.cells3 (hs2.front 3)
        have g0 : St w0 (lstP x.b (s x.k) :: (R ++ (HP.at wv.heap.size (.mapIter (some D.bm) D.clock (seen.push x.t) D.clock) :: HP.at D.bm (.map (entsA D.l) D.clock) :: HP.at m (.map (entsA l2) ck) :: headP b tb.length bud ⟨m, 0, [], a2, p2⟩ :: HP.arr 43 3 (.slice a2 tb.length p2) tb.length (clsC tb) :: headP c tb.length bud D :: HP.arr 43 3 (.slice D.ta tb.length D.tcap) tb.length (clsC tb) :: (l2.map (entP s) ++ F)))) w3 :=
          e1 _ _ (hs2.perm (by simp only [HP.big, HP.big_append]; ac_rfl))
        obtain ⟨a, cap, g⟩ := lst_open g0
        obtain ⟨y0, y1, y2⟩ := g.cells3
        have hok := HOK.out x.k
        have E2 : Hid (∀ w9 (bb : Nat) (v : Value), St w0 (HP.at m (.map (entsA (l2 ++ [(⟨x.k, bb, ck⟩ : Ent)])) (ck + 1)) :: HP.blk bb #[v, .int .i64 (s x.k).lim, .int .i64 (s x.k).low] 72 :: intsP v (s x.k).objs :: HP.blk x.b #[.slice a (s x.k).objs.length cap, .int .i64 (s x.k).lim, .int .i64 (s x.k).low] 72 :: intsP (.slice a (s x.k).objs.length cap) (s x.k).objs :: (R ++ (HP.at wv.heap.size (.mapIter (some D.bm) D.clock (seen.push x.t) D.clock) :: HP.at D.bm (.map (entsA D.l) D.clock) :: headP b tb.length bud ⟨m, 0, [], a2, p2⟩ :: HP.arr 43 3 (.slice a2 tb.length p2) tb.length (clsC tb) :: headP c tb.length bud D :: HP.arr 43 3 (.slice D.ta tb.length D.tcap) tb.length (clsC tb) :: (l2.map (entP s) ++ F)))) w9 →
            St w0 (HP.at wv.heap.size (.mapIter (some D.bm) D.clock (seen.push x.t) D.clock) :: HP.at D.bm (.map (entsA D.l) D.clock) :: HP.at m (.map (entsA (l2 ++ [(⟨x.k, bb, ck⟩ : Ent)])) (ck + 1)) :: headP b tb.length bud ⟨m, 0, [], a2, p2⟩ :: HP.arr 43 3 (.slice a2 tb.length p2) tb.length (clsC tb) :: headP c tb.length bud D :: HP.arr 43 3 (.slice D.ta tb.length D.tcap) tb.length (clsC tb) :: (D.l.map (entP s) ++ ((l2 ++ [(⟨x.k, bb, ck⟩ : Ent)]).map (entP s) ++ F))) w9) := Lib.hid fun w9 bb v q => by
          have q0 : St w0 (HP.blk bb #[v, .int .i64 (s x.k).lim, .int .i64 (s x.k).low] 72 :: intsP v (s x.k).objs :: HP.blk x.b #[.slice a (s x.k).objs.length cap, .int .i64 (s x.k).lim, .int .i64 (s x.k).low] 72 :: intsP (.slice a (s x.k).objs.length cap) (s x.k).objs :: HP.at m (.map (entsA (l2 ++ [(⟨x.k, bb, ck⟩ : Ent)])) (ck + 1)) :: (R ++ (HP.at wv.heap.size (.mapIter (some D.bm) D.clock (seen.push x.t) D.clock) :: HP.at D.bm (.map (entsA D.l) D.clock) :: headP b tb.length bud ⟨m, 0, [], a2, p2⟩ :: HP.arr 43 3 (.slice a2 tb.length p2) tb.length (clsC tb) :: headP c tb.length bud D :: HP.arr 43 3 (.slice D.ta tb.length D.tcap) tb.length (clsC tb) :: (l2.map (entP s) ++ F)))) w9 := q.perm (by simp only [HP.big, HP.big_append]; ac_rfl)
          have q1 : St w0 (lstP bb (s x.k) :: HP.blk x.b #[.slice a (s x.k).objs.length cap, .int .i64 (s x.k).lim, .int .i64 (s x.k).low] 72 :: intsP (.slice a (s x.k).objs.length cap) (s x.k).objs :: HP.at m (.map (entsA (l2 ++ [(⟨x.k, bb, ck⟩ : Ent)])) (ck + 1)) :: (R ++ (HP.at wv.heap.size (.mapIter (some D.bm) D.clock (seen.push x.t) D.clock) :: HP.at D.bm (.map (entsA D.l) D.clock) :: headP b tb.length bud ⟨m, 0, [], a2, p2⟩ :: HP.arr 43 3 (.slice a2 tb.length p2) tb.length (clsC tb) :: headP c tb.length bud D :: HP.arr 43 3 (.slice D.ta tb.length D.tcap) tb.length (clsC tb) :: (l2.map (entP s) ++ F)))) w9 := lst_shut q0
          have q2 : St w0 (lstP x.b (s x.k) :: lstP bb (s x.k) :: HP.at m (.map (entsA (l2 ++ [(⟨x.k, bb, ck⟩ : Ent)])) (ck + 1)) :: (R ++ (HP.at wv.heap.size (.mapIter (some D.bm) D.clock (seen.push x.t) D.clock) :: HP.at D.bm (.map (entsA D.l) D.clock) :: headP b tb.length bud ⟨m, 0, [], a2, p2⟩ :: HP.arr 43 3 (.slice a2 tb.length p2) tb.length (clsC tb) :: headP c tb.length bud D :: HP.arr 43 3 (.slice D.ta tb.length D.tcap) tb.length (clsC tb) :: (l2.map (entP s) ++ F)))) w9 := lst_shut q1.rot'
          have q3 := e2 (lstP bb (s x.k) :: HP.at m (.map (entsA (l2 ++ [(⟨x.k, bb, ck⟩ : Ent)])) (ck + 1)) :: HP.at wv.heap.size (.mapIter (some D.bm) D.clock (seen.push x.t) D.clock) :: HP.at D.bm (.map (entsA D.l) D.clock) :: headP b tb.length bud ⟨m, 0, [], a2, p2⟩ :: HP.arr 43 3 (.slice a2 tb.length p2) tb.length (clsC tb) :: headP c tb.length bud D :: HP.arr 43 3 (.slice D.ta tb.length D.tcap) tb.length (clsC tb) :: (l2.map (entP s) ++ F)) w9 (q2.perm (by simp only [HP.big, HP.big_append]; ac_rfl))
          have q4 : St w0 (lstP (⟨x.k, bb, ck⟩ : Ent).b (s (⟨x.k, bb, ck⟩ : Ent).k) :: (l2.map (entP s) ++ (D.l.map (entP s) ++ (HP.at m (.map (entsA (l2 ++ [(⟨x.k, bb, ck⟩ : Ent)])) (ck + 1)) :: HP.at wv.heap.size (.mapIter (some D.bm) D.clock (seen.push x.t) D.clock) :: HP.at D.bm (.map (entsA D.l) D.clock) :: headP b tb.length bud ⟨m, 0, [], a2, p2⟩ :: HP.arr 43 3 (.slice a2 tb.length p2) tb.length (clsC tb) :: headP c tb.length bud D :: HP.arr 43 3 (.slice D.ta tb.length D.tcap) tb.length (clsC tb) :: F)))) w9 := q3.perm (by
            show _ = HP.big (lstP bb (s x.k) :: _)
            simp only [HP.big, HP.big_append]
            ac_rfl)
          exact (St.entryNew q4).perm (by simp only [HP.big, HP.big_append]; ac_rfl)
        have G := Lib.hid g.drew
        have CL2 := Lib.hid (sclone_any w0 _ _ a _ cap _ g.drew (HP.arr_reads (g.drew.front 1)) (intsC_one _) (by have := hok.2.2.2; omega))
        clear hs1 hs2 HL HP1 HC HS hpush e1 e2 e3 hnp hx hxl g g0 hok
        go_wp2_with fail
        go_region_held3 (fun w' => w'.cell? ⟨b, 2, none⟩ = some (.map (some m)) ∧ w'.cell? ⟨x.b, 0, none⟩ = some (.slice a (s x.k).objs.length cap) ∧ w'.cell? ⟨x.b, 1, none⟩ = some (.int .i64 (s x.k).lim) ∧ w'.cell? ⟨x.b, 2, none⟩ = some (.int .i64 (s x.k).low))
          (first | exact keep_cells2 h8 | exact keep_cells (by assumption) | go_keep)
          (first
            | (go_at_call 40; refine CL2.out.mono ?_; rintro e w4 ⟨a4, p4, rfl, h7⟩; obtain ⟨w5, hrun, h8⟩ := St.mapStore (P := Try.prog) (v := w4.heap.size) Try.underlying63 Try.underlying3 (keep_map h7 #[.slice a4 (s x.k).objs.length p4, .int .i64 (s x.k).lim, .int .i64 (s x.k).low]) HM.out (c := x.k) (by omega) HN.out))
        all_goals go_wp2_with fail
        all_goals go_roundg (gk - 1)
        all_goals first | (have := HG0.out; omega) | exact ⟨ps ++ [x], seen.push x.t, D.clock, l2 ++ [⟨x.k, w4.heap.size, ck⟩], ck + 1, HL2, HP2, Lib.hid (Nat.le_refl _), Lib.hid (by rw [List.map_append, List.map_append, HK.out]; rfl), Lib.hid (HM.out.add (by omega) HN.out), Lib.hid (E2.out _ w4.heap.size (.slice a4 (s x.k).objs.length p4) (h8.perm (by simp only [HP.big, HP.big_append, intsP] <;> ac_rfl)))⟩
  · have h7 := h6.allocRow #[.slice a2 tb.length p2, .int .i64 bud, .map (some w.heap.size)] 65
    generalize hW : w2.alloc (.cells #[.slice a2 tb.length p2, .int .i64 bud, .map (some w.heap.size)] 65) = wv at h7 ⊢
    clear hW
    have HH : Hid (St w0 (headP w2.heap.size tb.length bud ⟨w.heap.size, 0, [], a2, p2⟩ :: HP.at w.heap.size (.map (entsA []) 0) :: HP.arr 43 3 (.slice a2 tb.length p2) tb.length (clsC tb) :: HP.at D.bm (.map (entsA D.l) D.clock) :: headP c tb.length bud D :: HP.arr 43 3 (.slice D.ta tb.length D.tcap) tb.length (clsC tb) :: (D.l.map (entP s) ++ F)) wv) := Lib.hid (h7.perm (by
      show HP.big (headP w2.heap.size tb.length bud ⟨w.heap.size, 0, [], a2, p2⟩ :: _) = _
      rw [show entsA [] = #[] from rfl]
      simp only [HP.big, HP.big_append]
      ac_rfl))
    clear h7
    generalize w2.heap.size = b at *
    generalize w.heap.size = m at *
    have hrg : (Instr.range 63 (.map (some D.bm))).run Try.prog wv = .ok (.pointer (some ⟨wv.heap.size, 0, none⟩)) (wv.alloc (.mapIter (some D.bm) D.clock #[] D.clock)) := run_range_map wv 63 3 68 D.bm (entsA D.l) D.clock Try.underlying63 (HH.out.front 3).block.2
    obtain ⟨z0, z1, z2⟩ := St.cells3 (HH.out.front 4)
    have HH2 := Lib.hid (HH.out.alloc (.mapIter (some D.bm) D.clock #[] D.clock))
    clear HH c0 c1 c2 H1 H2 H3 T hmk
    go_wp2_with fail
    go_loopg [4] D.l.length (fun n _ wr => ∃ (ps : List Ent) (seen : Array Nat) (cc : Nat) (l2 : List Ent) (ck : Nat), Hid ((leftE D.l seen).length ≤ n) ∧ Hid ((ps ++ leftE D.l seen).Perm D.l) ∧ Hid (D.clock ≤ cc) ∧ Hid (l2.map Ent.k = ps.map Ent.k) ∧ Hid (MapOk l2 ck) ∧
      Hid (St w0 (HP.at wv.heap.size (.mapIter (some D.bm) D.clock seen cc) :: HP.at D.bm (.map (entsA D.l) D.clock) :: HP.at m (.map (entsA l2) ck) :: headP b tb.length bud ⟨m, 0, [], a2, p2⟩ :: HP.arr 43 3 (.slice a2 tb.length p2) tb.length (clsC tb) :: headP c tb.length bud D :: HP.arr 43 3 (.slice D.ta tb.length D.tcap) tb.length (clsC tb) :: (D.l.map (entP s) ++ (l2.map (entP s) ++ F))) wr))
    case atStart =>
      refine ⟨[], #[], D.clock, [], 0, Lib.hid (by rw [leftE_start]; exact Nat.le_refl _), Lib.hid (by rw [leftE_start]; exact List.Perm.refl _), Lib.hid (Nat.le_refl _), Lib.hid rfl, Lib.hid MapOk.nil, Lib.hid (HH2.out.perm ?_)⟩
      simp only [HP.big, HP.big_append, List.map_nil, List.nil_append]
      ac_rfl
    case round =>
      clear z0 z1 z2 hrg HH2
      obtain ⟨ps, seen, cc, l2, ck, HL, HP1, HC, HK, HM, HS⟩ := hrel
      have hs1 := HS.out
      go_wp2_with (first
        | (at_next; refine wpList_next_st rfl _ rfl rfl hs1 HO.out.1 HO.out.1.past HC.out ?_ ?_))
      · intro hd
        rw [hd, List.append_nil] at HP1
        have hkp : (l2.map Ent.k).Perm (D.l.map Ent.k) := by rw [HK.out]; exact HP1.out.map _
        have ho2 : (⟨m, ck, l2, a2, p2⟩ : CD).ok tb.length s := ⟨HM.out, fun x hx => by
            obtain ⟨y, hy, e⟩ := List.mem_map.1 (hkp.mem_iff.1 (List.mem_map_of_mem (f := Ent.k) hx))
            rw [← e]
            exact HO.out.2.1 y hy, fun k hk hn => HO.out.2.2 k hk fun x hx e => by
            obtain ⟨y, hy, e2⟩ := List.mem_map.1 (hkp.mem_iff.2 (List.mem_map_of_mem (f := Ent.k) hx))
            exact hn y hy (by rw [e2, e])⟩
        have g1 := cache_shut (F := D.l.map (entP s) ++ (headP c tb.length bud D :: HP.at D.bm (.map (entsA D.l) D.clock) :: HP.arr 43 3 (.slice D.ta tb.length D.tcap) tb.length (clsC tb) :: F)) ho2 ((hs1.drop).perm (by
          show _ = HP.big (headP b tb.length bud ⟨m, 0, [], a2, p2⟩ :: _)
          simp only [HP.big, HP.big_append]
          ac_rfl))
        have g2 := cache_shut (F := cacheP b tb bud s :: F) HO.out (g1.perm (by simp only [HP.big, HP.big_append]; ac_rfl))
        have G := Lib.hid g2.swap
        clear hs1 HL HC HS HP1 HK HM hd hkp ho2 g1 g2
        go_wp2_with fail
        go_ret
        exact ⟨b, rfl, G.out⟩
      · intro x w3 hx hs2 hen
        have hxl : x ∈ D.l := (List.mem_filter.1 hx).1
        have hxN := HO.out.2.1 x hxl
        obtain ⟨R, e1, e2, e3⟩ := St.entry (w0 := w0) (s := s) hxl HO.out.1.once
        have hpush := leftE_push HO.out.1 hx
        have HL2 := Lib.hid (show (leftE D.l (seen.push x.t)).length ≤ gk - 1 by
          have h1 := hpush.length_eq
          rw [List.length_cons] at h1
          have h2 := HL.out
          omega)
        have HG0 := Lib.hid (show 0 < gk by
          have h1 := hpush.length_eq
          rw [List.length_cons] at h1
          have h2 := HL.out
          omega)
        have hnp : x.k ∉ ps.map Ent.k := by
          have h1 := (HP1.out.map Ent.k).nodup_iff.2 HO.out.1.once
          rw [List.map_append, List.nodup_append] at h1
          intro h2
          exact h1.2.2 _ h2 _ (List.mem_map_of_mem hx) rfl
        have HN := Lib.hid (show ∀ y ∈ l2, y.k ≠ x.k from fun y hy e => hnp (by rw [← HK.out, ← e]; exact List.mem_map_of_mem hy))
        have HP2 : Hid ((ps ++ [x] ++ leftE D.l (seen.push x.t)).Perm D.l) := Lib.hid (by
          refine List.Perm.trans ?_ HP1.out
          rw [List.append_assoc]
          exact (List.Perm.append_left ps hpush.symm))
        obtain ⟨d0, d1, d2⟩ := St.cells3 (hs2.front 3)
        have g0 : St w0 (lstP x.b (s x.k) :: (R ++ (HP.at wv.heap.size (.mapIter (some D.bm) D.clock (seen.push x.t) D.clock) :: HP.at D.bm (.map (entsA D.l) D.clock) :: HP.at m (.map (entsA l2) ck) :: headP b tb.length bud ⟨m, 0, [], a2, p2⟩ :: HP.arr 43 3 (.slice a2 tb.length p2) tb.length (clsC tb) :: headP c tb.length bud D :: HP.arr 43 3 (.slice D.ta tb.length D.tcap) tb.length (clsC tb) :: (l2.map (entP s) ++ F)))) w3 :=
          e1 _ _ (hs2.perm (by simp only [HP.big, HP.big_append]; ac_rfl))
        obtain ⟨a, cap, g⟩ := lst_open g0
        obtain ⟨y0, y1, y2⟩ := g.cells3
        have hok := HOK.out x.k
        have E2 : Hid (∀ w9 (bb : Nat) (v : Value), St w0 (HP.at m (.map (entsA (l2 ++ [(⟨x.k, bb, ck⟩ : Ent)])) (ck + 1)) :: HP.blk bb #[v, .int .i64 (s x.k).lim, .int .i64 (s x.k).low] 72 :: intsP v (s x.k).objs :: HP.blk x.b #[.slice a (s x.k).objs.length cap, .int .i64 (s x.k).lim, .int .i64 (s x.k).low] 72 :: intsP (.slice a (s x.k).objs.length cap) (s x.k).objs :: (R ++ (HP.at wv.heap.size (.mapIter (some D.bm) D.clock (seen.push x.t) D.clock) :: HP.at D.bm (.map (entsA D.l) D.clock) :: headP b tb.length bud ⟨m, 0, [], a2, p2⟩ :: HP.arr 43 3 (.slice a2 tb.length p2) tb.length (clsC tb) :: headP c tb.length bud D :: HP.arr 43 3 (.slice D.ta tb.length D.tcap) tb.length (clsC tb) :: (l2.map (entP s) ++ F)))) w9 →
            St w0 (HP.at wv.heap.size (.mapIter (some D.bm) D.clock (seen.push x.t) D.clock) :: HP.at D.bm (.map (entsA D.l) D.clock) :: HP.at m (.map (entsA (l2 ++ [(⟨x.k, bb, ck⟩ : Ent)])) (ck + 1)) :: headP b tb.length bud ⟨m, 0, [], a2, p2⟩ :: HP.arr 43 3 (.slice a2 tb.length p2) tb.length (clsC tb) :: headP c tb.length bud D :: HP.arr 43 3 (.slice D.ta tb.length D.tcap) tb.length (clsC tb) :: (D.l.map (entP s) ++ ((l2 ++ [(⟨x.k, bb, ck⟩ : Ent)]).map (entP s) ++ F))) w9) := Lib.hid fun w9 bb v q => by
          have q0 : St w0 (HP.blk bb #[v, .int .i64 (s x.k).lim, .int .i64 (s x.k).low] 72 :: intsP v (s x.k).objs :: HP.blk x.b #[.slice a (s x.k).objs.length cap, .int .i64 (s x.k).lim, .int .i64 (s x.k).low] 72 :: intsP (.slice a (s x.k).objs.length cap) (s x.k).objs :: HP.at m (.map (entsA (l2 ++ [(⟨x.k, bb, ck⟩ : Ent)])) (ck + 1)) :: (R ++ (HP.at wv.heap.size (.mapIter (some D.bm) D.clock (seen.push x.t) D.clock) :: HP.at D.bm (.map (entsA D.l) D.clock) :: headP b tb.length bud ⟨m, 0, [], a2, p2⟩ :: HP.arr 43 3 (.slice a2 tb.length p2) tb.length (clsC tb) :: headP c tb.length bud D :: HP.arr 43 3 (.slice D.ta tb.length D.tcap) tb.length (clsC tb) :: (l2.map (entP s) ++ F)))) w9 := q.perm (by simp only [HP.big, HP.big_append]; ac_rfl)
          have q1 : St w0 (lstP bb (s x.k) :: HP.blk x.b #[.slice a (s x.k).objs.length cap, .int .i64 (s x.k).lim, .int .i64 (s x.k).low] 72 :: intsP (.slice a (s x.k).objs.length cap) (s x.k).objs :: HP.at m (.map (entsA (l2 ++ [(⟨x.k, bb, ck⟩ : Ent)])) (ck + 1)) :: (R ++ (HP.at wv.heap.size (.mapIter (some D.bm) D.clock (seen.push x.t) D.clock) :: HP.at D.bm (.map (entsA D.l) D.clock) :: headP b tb.length bud ⟨m, 0, [], a2, p2⟩ :: HP.arr 43 3 (.slice a2 tb.length p2) tb.length (clsC tb) :: headP c tb.length bud D :: HP.arr 43 3 (.slice D.ta tb.length D.tcap) tb.length (clsC tb) :: (l2.map (entP s) ++ F)))) w9 := lst_shut q0
          have q2 : St w0 (lstP x.b (s x.k) :: lstP bb (s x.k) :: HP.at m (.map (entsA (l2 ++ [(⟨x.k, bb, ck⟩ : Ent)])) (ck + 1)) :: (R ++ (HP.at wv.heap.size (.mapIter (some D.bm) D.clock (seen.push x.t) D.clock) :: HP.at D.bm (.map (entsA D.l) D.clock) :: headP b tb.length bud ⟨m, 0, [], a2, p2⟩ :: HP.arr 43 3 (.slice a2 tb.length p2) tb.length (clsC tb) :: headP c tb.length bud D :: HP.arr 43 3 (.slice D.ta tb.length D.tcap) tb.length (clsC tb) :: (l2.map (entP s) ++ F)))) w9 := lst_shut q1.rot'
          have q3 := e2 (lstP bb (s x.k) :: HP.at m (.map (entsA (l2 ++ [(⟨x.k, bb, ck⟩ : Ent)])) (ck + 1)) :: HP.at wv.heap.size (.mapIter (some D.bm) D.clock (seen.push x.t) D.clock) :: HP.at D.bm (.map (entsA D.l) D.clock) :: headP b tb.length bud ⟨m, 0, [], a2, p2⟩ :: HP.arr 43 3 (.slice a2 tb.length p2) tb.length (clsC tb) :: headP c tb.length bud D :: HP.arr 43 3 (.slice D.ta tb.length D.tcap) tb.length (clsC tb) :: (l2.map (entP s) ++ F)) w9 (q2.perm (by simp only [HP.big, HP.big_append]; ac_rfl))
          have q4 : St w0 (lstP (⟨x.k, bb, ck⟩ : Ent).b (s (⟨x.k, bb, ck⟩ : Ent).k) :: (l2.map (entP s) ++ (D.l.map (entP s) ++ (HP.at m (.map (entsA (l2 ++ [(⟨x.k, bb, ck⟩ : Ent)])) (ck + 1)) :: HP.at wv.heap.size (.mapIter (some D.bm) D.clock (seen.push x.t) D.clock) :: HP.at D.bm (.map (entsA D.l) D.clock) :: headP b tb.length bud ⟨m, 0, [], a2, p2⟩ :: HP.arr 43 3 (.slice a2 tb.length p2) tb.length (clsC tb) :: headP c tb.length bud D :: HP.arr 43 3 (.slice D.ta tb.length D.tcap) tb.length (clsC tb) :: F)))) w9 := q3.perm (by
            show _ = HP.big (lstP bb (s x.k) :: _)
            simp only [HP.big, HP.big_append]
            ac_rfl)
          exact (St.entryNew q4).perm (by simp only [HP.big, HP.big_append]; ac_rfl)
        have G := Lib.hid g.drew
        have CL2 := Lib.hid (sclone_any w0 _ _ a _ cap _ g.drew (HP.arr_reads (g.drew.front 1)) (intsC_one _) (by have := hok.2.2.2; omega))
        clear hs1 hs2 HL HP1 HC HS hpush e1 e2 e3 hnp hx hxl g g0 hok
        go_wp2_with fail
        go_region_held3 (fun w' => w'.cell? ⟨b, 2, none⟩ = some (.map (some m)) ∧ w'.cell? ⟨x.b, 0, none⟩ = some (.slice a (s x.k).objs.length cap) ∧ w'.cell? ⟨x.b, 1, none⟩ = some (.int .i64 (s x.k).lim) ∧ w'.cell? ⟨x.b, 2, none⟩ = some (.int .i64 (s x.k).low))
          (first | exact keep_cells2 h8 | exact keep_cells (by assumption) | go_keep)
          (first
            | (go_at_call 40; refine CL2.out.mono ?_; rintro e w4 ⟨a4, p4, rfl, h7⟩; obtain ⟨w5, hrun, h8⟩ := St.mapStore (P := Try.prog) (v := w4.heap.size) Try.underlying63 Try.underlying3 (keep_map h7 #[.slice a4 (s x.k).objs.length p4, .int .i64 (s x.k).lim, .int .i64 (s x.k).low]) HM.out (c := x.k) (by omega) HN.out))
        all_goals go_wp2_with fail
        all_goals go_roundg (gk - 1)
        all_goals first | (have := HG0.out; omega) | exact ⟨ps ++ [x], seen.push x.t, D.clock, l2 ++ [⟨x.k, w4.heap.size, ck⟩], ck + 1, HL2, HP2, Lib.hid (Nat.le_refl _), Lib.hid (by rw [List.map_append, List.map_append, HK.out]; rfl), Lib.hid (HM.out.add (by omega) HN.out), Lib.hid (E2.out _ w4.heap.size (.slice a4 (s x.k).objs.length p4) (h8.perm (by simp only [HP.big, HP.big_append, intsP] <;> ac_rfl)))⟩
end Go.Proofs.Ytaejojbdkgccpaa

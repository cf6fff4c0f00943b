/-
  sample.Diff's sieve: maps.DeleteFunc strikes the rows that hold nothing.
-/
import Derived.Test.YtcihbmifogfdpaaGreatDoorRG
namespace Go.Proofs.YtcihbmifogfdpaaGreatDoor
open Go.RowKit Go.Maps Go.ChangeMaps

theorem row_eql (x y : Rw) (w : World) : (binOp .eql 47 x.val y.val).run Tryz.prog w = .ok (.bool (decide (x = y))) w := by
  have he : decide (x = y) = (x.site.toList == y.site.toList && (x.a == y.a && (x.b == y.b && (x.c == y.c && (x.d == y.d && true))))) := by
    rw [Bool.eq_iff_iff, decide_eq_true_iff, ← eqRw_iff]
    simp [eqRw, and_assoc, Lib.toList_data]
    intro _ _ _ _
    exact ⟨fun h => by rw [h], fun h => ByteArray.ext h⟩
  have e := row_neqx 9998 w x.site y.site x.a x.b x.c x.d y.a y.b y.c y.d
  rw [← he] at e
  have e2 : (Op.equal 47 x.val y.val).run Tryz.prog w = .ok (decide (x = y)) w := e
  have h1 : x.val = .agg #[.string x.site, .int .i64 x.a, .int .i64 x.b, .int .i64 x.c, .int .i64 x.d] := rfl
  have h2 : y.val = .agg #[.string y.site, .int .i64 y.a, .int .i64 y.b, .int .i64 y.c, .int .i64 y.d] := rfl
  rw [h1, h2] at e2 ⊢
  simp [binOp, e2]
theorem nz_zero (r : Rw) : decide (r = zeroR r.site) = !nz r := by
  obtain ⟨s, a, b, c, d⟩ := r
  rw [Bool.eq_iff_iff, decide_eq_true_iff]
  simp only [zeroR, nz, Rw.mk.injEq, Bool.not_eq_true', Bool.or_eq_false_iff, decide_eq_false_iff_not, ne_eq, Decidable.not_not, true_and, and_assoc]
set_option maxRecDepth 10000 in
theorem ddel_any (w : World) (r : Rw) :
    Calls Tryz.prog 71 #[.string r.site, r.val] w fun e w' => e = .returned (.bool (!nz r)) ∧ Below w.heap.size w w' := by
  have bq := fun w => row_eql r (zeroR r.site) w
  rw [nz_zero] at bq
  have HB : Hid (Below w.heap.size w (w.alloc (.cells #[.string r.site, .int .i64 r.a, .int .i64 r.b, .int .i64 r.c, .int .i64 r.d] 47))) := Lib.hid ((Below.refl _ w).alloc (Nat.le_refl _) _)
  generalize nz r = z at *
  obtain ⟨rs, ra, rb, rc, rd⟩ := r
  simp only [Rw.val, zeroR] at bq ⊢
  go_enter Tryz.func71, Tryz.ntmps71
  go_wp2_with fail
  go_ret
  exact ⟨rfl, HB.out⟩

section
variable {P : Program} {w : World} {t k e : TypeId} {κ : Type} {bm clock : Nat} {E : KeyE P k κ}
/-- delete, while the map is ranged over: an entry that has come already -/
theorem St.delIter [DecidableEq κ] {w0 : World} {F : List HP} {r : Nat} {l left : List (κ × Value)} (h : St w0 (iterP E r bm l left :: F) w) (ht : P.underlying t = some (.map k e)) {c : κ} (hc : E.ok c) (hn : ∀ x ∈ left, x.1 ≠ c) (t2 ty : TypeId) :
    ∃ w', (Builtin.delete_ #[t, t2] ty #[.map (some bm), E.enc c]).run P w = .ok (.tuple #[]) w' ∧ St w0 (iterP E r bm (delG l c) left :: F) w' := by
  obtain ⟨⟨es, clock, since, seen, c0⟩, h⟩ := St.ex.1 h
  obtain ⟨⟨ho, rfl, rfl, hold, hsc, hsk⟩, h2⟩ := St.pur.1 (St.two.1 h)
  dsimp only at ho hold hsc hsk h2 hn ⊢
  have h3 := (St.two.1 h2).swap
  clear h h2
  have hb := h3.block.2
  obtain ⟨li, hli⟩ := E.key c hc
  rcases findG (w := w) ho hc with ⟨h1, h2⟩ | ⟨j, x, h1, h2, rfl⟩
  · refine ⟨setBlock w bm (.map (entG E es) clock), ?_, ?_⟩
    · simp [Builtin.delete_, run_underlying ht, MapKept.run_getObj_map hb, E.K.check w _ hli, h1, MapKept.run_setObj_map _ hb, Result.andThen, setBlock]
    · rw [delG_none h2]
      exact iterP_shut (E := E) (y := ⟨es, clock, since, seen, c0⟩) ho hold hsc hsk (h3.putObj _).swap
  · have hm : (entG E es).eraseIdxIfInBounds j = entG E (es.eraseIdx j) := by
      apply Array.ext'
      rw [Array.toList_eraseIdxIfInBounds, entG_toList, entG_toList, map_eraseIdx]
    have hx : seen.contains x.t = true := by
      cases hs : seen.contains x.t with
      | true => rfl
      | false => exact absurd rfl (hn x.kv (List.mem_map_of_mem (List.mem_filter.2 ⟨List.mem_of_getElem? h2, by rw [hs]; rfl⟩)))
    have hl : leftG (es.eraseIdx j) seen = leftG es seen := by
      obtain ⟨q1, q2⟩ := List.getElem?_eq_some_iff.1 h2
      have e1 : es = es.take j ++ x :: es.drop (j + 1) := by rw [← q2, ← List.drop_eq_getElem_cons q1, List.take_append_drop]
      unfold leftG
      rw [List.eraseIdx_eq_take_drop_succ]
      conv => rhs; rw [e1]
      rw [List.filter_append, List.filter_append, List.filter_cons, if_neg (by simpa using hx)]
    refine ⟨setBlock w bm (.map (entG E (es.eraseIdx j)) clock), ?_, ?_⟩
    · simp [Builtin.delete_, run_underlying ht, MapKept.run_getObj_map hb, E.K.check w _ hli, h1, MapKept.run_setObj_map _ hb, Result.andThen, setBlock, hm]
    · rw [delG_some ho.once h2, ← hl]
      exact iterP_shut (E := E) (y := ⟨es.eraseIdx j, clock, since, seen, c0⟩) (ho.erase j) (fun y hy => hold y ((List.eraseIdx_sublist es j).subset hy)) hsc hsk (h3.putObj _).swap
end
theorem delG_kvs (R : List Rw) (s : ByteArray) : delG (kvs R) s = kvs (R.filter fun y => decide (y.site ≠ s)) := by
  unfold delG kvs
  rw [List.filter_map]
  rfl
theorem val_inj {x y : Rw} (h : x.val = y.val) : x = y := by
  obtain ⟨s, a, b, c, d⟩ := x
  obtain ⟨t, f, g, i, j⟩ := y
  simp only [Rw.val] at h
  injection h with h
  simp at h
  obtain ⟨rfl, rfl, rfl, rfl, rfl⟩ := h
  rfl
/-- while the sieve runs -/
structure Siv (R Q : List Rw) (left : List (ByteArray × Value)) : Prop where
  has : ∀ r ∈ R, nz r = true → r ∈ Q
  old : ∀ r ∈ Q, r ∈ R ∧ (nz r = true ∨ (r.site, r.val) ∈ left)
  nod : (Q.map Rw.site).Nodup
  are : ∀ p ∈ left, ∃ r ∈ R, p = (r.site, r.val)
  keys : (left.map Prod.fst).Nodup
  len : Q.length ≤ R.length
theorem Siv.start {R : List Rw} (h : (R.map Rw.site).Nodup) : Siv R R (kvs R) where
  has r hr _ := hr
  old r hr := ⟨hr, .inr (List.mem_map.2 ⟨r, hr, rfl⟩)⟩
  nod := h
  are p hp := by
    obtain ⟨r, hr, rfl⟩ := List.mem_map.1 hp
    exact ⟨r, hr, rfl⟩
  keys := by unfold kvs; rw [List.map_map]; exact h
  len := Nat.le_refl _
theorem Siv.perm {R Q : List Rw} {left left' : List (ByteArray × Value)} (h : Siv R Q left) (hp : left.Perm left') : Siv R Q left' where
  has := h.has
  old r hr := ⟨(h.old r hr).1, (h.old r hr).2.imp id fun h => hp.mem_iff.1 h⟩
  nod := h.nod
  are p hp' := h.are p (hp.mem_iff.2 hp')
  keys := (hp.map _).nodup_iff.1 h.keys
  len := h.len
theorem site_inj {R : List Rw} (h : (R.map Rw.site).Nodup) {x y : Rw} (hx : x ∈ R) (hy : y ∈ R) (e : x.site = y.site) : x = y :=
  fld_ext e fun j => by rw [← tot_mem j h hx, ← tot_mem j h hy, e]
theorem Siv.keep {R Q : List Rw} {r : Rw} {left : List (ByteArray × Value)} (h : Siv R Q ((r.site, r.val) :: left)) (hz : nz r = true) : Siv R Q left where
  has := h.has
  old q hq := ⟨(h.old q hq).1, (h.old q hq).2.elim .inl fun h2 => by
    rcases List.mem_cons.1 h2 with e | h2
    · left
      injection e with _ e
      rw [val_inj e]; exact hz
    · exact .inr h2⟩
  nod := h.nod
  are p hp := h.are p (List.mem_cons_of_mem _ hp)
  keys := (List.nodup_cons.1 h.keys).2
  len := h.len
theorem Siv.strike {R Q : List Rw} {r : Rw} {left : List (ByteArray × Value)} (hR : (R.map Rw.site).Nodup) (hr : r ∈ R) (h : Siv R Q ((r.site, r.val) :: left)) (hz : nz r = false) : Siv R (Q.filter fun y => decide (y.site ≠ r.site)) left where
  has q hq hn := List.mem_filter.2 ⟨h.has q hq hn, decide_eq_true fun e => by
    have := site_inj hR hq hr e
    rw [this, hz] at hn
    cases hn⟩
  old q hq := by
    obtain ⟨h1, h2⟩ := List.mem_filter.1 hq
    refine ⟨(h.old q h1).1, (h.old q h1).2.elim .inl fun h3 => ?_⟩
    rcases List.mem_cons.1 h3 with e | h3
    · injection e with e _
      exact absurd e (of_decide_eq_true h2)
    · exact .inr h3
  nod := h.nod.sublist (List.filter_sublist.map _)
  are p hp := h.are p (List.mem_cons_of_mem _ hp)
  keys := (List.nodup_cons.1 h.keys).2
  len := Nat.le_trans (List.length_filter_le _ _) h.len
theorem Siv.done {R Q : List Rw} (h : Siv R Q []) : (Q.map Rw.site).Nodup ∧ (∀ r ∈ Q, nz r = true) ∧ ∀ r, r ∈ Q ↔ r ∈ R ∧ nz r = true :=
  ⟨h.nod, fun r hr => (h.old r hr).2.elim id fun h => (by cases h), fun r => ⟨fun hr => ⟨(h.old r hr).1, (h.old r hr).2.elim id fun h => (by cases h)⟩, fun hr => h.has r hr.1 hr.2⟩⟩

set_option maxRecDepth 10000 in
set_option maxHeartbeats 2000000 in
theorem sieve_any (w0 w : World) (F : List HP) (bm : Nat) (R : List Rw) (hR : (R.map Rw.site).Nodup) (hs : ∀ r ∈ R, r.site.size ≤ maxLen) (h : St w0 (mapP strE bm (kvs R) :: F) w) :
    Calls Tryz.prog 70 #[.map (some bm), .func (.func 71) #[] #[]] w fun e w' => e = .returned (.tuple #[]) ∧ ∃ Q, Siv R Q [] ∧ St w0 (mapP strE bm (kvs Q) :: F) w' := by
  obtain ⟨w1, hrg, h1⟩ := St.rangeMap h Tryz.underlying72
  have H1 := Lib.hid h1
  have HRN := Lib.hid hR
  have HSZ := Lib.hid hs
  clear h h1 hR hs
  go_enter Tryz.func70, Tryz.ntmps70
  go_wp2_with fail
  go_loopg [8] (kvs R).length (fun n _ wr => ∃ (Q : List Rw) (left : List (ByteArray × Value)), Hid (left.length ≤ n) ∧ Hid (Siv R Q left) ∧ Hid (St w0 (iterP strE w.heap.size bm (kvs Q) left :: F) wr))
  case atStart => exact ⟨R, kvs R, Lib.hid (Nat.le_refl _), Lib.hid (Siv.start HRN.out), H1⟩
  case round =>
    clear H1 hrg
    obtain ⟨Q, left, HL, HV, HS⟩ := hrel
    have hs1 := HS.out
    go_wp2_with (first
      | (at_next; refine wpList_next_mapG rfl _ rfl rfl hs1 ?_ ?_))
    · intro hd
      have HV2 := Lib.hid (hd ▸ HV.out)
      have G := Lib.hid hs1.rangeEnd
      clear hs1 HL HS hd
      go_wp2_with fail
      go_end0
      exact ⟨rfl, Q, HV2.out, G.out⟩
    · intro xk xv left' w3 hp hs3 hen
      have hv := HV.out.perm hp
      obtain ⟨r, hr, er⟩ := hv.are (xk, xv) (List.mem_cons_self ..)
      injection er with er1 er2
      subst er1 er2
      have HL2 := Lib.hid (show left'.length ≤ gk - 1 by
        have h1 := hp.length_eq
        rw [List.length_cons] at h1
        have h2 := HL.out
        omega)
      have HG0 := Lib.hid (show 0 < gk by
        have h1 := hp.length_eq
        rw [List.length_cons] at h1
        have h2 := HL.out
        omega)
      have hsz := HSZ.out r hr
      have hkeys := (List.nodup_cons.1 hv.keys).1
      have HS4 := Lib.hid (hs3.allocRow #[.string r.site, .int .i64 r.a, .int .i64 r.b, .int .i64 r.c, .int .i64 r.d] 47)
      have cD := fun w' => ddel_any w' r
      have DEL := Lib.hid (fun w' (h : St w0 (iterP strE w.heap.size bm (kvs Q) left' :: F) w') => St.delIter h Tryz.underlying72 (c := r.site) hsz (fun x hx e => hkeys (List.mem_map.2 ⟨x, hx, e⟩)) 9 0)
      by_cases hz : nz r = true
      · have HV2 := Lib.hid (hv.keep hz)
        rw [hz] at cD
        have CD := Lib.hid cD
        clear cD hv hs1 HS HV HL hz hs3 hkeys hr hp DEL hsz
        obtain ⟨rs, ra, rb, rc, rd⟩ := r
        simp only [Rw.val, strKey, strE] at hen CD
        go_wp2_with (go_at_call 71; refine (CD.out _).mono ?_; rintro e w5 ⟨rfl, hb5⟩; have HS5 := Lib.hid (HS4.out.grow hb5); clear hb5)
        go_roundg (gk - 1)
        case measure => have := HG0.out; omega
        case rel => exact ⟨Q, left', HL2, HV2, Lib.hid (HS5.out.drop)⟩
      · rw [Bool.not_eq_true] at hz
        have HV2 := Lib.hid (hv.strike HRN.out hr hz)
        rw [hz] at cD
        have CD := Lib.hid cD
        clear cD hv hs1 HS HV HL hz hs3 hkeys hr hp hsz
        obtain ⟨rs, ra, rb, rc, rd⟩ := r
        simp only [Rw.val, strKey, strE] at hen CD
        go_wp2_with (go_at_call 71; refine (CD.out _).mono ?_; rintro e w5 ⟨rfl, hb5⟩; have HS5 := Lib.hid (HS4.out.grow hb5); obtain ⟨w6, hdel, h6⟩ := DEL.out w5 (HS5.out.drop); have H6 := Lib.hid h6; simp only [strKey, strE] at hdel; clear hb5 h6)
        go_roundg (gk - 1)
        case measure => have := HG0.out; omega
        case rel => exact ⟨_, left', HL2, HV2, Lib.hid (by have h9 := H6.out; rw [delG_kvs] at h9; exact h9)⟩
end Go.Proofs.YtcihbmifogfdpaaGreatDoor

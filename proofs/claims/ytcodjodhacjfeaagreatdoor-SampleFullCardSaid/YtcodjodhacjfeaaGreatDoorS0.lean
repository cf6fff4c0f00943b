/-
  Rows in a map, by their sites; the rows of a map, sorted.
-/
import Derived.Test.YtcodjodhacjfeaaGreatDoorOB
import Derived.Test.YtcodjodhacjfeaaGreatDoorMapG
import Derived.Sort.Walk0
namespace Go.Proofs
open Go.RowKit Go.Maps Go.Sort Go.Shelf
shelf_lay_g SlLaysZ.n7 Ggz 7 at Tryz 43 as Tryz.keysR
end Go.Proofs
namespace Go.Proofs.YtcodjodhacjfeaaGreatDoor
open Go.RowKit Go.Maps Go.Sort Go.Shelf

def ltB (a b : ByteArray) : Bool := Op.bytesLess a.toList b.toList
theorem ltB_iff {a b : ByteArray} : ltB a b = true ↔ a.data.toList < b.data.toList := by
  unfold ltB
  rw [bytesLess_eq, ByteArray.toList_eq, ByteArray.toList_eq, decide_eq_true_eq]
/-- the sites rise -/
def Srt (l : List Rw) : Prop := l.Pairwise fun x y => ltB x.site y.site = true
theorem rowsC_app (l m : List Rw) : rowsC (l ++ m) = rowsC l ++ rowsC m := by simp [rowsC]
/-- rows that a call may be handed: the nil slice, or rows somewhere -/
def Rows0 (w : World) (v : Value) (l : List Rw) : Prop := (v = .slice none 0 0 ∧ l = []) ∨ ∃ b o cap, v = .slice (some ⟨b, o, none⟩) l.length cap ∧ l.length ≤ cap ∧ RowsAt w v l
theorem Rows0.at {w : World} {v : Value} {l : List Rw} (h : Rows0 w v l) : (∃ a cap, v = .slice a l.length cap) ∧ RowsAt w v l := by
  rcases h with ⟨rfl, rfl⟩ | ⟨b, o, cap, rfl, _, h⟩
  · exact ⟨⟨none, 0, rfl⟩, Reads.nil w 5⟩
  · exact ⟨⟨_, _, rfl⟩, h⟩
theorem Rows0.grow {w w' : World} {v : Value} {l : List Rw} (h : Rows0 w v l) (hb : Below w.heap.size w w') : Rows0 w' v l := by
  rcases h with h | ⟨b, o, cap, h1, h2, h3⟩
  · exact .inl h
  · exact .inr ⟨b, o, cap, h1, h2, Reads.grow h3 hb⟩
theorem rows0_of {w0 w : World} {v : Value} {l : List Rw} {F : List HP} (h : St w0 (HP.arr 63 5 v l.length (rowsC l) :: F) w) : Rows0 w v l := by
  rcases HP.arr_form h with ⟨rfl, hz⟩ | ⟨b, o, cap, rfl, hc⟩
  · exact .inl ⟨rfl, List.eq_nil_of_length_eq_zero hz⟩
  · exact .inr ⟨b, o, cap, rfl, hc, HP.arr_reads h⟩
/-- numbers that stay within some bound -/
def Bnd (B : Int) (r : Rw) : Prop := (-B ≤ r.a ∧ r.a ≤ B) ∧ (-B ≤ r.b ∧ r.b ≤ B) ∧ (-B ≤ r.c ∧ r.c ≤ B) ∧ (-B ≤ r.d ∧ r.d ≤ B)
def zeroR (s : ByteArray) : Rw := ⟨s, 0, 0, 0, 0⟩
def look (R : List Rw) (s : ByteArray) : Option Rw := R.find? fun y => decide (y.site = s)
def kvs (R : List Rw) : List (ByteArray × Value) := R.map fun r => (r.site, r.val)
theorem getG_kvs (R : List Rw) (s : ByteArray) : getG (kvs R) s = (look R s).map Rw.val := by
  unfold getG look kvs
  induction R with
  | nil => rfl
  | cons y R ih =>
    simp only [List.map_cons, List.find?_cons]
    by_cases h : y.site = s
    · simp [h]
    · simp only [h, decide_false]
      exact ih
theorem lookR_mem {R : List Rw} {s : ByteArray} {x : Rw} (h : look R s = some x) : x ∈ R ∧ x.site = s := ⟨List.mem_of_find?_eq_some h, by simpa using List.find?_some h⟩
theorem lookR_none {R : List Rw} {s : ByteArray} (h : look R s = none) : ∀ y ∈ R, y.site ≠ s := fun y hy e => by
  have := List.find?_eq_none.1 h y hy
  simp [e] at this
abbrev strE : KeyE Tryz.prog 9 ByteArray := strKey Tryz.underlying9
theorem zero_row (w : World) : (zeroValue 63).run Tryz.prog w = .ok (zeroR ⟨#[]⟩).val w := by
  obtain ⟨i0, hi0, hz0, _, _⟩ := info_row
  simp [zeroValue, typeInfo, hi0, hz0, zeroR, Rw.val]
theorem getD_val (o : Option Rw) (z : Rw) : (o.map Rw.val).getD z.val = (o.getD z).val := by cases o <;> rfl
theorem site_inj {R : List Rw} (h : (R.map Rw.site).Nodup) {x y : Rw} (hx : x ∈ R) (hy : y ∈ R) (e : x.site = y.site) : x = y := by
  induction R with
  | nil => cases hx
  | cons z R ih =>
    rw [List.map_cons, List.nodup_cons] at h
    rcases List.mem_cons.1 hx with h1 | h1 <;> rcases List.mem_cons.1 hy with h2 | h2
    · rw [h1, h2]
    · subst h1; exact absurd (e ▸ List.mem_map_of_mem h2) h.1
    · subst h2; exact absurd (e ▸ List.mem_map_of_mem h1) h.1
    · exact ih h.2 h1 h2
def litOf : Value → Lit
  | .string s => .string s.data.toList
  | _ => .bool false
/-- the map is one that the library's contracts know -/
theorem owns_rows {w : World} {b clock : Nat} {es : List (EntG ByteArray)} (ho : OkG strE es clock) (hb : w.heap[b]? = some (.map (entG strE es) clock)) (h1 : es.length ≤ 1000) (h2 : ∀ x ∈ es, x.k.size ≤ 1000) :
    ∃ l : List (Lit × DataW Unit), w.ownsMap Tryz.prog 9 Cl.R1 b es.length (.map l) ∧ (l.map (·.1)).Perm (es.map fun x => Lit.string x.k.data.toList) := by
  have hkey : ∀ x ∈ es, keyOf Tryz.prog 9 (.string x.k) = some (.string x.k.data.toList) := fun x hx => by
    have := Cl.keyOf_str Tryz.underlying9 x.k.data.toList (h2 x hx)
    exact this
  have hrd : ∀ y ∈ (entG strE es).toList, WideElems.rd Tryz.prog 9 Cl.R1 y = some (litOf y.key, .lit (.bool true)) := fun y hy => by
    rw [entG_toList] at hy
    obtain ⟨x, hx, rfl⟩ := List.mem_map.1 hy
    have := hkey x hx
    simp [WideElems.rd, Cl.R1, EntG.raw, strKey, this, litOf]
  refine ⟨_, ⟨entG strE es, clock, hb, ⟨?_, ?_, fun x hx => ⟨_, hrd x hx⟩⟩, ?_, rfl⟩, ?_⟩
  · rw [entG_size]; simp [maxLen]; omega
  · rw [MapKept.stamped_iff]
    refine ⟨fun x hx => ?_, ?_, ?_⟩
    · rw [entG_toList] at hx
      obtain ⟨y, hy, rfl⟩ := List.mem_map.1 hx
      exact ho.past y hy
    · rw [entG_toList, List.map_map]
      exact ho.stamps
    · rw [entG_toList, List.pairwise_map]
      have := ho.once
      unfold List.Nodup at this
      rw [List.pairwise_map] at this
      exact this.imp fun h e => h (strE.inj _ _ e)
  · rw [entG_size]; exact Nat.le_refl _
  · refine ((Cl.foldr_insert_perm _).map _).trans ?_
    rw [List.map_map]
    have : List.map ((fun x => x.1) ∘ WideElems.rg Tryz.prog 9 Cl.R1) (entG strE es).toList = es.map fun x => Lit.string x.k.data.toList := by
      rw [entG_toList, List.map_map]
      refine List.map_congr_left fun x hx => ?_
      have := hrd (x.raw strE) (by rw [entG_toList]; exact List.mem_map_of_mem hx)
      simp [WideElems.rg, this]
      rfl
    rw [this]
theorem reads_own {w : World} {base : Nat} {t : TypeId} {v : Value} {n : Nat} {xs : List Value} (h : w.ownsRow base t 1 v n xs) : Reads w 1 v n xs := by
  obtain ⟨hl, h⟩ := h
  refine ⟨hl, ?_⟩
  rcases h with h | ⟨g, cap, cur, rfl, _, hg, hn, _, hs, hx⟩
  · exact .inl h
  · refine .inr ⟨g, 0, none, cap, rfl, hn, .inl rfl, fun i x hi => ?_⟩
    rw [← hx, Nat.mul_one, List.getElem?_take] at hi
    split at hi
    · unfold World.cell?
      rw [hg]
      simpa using hi
    · cases hi
set_option maxRecDepth 10000 in
/-- slices.Sorted(maps.Keys(m)) -/
theorem sorted_keys (w0 w : World) (F : List HP) (bm c : Nat) (Q : List Rw) (hl : Q.length ≤ 1000) (hs : ∀ r ∈ Q, r.site.size ≤ 1000) (h : St w0 (mapP strE bm (kvs Q) :: F) w) (hc : w.cell? ⟨c, 0, none⟩ = some (.map (some bm))) (hcl : c < w.heap.size) :
    Calls Tryz.prog 42 #[.func (.func 74) #[] #[.pointer (some ⟨c, 0, none⟩)]] w fun e w' =>
      ∃ (v : Value) (KS : List (List UInt8)), e = .returned v ∧ KS.Pairwise (fun a b => leB a b = true) ∧ KS.Perm (Q.map fun r => r.site.data.toList) ∧ Reads w' 1 v KS.length (KS.map encStr) ∧ Below w.heap.size w w' := by
  obtain ⟨es, clock, ho, el, h9⟩ := mapP_open h
  have hlen : es.length = Q.length := by have := congrArg List.length el; simpa [kvs] using this
  have hk : es.map (fun x => x.k) = Q.map Rw.site := by
    have := congrArg (List.map Prod.fst) el
    simpa [kvs, List.map_map, Function.comp_def, EntG.kv] using this
  have hsz : ∀ x ∈ es, x.k.size ≤ 1000 := fun x hx => by
    have : x.k ∈ Q.map Rw.site := hk ▸ List.mem_map_of_mem hx
    obtain ⟨r, hr, e⟩ := List.mem_map.1 this
    rw [← e]; exact hs r hr
  obtain ⟨l, hown, hp⟩ := owns_rows ho h9.block.2 (by omega) hsz
  have hkeys : (strKeys (.map l)).Perm (Q.map fun r => r.site.data.toList) := by
    have h1 := hp.map strOf
    rw [List.map_map, List.map_map] at h1
    have h2 : es.map (strOf ∘ fun x => Lit.string x.k.data.toList) = Q.map fun r => r.site.data.toList := by
      have := congrArg (List.map fun s : ByteArray => s.data.toList) hk
      simpa [List.map_map, Function.comp_def, strOf] using this
    rw [h2] at h1
    simpa [strKeys, List.map_map, Function.comp_def] using h1
  have hseq : SeqGives Fence.wide 2 Tryz.prog 74 #[.pointer (some ⟨c, 0, none⟩)] encStr (fun ss => ss.Perm (strKeys (.map l))) (Maps.size (.map l)) w :=
    AnyZ.keys_gives (ρ := Tryz.keysR_ren) { Tryz.keysR with } Fence.wide _ trivial rfl (by omega) c bm _ _ w hcl hc hown
  have hsz2 : Maps.size (DataW.map l) = es.length := by have := hp.length_eq; simpa [Maps.size_eq] using this
  have hcl2 := AnyZ.sorted_in Tryz.sortedS Fence.wide 5 trivial trivial trivial trivial rfl (by omega) (Tryz.sortsS _) (enters_of Tryz.func73 (by kernel_rfl) rfl) 74 #[.pointer (some ⟨c, 0, none⟩)] trivial (enters_of Tryz.func74 (by kernel_rfl) rfl) _ _ (by rw [hsz2]; simp [maxLen]; omega) (by rw [hsz2]; omega) _ hseq
  refine (callsIn_wide.1 hcl2).mono ?_
  rintro e w' ⟨v, ss, rfl, hS, hrow, _, hbe⟩
  have hso : ss.mergeSort (fun x y => decide (x ≤ y)) = Cl.sortU (strKeys (.map l)) := Cl.sortU_eq hS
  rw [hso] at hrow
  have hln : ss.length = (Cl.sortU (strKeys (.map l))).length := (hS.trans (Cl.sortU_perm _).symm).length_eq
  rw [hln] at hrow
  exact ⟨v, _, rfl, Cl.sortU_sorted _, (Cl.sortU_perm _).trans hkeys, reads_own hrow, hbe⟩
theorem keysR_any (w : World) (bm : Nat) :
    Calls Tryz.prog 43 #[.map (some bm)] w fun e w' => e = .returned (.func (.func 74) #[] #[.pointer (some ⟨w.heap.size, 0, none⟩)]) ∧ w' = w.alloc (.cells #[.map (some bm)] 41) := by
  go_enter Tryz.func43, Tryz.ntmps43
  go_wp2
  go_ret
  exact ⟨rfl, rfl⟩
def rowAt (Q : List Rw) (l : List UInt8) : Rw := (look Q ⟨l.toArray⟩).getD (zeroR ⟨#[]⟩)
theorem rowAt_mem {Q : List Rw} (h : (Q.map Rw.site).Nodup) {r : Rw} (hr : r ∈ Q) : rowAt Q r.site.data.toList = r := by
  unfold rowAt
  have e : (⟨r.site.data.toList.toArray⟩ : ByteArray) = r.site := rfl
  rw [e]
  cases hl : look Q r.site with
  | none => exact absurd rfl (lookR_none hl r hr)
  | some x =>
    obtain ⟨h1, h2⟩ := lookR_mem hl
    exact site_inj h h1 hr h2
theorem rowAt_perm {Q : List Rw} (h : (Q.map Rw.site).Nodup) {KS : List (List UInt8)} (hp : KS.Perm (Q.map fun r => r.site.data.toList)) : (KS.map (rowAt Q)).Perm Q := by
  have h1 := hp.map (rowAt Q)
  rw [List.map_map] at h1
  have h2 : Q.map (rowAt Q ∘ fun r => r.site.data.toList) = Q := by
    have : Q.map (rowAt Q ∘ fun r => r.site.data.toList) = Q.map id := List.map_congr_left fun r hr => rowAt_mem h hr
    rw [this, List.map_id]
  rwa [h2] at h1
theorem rowAt_site {Q : List Rw} (h : (Q.map Rw.site).Nodup) {KS : List (List UInt8)} (hp : KS.Perm (Q.map fun r => r.site.data.toList)) {l : List UInt8} (hl : l ∈ KS) : (rowAt Q l).site.data.toList = l := by
  obtain ⟨r, hr, rfl⟩ := List.mem_map.1 (hp.mem_iff.1 hl)
  rw [rowAt_mem h hr]
theorem rowAt_srt {Q : List Rw} (h : (Q.map Rw.site).Nodup) {KS : List (List UInt8)} (hs : KS.Pairwise (fun a b => leB a b = true)) (hp : KS.Perm (Q.map fun r => r.site.data.toList)) : Srt (KS.map (rowAt Q)) := by
  have hn : KS.Nodup := by
    refine hp.nodup_iff.2 ?_
    unfold List.Nodup at *
    rw [List.pairwise_map] at *
    exact h.imp fun h e => h (Go.WideShapes.bytes_inj e)
  unfold Srt
  rw [List.pairwise_map]
  have := hs.and hn
  refine (this.imp_of_mem fun {a b} ha hb hab => ?_)
  rw [ltB_iff, rowAt_site h hp ha, rowAt_site h hp hb]
  have h1 : a ≤ b := of_decide_eq_true hab.1
  by_cases h2 : a < b
  · exact h2
  · exact absurd (List.le_antisymm h1 (List.not_lt.1 h2)) hab.2
set_option maxRecDepth 10000 in
set_option maxHeartbeats 2000000 in
theorem sorted_any (w0 w : World) (F : List HP) (bm : Nat) (Q : List Rw) (hl : Q.length ≤ 1000) (hs : ∀ r ∈ Q, r.site.size ≤ 1000) (hn : (Q.map Rw.site).Nodup) (h : St w0 (mapP strE bm (kvs Q) :: F) w) :
    Calls Tryz.prog 26 #[.map (some bm)] w fun e w' => ∃ v OUT, e = .returned v ∧ Rows0 w' v OUT ∧ Srt OUT ∧ OUT.Perm Q ∧ Below w.heap.size w w' := by
  obtain ⟨i0, hi0, hz0, hz1, hz2⟩ := info_row
  have HI := Lib.hid hi0; have Z0 := Lib.hid hz0; have Z1 := Lib.hid hz1; have Z2 := Lib.hid hz2
  clear hi0 hz0 hz1 hz2
  have H1 := h.allocRow #[.map (some bm)] 41
  have cS := Lib.hid (sorted_keys w0 _ _ bm w.heap.size Q hl hs H1.swap (St.cells1 H1) (by simp))
  have HB1 : Hid (Below w.heap.size w (w.alloc (.cells #[.map (some bm)] 41))) := Lib.hid ((Below.refl _ w).alloc (Nat.le_refl _) _)
  have HM1 := Lib.hid H1.swap
  have HN := Lib.hid hn
  have HSZ := Lib.hid hs
  have cK := Lib.hid (keysR_any w bm)
  clear H1 h hn hs
  go_enter Tryz.func26, Tryz.ntmps26
  go_wp2_with (first
    | (go_at_call 43; refine cK.out.mono ?_; rintro e w1 ⟨rfl, rfl⟩)
    | (go_at_call 42; refine cS.out.mono ?_; rintro e w2 ⟨v2, KS, rfl, hs2, hp2, hr2, hb2⟩; obtain ⟨va, vc, rfl⟩ := hr2.form; have HS2 := Lib.hid hs2; have HP2 := Lib.hid hp2; have HR2 := Lib.hid hr2; have HB2 := Lib.hid (HB1.out.trans (hb2.mono HB1.out.size)); have HM2 := Lib.hid (HM1.out.grow hb2); clear hs2 hp2 hr2 hb2 HM1 cS cK))
  have LK : KS.length ≤ 1000 := by have := HP2.out.length_eq; rw [List.length_map] at this; omega
  have H0 : Hid (St w2 [HP.arr 63 5 (.slice none 0 0) 0 (rowsC [])] w2) := Lib.hid ((St.start w2).arr_nil 63 5)
  go_loopw [3, 10] (fun out i wl => ∃ (k : Nat) (oa : Option Addr) (oc : Nat), k ≤ KS.length ∧ i = .int .i64 k ∧ out = .slice oa k oc ∧ Hid (St w2 [HP.arr 63 5 (.slice oa k oc) k (rowsC ((KS.map (rowAt Q)).take k))] wl)) (fun _ i _ => KS.length - (intOf i).toNat)
  case atStart => exact ⟨0, none, 0, Nat.zero_le _, rfl, rfl, H0⟩
  case round =>
    clear H0
    obtain ⟨k, oa, oc, hk, rfl, rfl, HS⟩ := hrel
    by_cases hlt : k < KS.length
    · obtain ⟨x, hxk⟩ : ∃ x, KS[k]? = some x := ⟨KS[k], List.getElem?_eq_getElem hlt⟩
      have ik0 : (0 : Int) ≤ (k : Int) := by omega
      have ik1 : (k : Int) < (KS.length : Int) := by omega
      obtain ⟨kb, ko, kc, e1, _, hcell⟩ := (Reads.grow HR2.out HS.out.below).lies (by omega)
      injection e1 with e1 e11 e12
      subst e1
      clear e11 e12
      have ck := hcell k (.string ⟨x.toArray⟩) (by rw [List.getElem?_map, hxk]; rfl)
      have hxs : (⟨x.toArray⟩ : ByteArray).size ≤ maxLen := by
        obtain ⟨r, hr, e⟩ := List.mem_map.1 (HP2.out.mem_iff.1 (List.mem_of_getElem? hxk))
        have := HSZ.out r hr
        rw [← e]
        show r.site.data.toList.toArray.size ≤ maxLen
        simp only [Array.toArray_toList, maxLen]
        have h9 : r.site.data.size = r.site.size := rfl
        omega
      have hlk := (St.lookG (HM2.out.grow HS.out.below) Tryz.underlying41 (zero_row _) (c := ⟨x.toArray⟩) hxs).1
      rw [getG_kvs, getD_val] at hlk
      have HT : Hid ((KS.map (rowAt Q)).take (k + 1) = (KS.map (rowAt Q)).take k ++ [rowAt Q x]) := Lib.hid (by rw [List.take_add_one, List.getElem?_map, hxk]; rfl)
      have hrr : (look Q ⟨x.toArray⟩).getD (zeroR ⟨#[]⟩) = rowAt Q x := rfl
      rw [hrr] at hlk
      generalize rowAt Q x = r at hlk HT
      obtain ⟨xs, xa, xb', xc', xd⟩ := r
      simp only [Rw.val, strKey, strE] at hlk
      clear hcell hxk hxs hrr
      have H9 := Lib.hid (HS.out.newArr 63 5 1 [.string xs, .int .i64 xa, .int .i64 xb', .int .i64 xc', .int .i64 xd] rfl (by decide))
      go_wp2_with (at_builtin; refine wpList_append_st rfl _ _ 32 rfl 63 i0 _ 5 48 Tryz.underlying32 HI.out Z0.out Z1.out Z2.out rfl _ _ rfl rfl k (rowsC ((KS.map (rowAt Q)).take k)) (by exact H9.out.swap) 1 [.string xs, .int .i64 xa, .int .i64 xb', .int .i64 xc', .int .i64 xd] (by exact (HP.arr_reads H9.out)) (by intro u hu; simp at hu; rcases hu with rfl | rfl | rfl | rfl | rfl <;> rfl) (by unfold maxLen; omega) (by omega) ?_; intro v' w10 hs2 hv2; clear hv2; obtain ⟨a10, p10, rfl⟩ := (HP.arr_reads hs2).form; have H10 := Lib.hid hs2; clear hs2)
      go_roundw
      case rel => exact ⟨k + 1, a10, p10, hlt, by go_num, rfl, Lib.hid (by rw [HT.out, rowsC_app]; exact H10.out.pick 2 [0])⟩
      case measure => simp [intOf]; omega
    · have ik1 : ¬ (k : Int) < (KS.length : Int) := by omega
      have hkl : k = KS.length := by omega
      subst hkl
      have HF : Hid ((KS.map (rowAt Q)).take KS.length = KS.map (rowAt Q)) := Lib.hid (List.take_of_length_le (by simp))
      go_wp2_with fail
      go_ret
      refine ⟨_, rfl, KS.map (rowAt Q), ?_, rowAt_srt HN.out HS2.out HP2.out, rowAt_perm HN.out HP2.out, HB2.out.trans (HS.out.below.mono HB2.out.size)⟩
      have h1 := HS.out
      rw [HF.out] at h1
      have e : (KS.map (rowAt Q)).length = KS.length := List.length_map _
      rw [← e] at h1
      have h3 := rows0_of h1
      rwa [e] at h3
end Go.Proofs.YtcodjodhacjfeaaGreatDoor

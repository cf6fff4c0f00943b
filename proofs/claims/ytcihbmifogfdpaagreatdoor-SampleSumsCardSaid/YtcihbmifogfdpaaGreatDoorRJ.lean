/-
  sample.sorted: the rows of a map by their sites.
-/
import Derived.Test.YtcihbmifogfdpaaGreatDoorRI
namespace Go.Proofs.YtcihbmifogfdpaaGreatDoor
open Go.RowKit Go.Maps Go.Sort Go.Shelf

theorem keysR_any (w : World) (bm : Nat) :
    Calls Tryz.prog 103 #[.map (some bm)] w fun e w' => e = .returned (.func (.func 159) #[] #[.pointer (some ⟨w.heap.size, 0, none⟩)]) ∧ w' = w.alloc (.cells #[.map (some bm)] 72) := by
  go_enter Tryz.func103, Tryz.ntmps103
  go_wp2
  go_ret
  exact ⟨rfl, rfl⟩

def rowAt (Q : List Rw) (l : List UInt8) : Rw := (look Q ⟨l.toArray⟩).getD (zeroR ⟨#[]⟩)
theorem rowAt_mem {Q : List Rw} (h : (Q.map Rw.site).Nodup) {r : Rw} (hr : r ∈ Q) : rowAt Q r.site.data.toList = r := by
  unfold rowAt
  have e : (⟨r.site.data.toList.toArray⟩ : ByteArray) = r.site := rfl
  rw [e]
  cases hl : look Q r.site with
  | none => exact absurd rfl (lookR_none hl r hr)
  | some x =>
    obtain ⟨h1, h2⟩ := lookR_mem hl
    exact site_inj h h1 hr h2
theorem rowAt_perm {Q : List Rw} (h : (Q.map Rw.site).Nodup) {KS : List (List UInt8)} (hp : KS.Perm (Q.map fun r => r.site.data.toList)) : (KS.map (rowAt Q)).Perm Q := by
  have h1 := hp.map (rowAt Q)
  rw [List.map_map] at h1
  have h2 : Q.map (rowAt Q ∘ fun r => r.site.data.toList) = Q := by
    have : Q.map (rowAt Q ∘ fun r => r.site.data.toList) = Q.map id := List.map_congr_left fun r hr => rowAt_mem h hr
    rw [this, List.map_id]
  rwa [h2] at h1
theorem rowAt_site {Q : List Rw} (h : (Q.map Rw.site).Nodup) {KS : List (List UInt8)} (hp : KS.Perm (Q.map fun r => r.site.data.toList)) {l : List UInt8} (hl : l ∈ KS) : (rowAt Q l).site.data.toList = l := by
  obtain ⟨r, hr, rfl⟩ := List.mem_map.1 (hp.mem_iff.1 hl)
  rw [rowAt_mem h hr]
theorem rowAt_srt {Q : List Rw} (h : (Q.map Rw.site).Nodup) {KS : List (List UInt8)} (hs : KS.Pairwise (fun a b => leB a b = true)) (hp : KS.Perm (Q.map fun r => r.site.data.toList)) : Srt (KS.map (rowAt Q)) := by
  have hn : KS.Nodup := by
    refine hp.nodup_iff.2 ?_
    unfold List.Nodup at *
    rw [List.pairwise_map] at *
    exact h.imp fun h e => h (Go.WideShapes.bytes_inj e)
  unfold Srt
  rw [List.pairwise_map]
  have := hs.and hn
  refine (this.imp_of_mem fun {a b} ha hb hab => ?_)
  rw [ltB_iff, rowAt_site h hp ha, rowAt_site h hp hb]
  have h1 : a ≤ b := of_decide_eq_true hab.1
  by_cases h2 : a < b
  · exact h2
  · exact absurd (List.le_antisymm h1 (List.not_lt.1 h2)) hab.2

set_option maxRecDepth 10000 in
set_option maxHeartbeats 2000000 in
theorem sorted_any (w0 w : World) (F : List HP) (bm : Nat) (Q : List Rw) (hl : Q.length ≤ 1000) (hs : ∀ r ∈ Q, r.site.size ≤ 1000) (hn : (Q.map Rw.site).Nodup) (h : St w0 (mapP strE bm (kvs Q) :: F) w) :
    Calls Tryz.prog 58 #[.map (some bm)] w fun e w' => ∃ v OUT, e = .returned v ∧ Rows0 w' v OUT ∧ Srt OUT ∧ OUT.Perm Q ∧ Below w.heap.size w w' := by
  obtain ⟨i0, hi0, hz0, hz1, hz2⟩ := info_row
  have HI := Lib.hid hi0; have Z0 := Lib.hid hz0; have Z1 := Lib.hid hz1; have Z2 := Lib.hid hz2
  clear hi0 hz0 hz1 hz2
  have H1 := h.allocRow #[.map (some bm)] 72
  have cS := Lib.hid (sorted_keys w0 _ _ bm w.heap.size Q hl hs H1.swap (St.cells1 H1) (by simp))
  have HB1 : Hid (Below w.heap.size w (w.alloc (.cells #[.map (some bm)] 72))) := Lib.hid ((Below.refl _ w).alloc (Nat.le_refl _) _)
  have HM1 := Lib.hid H1.swap
  have HN := Lib.hid hn
  have HSZ := Lib.hid hs
  have cK := Lib.hid (keysR_any w bm)
  clear H1 h hn hs
  go_enter Tryz.func58, Tryz.ntmps58
  go_wp2_with (first
    | (go_at_call 103; refine cK.out.mono ?_; rintro e w1 ⟨rfl, rfl⟩)
    | (go_at_call 102; refine cS.out.mono ?_; rintro e w2 ⟨v2, KS, rfl, hs2, hp2, hr2, hb2⟩; obtain ⟨va, vc, rfl⟩ := hr2.form; have HS2 := Lib.hid hs2; have HP2 := Lib.hid hp2; have HR2 := Lib.hid hr2; have HB2 := Lib.hid (HB1.out.trans (hb2.mono HB1.out.size)); have HM2 := Lib.hid (HM1.out.grow hb2); clear hs2 hp2 hr2 hb2 HM1 cS cK))
  have LK : KS.length ≤ 1000 := by have := HP2.out.length_eq; rw [List.length_map] at this; omega
  have H0 : Hid (St w2 [HP.arr 47 5 (.slice none 0 0) 0 (rowsC [])] w2) := Lib.hid ((St.start w2).arr_nil 47 5)
  go_loopw [3, 10] (fun out i wl => ∃ (k : Nat) (oa : Option Addr) (oc : Nat), k ≤ KS.length ∧ i = .int .i64 k ∧ out = .slice oa k oc ∧ Hid (St w2 [HP.arr 47 5 (.slice oa k oc) k (rowsC ((KS.map (rowAt Q)).take k))] wl)) (fun _ i _ => KS.length - (intOf i).toNat)
  case atStart => exact ⟨0, none, 0, Nat.zero_le _, rfl, rfl, H0⟩
  case round =>
    clear H0
    obtain ⟨k, oa, oc, hk, rfl, rfl, HS⟩ := hrel
    by_cases hlt : k < KS.length
    · obtain ⟨x, hxk⟩ : ∃ x, KS[k]? = some x := ⟨KS[k], List.getElem?_eq_getElem hlt⟩
      have ik0 : (0 : Int) ≤ (k : Int) := by omega
      have ik1 : (k : Int) < (KS.length : Int) := by omega
      obtain ⟨kb, ko, kc, e1, _, hcell⟩ := (Reads.grow HR2.out HS.out.below).lies (by omega)
      injection e1 with e1 e11 e12
      subst e1
      clear e11 e12
      have ck := hcell k (.string ⟨x.toArray⟩) (by rw [List.getElem?_map, hxk]; rfl)
      have hxs : (⟨x.toArray⟩ : ByteArray).size ≤ maxLen := by
        obtain ⟨r, hr, e⟩ := List.mem_map.1 (HP2.out.mem_iff.1 (List.mem_of_getElem? hxk))
        have := HSZ.out r hr
        rw [← e]
        show r.site.data.toList.toArray.size ≤ maxLen
        simp only [Array.toArray_toList, maxLen]
        have h9 : r.site.data.size = r.site.size := rfl
        omega
      have hlk := (St.lookG (HM2.out.grow HS.out.below) Tryz.underlying72 (zero_row _) (c := ⟨x.toArray⟩) hxs).1
      rw [getG_kvs, getD_val] at hlk
      have HT : Hid ((KS.map (rowAt Q)).take (k + 1) = (KS.map (rowAt Q)).take k ++ [rowAt Q x]) := Lib.hid (by rw [List.take_add_one, List.getElem?_map, hxk]; rfl)
      have hrr : (look Q ⟨x.toArray⟩).getD (zeroR ⟨#[]⟩) = rowAt Q x := rfl
      rw [hrr] at hlk
      generalize rowAt Q x = r at hlk HT
      obtain ⟨xs, xa, xb', xc', xd⟩ := r
      simp only [Rw.val, strKey, strE] at hlk
      clear hcell hxk hxs hrr
      have H9 := Lib.hid (HS.out.newArr 47 5 1 [.string xs, .int .i64 xa, .int .i64 xb', .int .i64 xc', .int .i64 xd] rfl (by decide))
      go_wp2_with (at_builtin; refine wpList_append_st rfl _ _ 22 rfl 47 i0 _ 5 48 Tryz.underlying22 HI.out Z0.out Z1.out Z2.out rfl _ _ rfl rfl k (rowsC ((KS.map (rowAt Q)).take k)) (by exact H9.out.swap) 1 [.string xs, .int .i64 xa, .int .i64 xb', .int .i64 xc', .int .i64 xd] (by exact (HP.arr_reads H9.out)) (by intro u hu; simp at hu; rcases hu with rfl | rfl | rfl | rfl | rfl <;> rfl) (by unfold maxLen; omega) (by omega) ?_; intro v' w10 hs2 hv2; clear hv2; obtain ⟨a10, p10, rfl⟩ := (HP.arr_reads hs2).form; have H10 := Lib.hid hs2; clear hs2)
      go_roundw
      case rel => exact ⟨k + 1, a10, p10, hlt, by go_num, rfl, Lib.hid (by rw [HT.out, rowsC_app]; exact H10.out.pick 2 [0])⟩
      case measure => simp [intOf]; omega
    · have ik1 : ¬ (k : Int) < (KS.length : Int) := by omega
      have hkl : k = KS.length := by omega
      subst hkl
      have HF : Hid ((KS.map (rowAt Q)).take KS.length = KS.map (rowAt Q)) := Lib.hid (List.take_of_length_le (by simp))
      go_wp2_with fail
      go_ret
      refine ⟨_, rfl, KS.map (rowAt Q), ?_, rowAt_srt HN.out HS2.out HP2.out, rowAt_perm HN.out HP2.out, HB2.out.trans (HS.out.below.mono HB2.out.size)⟩
      have h1 := HS.out
      rw [HF.out] at h1
      have e : (KS.map (rowAt Q)).length = KS.length := List.length_map _
      rw [← e] at h1
      have h3 := rows0_of h1
      rwa [e] at h3
end Go.Proofs.YtcihbmifogfdpaaGreatDoor

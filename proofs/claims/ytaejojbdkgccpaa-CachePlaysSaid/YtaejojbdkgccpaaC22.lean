/-
  all, Same of batches.
-/
import Derived.Test.YtaejojbdkgccpaaC21
namespace Go.Proofs.Ytaejojbdkgccpaa
open Go.RowKit Go.Maps Go.ChangeMaps

theorem bats_arr {w0 w : World} {F : List HP} {v : Value} {zs : List BO} (h : St w0 (batsZ v zs :: F) w) : St w0 (HP.arr 48 2 v zs.length (batC (zs.map BO.bat)) :: (zs.map BO.P ++ F)) w := h.perm (by simp only [HP.big, HP.big_append, batsZ]; ac_rfl)
theorem bats_shut {w0 w : World} {F : List HP} {v : Value} {zs : List BO} (h : St w0 (HP.arr 48 2 v zs.length (batC (zs.map BO.bat)) :: (zs.map BO.P ++ F)) w) : St w0 (batsZ v zs :: F) w := h.perm (by simp only [HP.big, HP.big_append, batsZ]; ac_rfl)
/-- the cells of a batch, and its objects -/
theorem bats_at {w0 w : World} {F : List HP} {v : Value} {zs : List BO} (h : St w0 (batsZ v zs :: F) w) {k : Nat} {z : BO} (hz : zs[k]? = some z) :
    ∃ b off cap a c, v = .slice (some ⟨b, off, none⟩) zs.length cap ∧ w.cell? ⟨b, off + k * 2, none⟩ = some (.int .i64 (z.c : Int)) ∧ w.cell? ⟨b, off + k * 2 + 1, none⟩ = some (.slice a z.o.length c) ∧ z.v = .slice a z.o.length c ∧ IntsAt w (.slice a z.o.length c) z.o := by
  have h1 := bats_arr h
  have hk := (List.getElem?_eq_some_iff.1 hz).1
  obtain ⟨b, off, cap, hv, _, hc⟩ := (HP.arr_reads h1).lies (by omega)
  have hb : (zs.map BO.bat)[k]? = some z.bat := by rw [List.getElem?_map, hz]; rfl
  obtain ⟨g0, g1⟩ := batC_get _ _ _ hb
  obtain ⟨l1, l2, rfl⟩ := List.append_of_mem (List.mem_of_getElem? hz)
  have h2 : St w0 (z.P :: ((l1 ++ l2).map BO.P ++ (HP.arr 48 2 v (l1 ++ z :: l2).length (batC ((l1 ++ z :: l2).map BO.bat)) :: F))) w := h1.perm (by simp only [HP.big, HP.big_append, List.map_append, List.map_cons]; ac_rfl)
  have hr : Reads w 1 z.v z.o.length (intsC z.o) := HP.arr_reads h2
  obtain ⟨a, c, hzv⟩ := hr.form
  rw [hzv] at hr
  refine ⟨b, off, cap, a, c, hv, hc _ _ g0, ?_, hzv, hr⟩
  rw [Nat.add_assoc]
  rw [← hzv]
  exact hc _ _ g1

def flatO (zs : List BO) : List Int := zs.flatMap BO.o
theorem flatO_succ {zs : List BO} {k : Nat} {z : BO} (h : zs[k]? = some z) : flatO (zs.take (k + 1)) = flatO (zs.take k) ++ z.o := by
  unfold flatO
  rw [List.take_add_one, h, List.flatMap_append]
  simp
theorem flatO_len (zs : List BO) (k : Nat) : (flatO (zs.take k)).length ≤ (flatO zs).length := by
  have : (zs.take k).Sublist zs := List.take_sublist k zs
  unfold flatO
  have h : flatO zs = flatO (zs.take k) ++ flatO (zs.drop k) := by
    unfold flatO
    rw [← List.flatMap_append, List.take_append_drop]
  unfold flatO at h
  rw [h, List.length_append]
  omega
set_option maxRecDepth 10000 in
set_option maxHeartbeats 2000000 in
/-- the objects of all batches, one behind the other -/
theorem all_any (w0 w : World) (F : List HP) (a : Option Addr) (cap : Nat) (bs : List (Nat × List Int)) (hl : (bs.flatMap Prod.snd).length ≤ 100000) (hn : bs.length ≤ 1000) (hs : St w0 (batsP (.slice a bs.length cap) bs :: F) w) :
    Calls Try.prog 26 #[.slice a bs.length cap] w fun e w' => ∃ a' c', e = .returned (.slice a' (bs.flatMap Prod.snd).length c') ∧ St w0 (intsP (.slice a' (bs.flatMap Prod.snd).length c') (bs.flatMap Prod.snd) :: batsP (.slice a bs.length cap) bs :: F) w' := by
  obtain ⟨zs, h⟩ := St.ex.1 hs
  obtain ⟨zs, rfl⟩ := zs
  dsimp only at h
  have hf : (zs.map BO.key).flatMap Prod.snd = flatO zs := by rw [List.flatMap_map]; rfl
  rw [hf] at hl ⊢
  rw [List.length_map] at hn
  clear hs hf
  obtain ⟨i0, hi, hz0, hz1, hz2⟩ := info_parts info3
  have HI := Lib.hid hi
  have Z0 := Lib.hid hz0
  have Z1 := Lib.hid hz1
  have Z2 := Lib.hid hz2
  clear hi hz0 hz1 hz2
  have EL := Lib.hid (show (zs.map BO.key).length = zs.length from List.length_map _)
  rw [EL.out]
  rw [EL.out] at h
  have H := Lib.hid h
  clear h
  go_enter Try.func26, Try.ntmps26
  go_wp2_with fail
  go_loopw [3, 4] (fun out i wr => ∃ k : Nat, k ≤ zs.length ∧ i = .int .i64 k ∧ ∃ a2 c2, out = .slice a2 (flatO (zs.take k)).length c2 ∧ Hid (St w0 (intsP out (flatO (zs.take k)) :: batsZ (.slice a zs.length cap) zs :: F) wr)) (fun _ i _ => zs.length - (intOf i).toNat)
  case atStart => exact ⟨0, Nat.zero_le _, rfl, none, 0, rfl, Lib.hid (H.out.arr_nil 3 1)⟩
  case round =>
    clear H
    obtain ⟨k, hk, rfl, a2, c2, rfl, HS⟩ := hrel
    by_cases hlt : k < zs.length
    · obtain ⟨z, hz⟩ : ∃ z, zs[k]? = some z := ⟨zs[k], List.getElem?_eq_getElem hlt⟩
      obtain ⟨b, off, cp, za, zc, e1, g0, g1, _, hr⟩ := bats_at (HS.out.front 1) hz
      injection e1 with e1 e2 e3
      subst e1
      clear e2 e3
      have hfl := flatO_len zs (k + 1)
      rw [flatO_succ hz, List.length_append] at hfl
      have HR := Lib.hid hr
      have HF := Lib.hid (flatO_succ hz)
      have i0' : (0 : Int) ≤ (k : Int) := by omega
      have i1' : (k : Int) < (zs.length : Int) := by omega
      clear hz hr
      go_wp2_with (at_builtin; refine wpList_append_st rfl _ _ 28 rfl 3 i0 _ 1 8 Try.underlying28 HI.out Z0.out Z1.out Z2.out rfl _ _ rfl rfl (flatO (zs.take k)).length (intsC (flatO (zs.take k))) HS.out z.o.length (intsC z.o) HR.out (intsC_one _) (by unfold maxLen; omega) (by omega) ?_; intro v' w' hs' hv'; obtain ⟨a3, c3, rfl⟩ := (HP.arr_reads hs').form; have HS9 := Lib.hid hs'; clear hs' hv')
      go_roundw
      case rel =>
        refine ⟨k + 1, hlt, by go_num, a3, c3, by rw [HF.out, List.length_append], Lib.hid ?_⟩
        rw [HF.out]
        unfold intsP
        rw [List.length_append, intsC, List.map_append]
        exact HS9.out
      case measure => simp [intOf]; omega
    · have e : zs.take k = zs := List.take_of_length_le (by omega)
      rw [e] at HS ⊢
      go_wp2_with fail
      go_ret
      refine ⟨a2, c2, rfl, ?_⟩
      refine (St.swap (St.ex.2 ⟨⟨zs, rfl⟩, ?_⟩))
      exact HS.out.swap
end Go.Proofs.Ytaejojbdkgccpaa

/-
  strings.Lines: the iterator, round by round.
-/
import Derived.Test.YtcihbmifogfdpaaGreatDoorRnd
import Derived.Test.YtcihbmifogfdpaaGreatDoorT8
import Derived.TacticsInMore
import Derived.LoopIn
import Derived.Lib.IndexLaws
import Derived.OwnWalkIn
namespace Go.Proofs.YtcihbmifogfdpaaGreatDoor
open Go.RowKit

attribute [local go_sem] Oper.semAt_some

theorem indexByte_any (w : World) (s : ByteArray) (c : Int) :
    Calls Tryz.prog 95 #[.string s, .int .u8 c] w fun e w' => e = .returned (.int .i64 (Lib.indexByte s.data.toList c.toNat.toUInt8)) ∧ w' = w := Any.strings_IndexByte Tryz.lIndexByte s c w

/-- the first line, and what follows it -/
def cutL (r : ByteArray) : ByteArray × ByteArray :=
  let i := Lib.indexByte r.data.toList 10
  if 0 ≤ i then (r.extract 0 (i + 1).toNat, r.extract (i + 1).toNat r.size) else (r, ⟨#[]⟩)
def strSz : Option Value → Nat
  | some (.string s) => s.size
  | _ => 0

set_option maxRecDepth 100000 in
set_option maxHeartbeats 4000000 in
theorem lines_st {w0 : World} {n B l D : Nat} (hn : 1 ≤ n) (rec : LoopState → Option Code → Loop) (I : ByteArray → List HP → Prop) (X : Code → List HP → Prop)
    (hY : ∀ (r : ByteArray) (R : List HP) (W : World), 0 < r.size → I r R → St w0 (HP.at l (.loop (rec .ready none)) :: HP.at D (.deferred (some [])) :: HP.blk B #[.string (cutL r).2] 9 :: R) W →
      YieldAt Fence.wide (n - 1) Tryz.prog l #[.string (cutL r).1] W fun e W' =>
        (e = .returned (.bool true) ∧ ∃ R, St w0 (HP.at l (.loop (rec .ready none)) :: HP.at D (.deferred (some [])) :: HP.blk B #[.string (cutL r).2] 9 :: R) W' ∧ I (cutL r).2 R) ∨
        (e = .returned (.bool false) ∧ ∃ c R, St w0 (HP.at l (.loop (rec .done (some c))) :: HP.at D (.deferred (some [])) :: R) W' ∧ X c R))
    (s : ByteArray) (hs63 : s.size ≤ 9223372036854775807) (R0 : List HP) (W : World) (h0 : I s R0) (hs : St w0 (HP.at l (.loop (rec .ready none)) :: HP.at D (.deferred (some [])) :: HP.blk B #[.string s] 9 :: R0) W) :
    CallsIn Fence.wide n Tryz.prog 94 (#[.func (.yield l) #[] #[]] ++ #[.pointer (some ⟨B, 0, none⟩)]) W fun e W' => (∃ v, e = .returned v) ∧
      ((∃ R, St w0 (HP.at l (.loop (rec .ready none)) :: HP.at D (.deferred (some [])) :: R) W' ∧ ∃ R', R = HP.blk B #[.string ByteArray.empty] 9 :: R' ∧ I ByteArray.empty R') ∨
       (∃ c R, St w0 (HP.at l (.loop (rec .done (some c))) :: HP.at D (.deferred (some [])) :: R) W' ∧ X c R)) := by
  have HI := Lib.hid h0
  have HS := Lib.hid hs
  have HY := Lib.hid hY
  clear h0 hs hY
  refine callsIn_of_wp Tryz.func94 rfl trivial ?_ rfl
  simp only [Tryz.ntmps94, List.size_toArray, List.length_cons, List.length_nil, Nat.reduceAdd, Nat.reduceSub, Array.replicate_succ, Array.replicate_zero, List.push_toArray, List.append_toArray, List.nil_append, List.cons_append]
  gi_wp2
  gi_loopw [] (fun wr => ∃ r R, Hid (r.size ≤ s.size) ∧ Hid (I r R) ∧ Hid (St w0 (HP.at l (.loop (rec .ready none)) :: HP.at D (.deferred (some [])) :: HP.blk B #[.string r] 9 :: R) wr)) (fun wr => strSz (wr.cell? ⟨B, 0, none⟩))
  case atStart => exact ⟨s, R0, Lib.hid (Nat.le_refl _), HI, HS⟩
  case round =>
    obtain ⟨r, R, hle, hI, hS⟩ := hrel
    have c0 := St.cells1 (hS.out.front 2)
    have f0 := St.frozen (hS.out.front 2) 0
    have hsz : strSz (wr.cell? ⟨B, 0, none⟩) = r.size := by rw [c0]; rfl
    by_cases hr : 0 < r.size
    · have hr' : (0 : Int) < (r.size : Int) := by omega
      obtain ⟨i, hi⟩ : ∃ i, Lib.indexByte r.data.toList 10 = i := ⟨_, rfl⟩
      have hidx : Hid (∀ w1, Calls Tryz.prog 95 #[.string r, .int .u8 10] w1 fun e w' => e = .returned (.int .i64 i) ∧ w1 = w') := Lib.hid fun w1 => (indexByte_any w1 r 10).mono fun e w' ⟨h1, h2⟩ => ⟨hi ▸ h1, h2.symm⟩
      by_cases h0i : 0 ≤ i
      · have hlt : i < r.size := by
          obtain ⟨o, rfl⟩ : ∃ o : Nat, i = o := ⟨i.toNat, by omega⟩
          have h9 := (List.getElem?_eq_some_iff.1 (Lib.indexByte_some hi).1).1
          rw [← Lib.size_eq] at h9
          omega
        have hi0 : 0 ≤ i + 1 := by omega
        have hi1 : i + 1 ≤ (r.size : Int) := by omega
        have hsm : (r.size : Int) ≤ 9223372036854775807 := by have := hle.out; omega
        have qw : IntKind.i64.wrap (i + 1) = i + 1 := IntWalk.i64_in _ (by omega)
        have hcut : Hid (cutL r = (r.extract 0 (i + 1).toNat, r.extract (i + 1).toNat r.size)) := Lib.hid (by unfold cutL; rw [hi]; simp [h0i])
        have hlt2 : Hid ((r.extract (i + 1).toNat r.size).size < r.size) := Lib.hid (by rw [ByteArray.size_extract]; omega)
        clear hi
        gi_wp2_with (first
          | (refine ⟨trivial, ?_⟩; gi_at_call 95; refine (callsIn_wide.2 (hidx.out _)).mono ?_; rintro e w' ⟨rfl, rfl⟩)
          | (gi_at_call 95; refine (callsIn_wide.2 (hidx.out _)).mono ?_; rintro e w' ⟨rfl, rfl⟩))
        refine wpIn_wide.2 ?_
        refine wp_region_par (w0 := w0) 0 9 [] [] (HP.at l (.loop (rec .ready none)) :: HP.at D (.deferred (some [])) :: HP.blk B #[.string r] 9 :: R) []
          (fun i v => True) (fun i v => HP.emp) (by kernel_rfl) (by kernel_rfl) rfl (by kernel_rfl) hS.out ?_
        simp only [List.take_succ_cons, List.take_zero, List.drop_succ_cons, List.drop_zero]
        iterate 9 (
          with_reducible refine wpPar_pure (by kernel_rfl) (fun K hK => ?_)
          go_simp
          apply Exists.intro
          refine ⟨fun G w1 h1 => ?_, hK _ ?_⟩
          (first
            | (with_reducible rfl)
            | (have c1 := St.cells1 (h1.front 2); go_simp; done)
            | (have c1 := St.cells1 (h1.front 2); go_simp; with_reducible rfl))
          clear hK K)
        refine wpPar_nil ?_
        intro w5 h5
        simp only [List.map_nil, List.nil_append] at h5
        have c5 := St.cells1 (h5.front 2)
        have f5 := St.frozen (h5.front 2) 0
        have H5 := Lib.hid (St.set (h5.front 2) 0 (.string (r.extract (i + 1).toNat r.size)))
        clear h5 c0 f0
        go_wp2_with fail
        obtain ⟨w6, hw6⟩ : ∃ w6, w5.setCell ⟨B, 0, none⟩ (.string (r.extract (i + 1).toNat r.size)) = w6 := ⟨_, rfl⟩
        rw [hw6] at H5 ⊢
        have h6 : St w0 (HP.at l (.loop (rec .ready none)) :: HP.at D (.deferred (some [])) :: HP.blk B #[.string (r.extract (i + 1).toNat r.size)] 9 :: R) w6 := H5.out.perm (by simp [HP.big]; ac_rfl)
        obtain ⟨fn, tmps, assign, body, hy, hR⟩ := HY.out r R w6 hr hI.out (by rw [hcut.out]; exact h6)
        rw [hcut.out] at hy hR
        dsimp only at hy
        gi_wp2
        refine hR.mono ?_
        rintro e W' (⟨rfl, R2, h7, h8⟩ | ⟨rfl, c, R2, h7, h8⟩)
        · have c7 := St.cells1 (h7.front 2)
          gi_wp2
          go_roundw
          case rel => exact ⟨_, R2, Lib.hid (by have := hlt2.out; have := hle.out; omega), Lib.hid h8, Lib.hid h7⟩
          case measure => rw [c7, hsz]; exact hlt2.out
        · gi_wp2
          refine bodyPost_ret (results_none rfl _ _ _) rfl ?_
          exact ⟨⟨_, rfl⟩, .inr ⟨c, R2, h7, h8⟩⟩
      · have hi9 : ¬ i ≥ 0 := h0i
        have hcut : Hid (cutL r = (r, ⟨#[]⟩)) := Lib.hid (by unfold cutL; rw [hi]; simp [h0i])
        have H5 := Lib.hid (St.set (hS.out.front 2) 0 (.string ⟨#[]⟩))
        have h6 : St w0 (HP.at l (.loop (rec .ready none)) :: HP.at D (.deferred (some [])) :: HP.blk B #[.string ⟨#[]⟩] 9 :: R) (wr.setCell ⟨B, 0, none⟩ (.string ⟨#[]⟩)) := H5.out.perm (by simp [HP.big]; ac_rfl)
        obtain ⟨fn, tmps, assign, body, hy, hR⟩ := HY.out r R _ hr hI.out (by rw [hcut.out]; exact h6)
        rw [hcut.out] at hy hR
        dsimp only at hy
        clear hi H5 h6
        gi_wp2_with (first
          | (refine ⟨trivial, ?_⟩; gi_at_call 95; refine (callsIn_wide.2 (hidx.out _)).mono ?_; rintro e w' ⟨rfl, rfl⟩)
          | (gi_at_call 95; refine (callsIn_wide.2 (hidx.out _)).mono ?_; rintro e w' ⟨rfl, rfl⟩))
        refine hR.mono ?_
        rintro e W' (⟨rfl, R2, h7, h8⟩ | ⟨rfl, c, R2, h7, h8⟩)
        · have c7 := St.cells1 (h7.front 2)
          gi_wp2
          go_roundw
          case rel => exact ⟨_, R2, Lib.hid (Nat.zero_le _), Lib.hid h8, Lib.hid h7⟩
          case measure => rw [c7, hsz]; exact hr
        · gi_wp2
          refine bodyPost_ret (results_none rfl _ _ _) rfl ?_
          exact ⟨⟨_, rfl⟩, .inr ⟨c, R2, h7, h8⟩⟩
    · have hr0 : ¬ (0 : Int) < (r.size : Int) := by omega
      gi_wp2
      go_end0
      obtain rfl : r = ByteArray.empty := ByteArray.size_eq_zero_iff.1 (by omega)
      exact ⟨⟨_, rfl⟩, .inl ⟨_, hS.out, R, rfl, hI.out⟩⟩
end Go.Proofs.YtcihbmifogfdpaaGreatDoor

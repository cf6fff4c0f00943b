/-
  sample.Diff's closure: the rows of a list are added to the map, so many times.
-/
import Derived.Test.YtcihbmifogfdpaaGreatDoorQE
namespace Go.Proofs.YtcihbmifogfdpaaGreatDoor
open Go.RowKit

abbrev strE : KeyE Tryz.prog 9 ByteArray := strKey Tryz.underlying9
theorem zero_row (w : World) : (zeroValue 47).run Tryz.prog w = .ok (zeroR ⟨#[]⟩).val w := by
  obtain ⟨i0, hi0, hz0, _, _⟩ := info_row
  simp [zeroValue, typeInfo, hi0, hz0, zeroR, Rw.val]
theorem getD_val (o : Option Rw) (z : Rw) : (o.map Rw.val).getD z.val = (o.getD z).val := by cases o <;> rfl

set_option maxRecDepth 10000 in
set_option maxHeartbeats 4000000 in
theorem dstep_any (w0 w : World) (F : List HP) (bm c : Nat) (a : Option Addr) (cap : Nat) (l R : List Rw) (sg : Int) (hsg : sg = 1 ∨ sg = -1) (hl : l.length ≤ 1000) (hw : ∀ r ∈ l, r.wf) (hb : ∀ r ∈ l, Bnd 1099511627776 r) (B : Int) (hB0 : 0 ≤ B) (hB : B ≤ 1099511627776000) (hR : ∀ x ∈ R, Bnd B x)
    (hr : RowsAt w0 (.slice a l.length cap) l) (h : St w0 (mapP strE bm (kvs R) :: HP.blk c #[.map (some bm)] 72 :: F) w) :
    Calls Tryz.prog 69 #[.slice a l.length cap, .int .i64 sg, .pointer (some ⟨c, 0, none⟩)] w fun e w' => e = .returned (.tuple #[]) ∧ St w0 (mapP strE bm (kvs (bumpAll sg l R)) :: HP.blk c #[.map (some bm)] 72 :: F) w' := by
  have HR := Lib.hid hr
  have H0 := Lib.hid h
  have HW := Lib.hid hw
  have HB := Lib.hid hb
  have HBR : Hid (∀ k, k ≤ l.length → ∀ x ∈ bumpAll sg (l.take k) R, Bnd (B + 1099511627776000) x) := Lib.hid fun k hk x hx => (bumpAll_bnd hsg (by decide) (l.take k) hB0 (fun y hy => hb y (List.mem_of_mem_take hy)) hR x hx).mono (by
    have : (l.take k).length ≤ 1000 := by rw [List.length_take]; omega
    omega)
  clear hr h hw hb hR
  go_enter Tryz.func69, Tryz.ntmps69
  go_wp2_with fail
  go_loopw [10] (fun i wr => ∃ (k : Nat), k ≤ l.length ∧ i = .int .i64 k ∧ Hid (St w0 (mapP strE bm (kvs (bumpAll sg (l.take k) R)) :: HP.blk c #[.map (some bm)] 72 :: F) wr)) (fun i _ => l.length - (intOf i).toNat)
  case atStart => exact ⟨0, Nat.zero_le _, rfl, H0⟩
  case round =>
    clear H0
    obtain ⟨k, hk, rfl, HS⟩ := hrel
    by_cases hlt : k < l.length
    · obtain ⟨r, hrk⟩ : ∃ r, l[k]? = some r := ⟨l[k], List.getElem?_eq_getElem hlt⟩
      have ik0 : (0 : Int) ≤ (k : Int) := by omega
      have ik1 : (k : Int) < (l.length : Int) := by omega
      obtain ⟨xb, xo, xc, e1, x0, x1, x2, x3, x4⟩ := RowsAt.at (Reads.grow HR.out HS.out.below) hrk
      injection e1 with e1 e11 e12
      subst e1
      clear e11 e12
      have hwf := HW.out r (List.mem_of_getElem? hrk)
      have hbd := HB.out r (List.mem_of_getElem? hrk)
      have HT : Hid (bumpAll sg (l.take (k + 1)) R = bump sg r (bumpAll sg (l.take k) R)) := Lib.hid (by rw [List.take_add_one, hrk]; exact bumpAll_snoc _ _ _ _)
      have hQ := HBR.out k hk
      generalize bumpAll sg (l.take k) R = Q at HS HT hQ
      obtain ⟨x, hx⟩ : ∃ x, (look Q r.site).getD (zeroR ⟨#[]⟩) = x := ⟨_, rfl⟩
      have hxb : Bnd (B + 1099511627776000) x := by
        rw [← hx]
        cases hl : look Q r.site with
        | none => exact ⟨⟨by simp [zeroR]; omega, by simp [zeroR]; omega⟩, ⟨by simp [zeroR]; omega, by simp [zeroR]; omega⟩, ⟨by simp [zeroR]; omega, by simp [zeroR]; omega⟩, ⟨by simp [zeroR]; omega, by simp [zeroR]; omega⟩⟩
        | some y => exact hQ y (lookR_mem hl).1
      have H1 := HS.out.allocRow #[.string r.site, .int .i64 r.a, .int .i64 r.b, .int .i64 r.c, .int .i64 r.d] 47
      have hlk := (St.lookG (H1.front 1) Tryz.underlying72 (zero_row _) (c := r.site) hwf.s).1
      rw [getG_kvs, getD_val, hx] at hlk
      have H2 := H1.allocRow #[.string x.site, .int .i64 x.a, .int .i64 x.b, .int .i64 x.c, .int .i64 x.d] 47
      obtain ⟨w5, hup, h5⟩ := St.putMap (H2.front 2) Tryz.underlying72 (c := r.site) hwf.s (newR sg r Q).val
      rw [putG_kvs] at h5
      have H5 := Lib.hid h5
      have cm := St.cells1 (HS.out.front 1)
      have cm1 := St.cells1 (H1.front 2)
      have cm2 := St.cells1 (H2.front 3)
      have hn : (newR sg r Q).val = .agg #[.string r.site, .int .i64 (x.a + sg * r.a), .int .i64 (x.b + sg * r.b), .int .i64 (x.c + sg * r.c), .int .i64 (x.d + sg * r.d)] := by unfold newR; rw [hx]; rfl
      rw [hn] at hup
      clear h5 H1 H2 hn hx hQ hrk
      obtain ⟨xs, xa, xb', xc', xd⟩ := r
      obtain ⟨ys, ya, yb, yc, yd⟩ := x
      obtain ⟨n1, n2, n3, n4⟩ := hbd
      obtain ⟨m1, m2, m3, m4⟩ := hxb
      simp only [Rw.val, strKey, strE] at hlk hup
      simp only at x0 x1 x2 x3 x4 n1 n2 n3 n4 m1 m2 m3 m4
      have sa : IntKind.i64.wrap (sg * xa) = sg * xa := IntWalk.i64_in _ (by rcases hsg with rfl | rfl <;> omega)
      have sb : IntKind.i64.wrap (sg * xb') = sg * xb' := IntWalk.i64_in _ (by rcases hsg with rfl | rfl <;> omega)
      have sc : IntKind.i64.wrap (sg * xc') = sg * xc' := IntWalk.i64_in _ (by rcases hsg with rfl | rfl <;> omega)
      have sd : IntKind.i64.wrap (sg * xd) = sg * xd := IntWalk.i64_in _ (by rcases hsg with rfl | rfl <;> omega)
      have ta : IntKind.i64.wrap (ya + sg * xa) = ya + sg * xa := IntWalk.i64_in _ (by rcases hsg with rfl | rfl <;> omega)
      have tb : IntKind.i64.wrap (yb + sg * xb') = yb + sg * xb' := IntWalk.i64_in _ (by rcases hsg with rfl | rfl <;> omega)
      have tc : IntKind.i64.wrap (yc + sg * xc') = yc + sg * xc' := IntWalk.i64_in _ (by rcases hsg with rfl | rfl <;> omega)
      have td : IntKind.i64.wrap (yd + sg * xd) = yd + sg * xd := IntWalk.i64_in _ (by rcases hsg with rfl | rfl <;> omega)
      clear n1 n2 n3 n4 m1 m2 m3 m4 hsg
      go_wp2_with fail
      go_roundw
      case rel => exact ⟨k + 1, hlt, by go_num, Lib.hid (by rw [HT.out]; exact H5.out.pick 3 [0])⟩
      case measure => simp [intOf]; omega
    · have ik1 : ¬ (k : Int) < (l.length : Int) := by omega
      have HF : Hid (l.take k = l) := Lib.hid (List.take_of_length_le (by omega))
      go_wp2_with fail
      go_end0
      exact ⟨rfl, by have := HS.out; rwa [HF.out] at this⟩
end Go.Proofs.YtcihbmifogfdpaaGreatDoor

/-
  What the machine does for an operation is what the operation does (ranges over strings, conversions, unsafe strings).
-/
import Derived.Test.YtcihbmifogfdpaaGreatDoorK9
import Derived.Laws.BytesString
import Derived.Lib.UnsafeStr
namespace Go.Proofs.YtcihbmifogfdpaaGreatDoor
open Go.RowKit
namespace Cl

section
variable {P : Program} {w0 w w' : World} {ρ : Pm} {nt : Nat} {g : Regs} {a : Act} {h : H} {n : Nat} {o : Oper} {x : Res Value} {v' : Value} {post : Value → World → Prop}

theorem range_ok (hr : Reg ρ nt g a) (hw : W P w0 ρ h w) {t : TypeId} {y : Operand} (ho : o.op = .range t y) (e : (rangeA P t (evA g y)).run n h = some x) : effAt P o a w (Post P w0 ρ x) := by
  unfold rangeA at e
  split at e
  · rename_i s ht hy
    obtain ⟨h4, h5, h6⟩ := fresh_then e
    have hle := hw.le_up h4 ⟨w.heap.size, 0, 0⟩
    have hw' := hw.new (o := .siter s 0) (ob := .stringIter s 0) (slack := 0) h4 ⟨hw.below.size, rfl, heap_alloc_new w _⟩
    have hv := G.nil_eq rfl (hr.ev hy)
    refine eff_v (v' := .pointer (some ⟨w.heap.size, 0, none⟩)) (w' := w.alloc (.stringIter s 0)) (s := Instr.range t (a.eval y)) (by unfold execOp; simp only [ho]) ?_ (.mk h5 h6 hle hw' (.ptr (upP_same _ _ _)))
    simp [Instr.range, run_underlying ht, hv]
  · rw [HM.fail_iff] at e; cases e
theorem next_ok (hr : Reg ρ nt g a) (hw : W P w0 ρ h w) {y : Operand} {str : Bool} (ho : o.op = .next y str) (e : (nextA (evA g y) str).run n h = some x) : effAt P o a w (Post P w0 ρ x) := by
  unfold nextA at e
  split at e
  · rename_i b hy
    obtain ⟨p, p1, p2⟩ := (hr.ev hy).ptr_inv
    rw [HM.bind_iff] at e
    obtain ⟨_, e1, x2, e2, rfl⟩ := e
    obtain ⟨ob, e3, rfl⟩ := getO_iff.1 e1
    simp only at e2
    split at e2
    · rename_i s pos
      obtain ⟨q, q1, q2, q3, q4⟩ := hw.obj b _ e3
      rw [p1] at q1
      cases q1
      have hget : (getObj p.blk).run P w = .ok (.stringIter s pos) w := by simp [getObj, Sem.run, q4]
      split at e2
      · rename_i hlt
        rw [Nat.blt_eq] at hlt
        simp only [HM.bind_iff, setO_iff, HM.pure_iff] at e2
        obtain ⟨_, ⟨_, rfl⟩, _, rfl, rfl⟩ := e2
        have hbl : p.blk < w.heap.size := (Array.getElem?_eq_some_iff.1 q4).1
        have hset : (setObj p.blk (.stringIter s (pos + (Utf8.decode s pos).2))).run P w = .ok () { w with heap := w.heap.setIfInBounds p.blk (.stringIter s (pos + (Utf8.decode s pos).2)) } := by simp [setObj, Sem.run, q4]
        refine eff_v (v' := .tuple #[.bool true, .int .i64 pos, .int .i32 (Utf8.decode s pos).1]) (w' := { w with heap := w.heap.setIfInBounds p.blk (.stringIter s (pos + (Utf8.decode s pos).2)) }) (s := Instr.next (a.eval y) true o.type) (by unfold execOp; simp only [ho]) ?_ ⟨ρ, Pm.le_refl _, ?_, G.of_closed 2 _ rfl⟩
        · rw [p2]
          simp only [q3, Nat.zero_add, Instr.next, Sem.run_bind, hget, Result.andThen_ok, hlt, if_true, hset, Sem.run_pure, goInt]
        · refine hw.set e3 rfl p1 ⟨rfl, rfl, rfl, by simp, fun j hj => ?_⟩ (fun j hj _ => ?_) ⟨q2, q3, by simp [hbl]⟩
          · simp only
            rw [Array.getElem?_setIfInBounds_ne (by omega)]
          · simp only
            rw [Array.getElem?_setIfInBounds_ne (Ne.symm hj)]
      · rename_i hlt
        have hlt' : ¬ pos < s.size := fun hh => by rw [← Nat.blt_eq, hlt] at hh; cases hh
        have := HM.pure_iff.1 e2
        subst this
        refine eff_v (v' := .tuple #[.bool false]) (w' := w) (s := Instr.next (a.eval y) true o.type) (by unfold execOp; simp only [ho]) ?_ ⟨ρ, Pm.le_refl _, hw, G.of_closed 2 _ rfl⟩
        rw [p2]
        simp only [q3, Nat.zero_add, Instr.next, Sem.run_bind, hget, Result.andThen_ok, hlt', if_false, Sem.run_pure]
    · rw [HM.fail_iff] at e2; cases e2
  · rw [HM.fail_iff] at e; cases e

/-! bytes -/
theorem bytesA_spec : ∀ {l : List Value} {r : List UInt8}, bytesA l = some r → ∃ ns : List Int, l = ns.map (Value.int .u8) ∧ r = ns.map fun z => UInt8.ofNat z.toNat
  | [], r, e => by
    simp [bytesA] at e
    subst e
    exact ⟨[], rfl, rfl⟩
  | v :: l, r, e => by
    unfold bytesA at e
    split at e
    · rename_i he; cases he
    · rename_i z l3 he
      cases he
      split at e
      · rename_i r2 hr2
        cases e
        obtain ⟨ns, h1, h2⟩ := bytesA_spec hr2
        exact ⟨z :: ns, by simp [h1], by simp [h2]⟩
      · cases e
    · cases e
theorem ints_G {ns : List Int} {l' : List Value} (hg : GL ρ (ns.map (Value.int .u8)) l') : l' = ns.map (Value.int .u8) := hg.eq_of fun u hu u' g => by
  obtain ⟨z, _, rfl⟩ := List.mem_map.1 hu
  exact g.int_eq
theorem foldl_push : ∀ (ns : List Int) (s : ByteArray), ns.foldl (fun r n => r.push (UInt8.ofNat n.toNat)) s = ⟨⟨s.data.toList ++ ns.map fun z => UInt8.ofNat z.toNat⟩⟩
  | [], s => by obtain ⟨⟨d⟩⟩ := s; simp
  | z :: ns, s => by
    rw [List.foldl_cons, foldl_push ns]
    obtain ⟨⟨d⟩⟩ := s
    simp [ByteArray.push]
theorem loadBytes_run {k : Nat} : ∀ (ns : List Int) (off : Nat) (acc : ByteArray), w.rangeAt k off (ns.map (Value.int .u8)) → (loadBytes ⟨k, off, none⟩ acc ns.length).run P w = .ok (ns.foldl (fun r n => r.push (UInt8.ofNat n.toNat)) acc) w
  | [], off, acc, _ => by simp [loadBytes]
  | z :: ns, off, acc, hl => by
    have h0 : w.cell? ⟨k, off, none⟩ = some (.int .u8 z) := by simpa using hl 0 _ rfl
    have ih := loadBytes_run ns (off + 1) (acc.push (UInt8.ofNat z.toNat)) (fun j u hu => by have := hl (j + 1) u (by simpa using hu); rwa [show off + (j + 1) = off + 1 + j by omega] at this)
    rw [List.length_cons, loadBytes]
    simp only [Sem.run_bind, run_load, h0, Result.andThen_ok, Addr.add_mid]
    rw [List.foldl_cons]
    exact ih
theorem liesAt_off {e : TypeId} (hc : P.cellsOf e = 1) (count off n : Nat) (hn : off + n ≤ count) : liesAt P P.depth e count off e n = true := by
  have hd : P.depth = (2 * (P.types.size + Made.depth) + 1) + 1 := rfl
  rw [hd]
  simp only [liesAt, Bool.or_eq_true]
  left
  rw [hd]
  simp [rowAt, hc, hn, sameLayout, Nat.mod_one]

theorem conv_ok (hr : Reg ρ nt g a) (hw : W P w0 ρ h w) {src dst : TypeId} {y : Operand} (ho : o.op = .convert src dst y) (e : (convA P (evA g) o src dst y).run n h = some x) : effAt P o a w (Post P w0 ρ x) := by
  unfold convA at e
  split at e
  · rename_i b off hy
    obtain ⟨p, p1, p2⟩ := (hr.ev hy).ptr_inv
    split at e
    · rename_i t hs hd
      rw [HM.bind_iff] at e
      obtain ⟨⟨⟨c, et, vec⟩, n1, h1, r1, q1⟩, e1, x2, e2, rfl⟩ := e
      obtain ⟨e3, e4⟩ := getC_inv e1
      simp only at e2 e3 e4
      subst e3
      split at e2
      · rename_i r m hk hlt
        rw [Nat.blt_eq] at hlt
        have := HM.pure_iff.1 e2
        subst this
        obtain ⟨d, i, t1, t2, t3, t4⟩ := tk_spec hk
        obtain ⟨_, _, C, c1, c2, _⟩ := hw.row e4 p1
        have hoff : ¬ (C.size ≤ p.base + off) := by omega
        refine eff_v (v' := .pointer (some ⟨p.blk, p.base + off, none⟩)) (w' := w) (s := convert src dst (a.eval y)) (by unfold execOp; simp only [ho]) ?_ ⟨ρ, Pm.le_refl _, hw, .ptr p1⟩
        rw [p2]
        simp [convert, run_underlying hs, run_underlying hd, Conv.unsafePointer, Conv.seenAt, viewAt, World.shape?, c1, cellsIn, sizeOf, typeInfo, t2, t3, hoff]
      · rw [HM.fail_iff] at e2; cases e2
    · rename_i u hs hd
      rw [HM.bind_iff] at e
      obtain ⟨⟨⟨c, et, vec⟩, n1, h1, r1, q1⟩, e1, x2, e2, rfl⟩ := e
      obtain ⟨e3, e4⟩ := getC_inv e1
      simp only at e2 e3 e4
      subst e3
      split at e2
      · rename_i rk hku hlies
        obtain ⟨rk, sk⟩ := rk
        have := HM.pure_iff.1 e2
        subst this
        obtain ⟨_, c0, C, c1, c2, _⟩ := hw.row e4 p1
        obtain ⟨s0, b0⟩ := c0 rfl
        rw [s0, b0] at c2
        simp only [Nat.zero_mul, Nat.zero_add, Nat.add_zero] at c2
        rw [← c2] at hlies
        refine eff_v (v' := .pointer (some ⟨p.blk, p.base + off, none⟩)) (w' := w) (s := convert src dst (a.eval y)) (by unfold execOp; simp only [ho]) ?_ ⟨ρ, Pm.le_refl _, hw, .ptr p1⟩
        rw [p2, b0, Nat.zero_add]
        have hvar : (variablesAt ⟨p.blk, off, none⟩ u 1).run P w = .ok true w := by simp [variablesAt, World.shape?, c1, hlies]
        obtain ⟨d, i, t1, t2, t3, t4⟩ := tk_spec hku
        simp [convert, run_underlying hs, run_underlying hd, Conv.unsafePointer, Conv.seenAt, viewAt, World.shape?, c1, sizeOf, typeInfo, t2, hvar]
      · rw [HM.fail_iff] at e2; cases e2
    · rw [HM.fail_iff] at e; cases e
  · rename_i b off sp m c hy
    obtain ⟨p, c', p1, p2, _⟩ := (hr.ev hy).slice_inv
    split at e
    · rename_i et hs hd
      split at e
      · rename_i he
        rw [HM.bind_iff] at e
        obtain ⟨⟨⟨c, et', vec⟩, n1, h1, r1, q1⟩, e1, x2, e2, rfl⟩ := e
        obtain ⟨e3, e4⟩ := getC_inv e1
        simp only at e2 e3 e4
        subst e3
        simp only [HM.bind_iff, HM.opt_iff, HM.pure_iff] at e2
        obtain ⟨_, ⟨l, hl, rfl⟩, _, ⟨_, ⟨r, hrr, rfl⟩, _, rfl, rfl⟩, rfl⟩ := e2
        obtain ⟨l', g1, g2, g3⟩ := hw.range e4 p1 hl
        obtain ⟨ns, rfl, rfl⟩ := bytesA_spec hrr
        obtain rfl := ints_G g1
        have hc : (loadCells ⟨p.blk, p.base + off, none⟩ m).run P w = .ok (ns.map (Value.int .u8)).toArray w := by
          rw [← g2]
          exact run_loadCells_list (P := P) w ⟨p.blk, p.base + off, none⟩ _ (fun j v hv => by rw [Addr.add_mid]; exact g3 j v hv)
        have hrun := run_bytesToString (P := P) w ⟨p.blk, p.base + off, none⟩ m c' ns hc
        rw [foldl_push] at hrun
        refine eff_v (v' := .string ⟨⟨ns.map fun z => UInt8.ofNat z.toNat⟩⟩) (w' := w) (s := convert src dst (a.eval y)) (by unfold execOp; simp only [ho]) ?_ ⟨ρ, Pm.le_refl _, hw, .flat rfl⟩
        rw [p2]
        simp only [convert, Sem.run_bind, run_underlying hs, run_underlying hd, Result.andThen_ok, run_underlying he, hrun]
        rfl
      · rw [HM.fail_iff] at e; cases e
    · rw [HM.fail_iff] at e; cases e
  · exact clo_ok hr hw (fun cs b => by rw [ho]; simp) e
theorem unsafeString_run (hw : W P w0 ρ h w) {pt it ty : TypeId} {u v u' v' : Value} (hu : G ρ u u') (hv : G ρ v v') (e : (unsafeStringA P pt (some u) (some v)).run n h = some x) : ∃ v2 w2, (Builtin.unsafeString_ #[pt, it] ty #[u', v']).run P w = .ok v2 w2 ∧ Post P w0 ρ x v2 w2 := by
  unfold unsafeStringA at e
  split at e
  · rename_i b off k m et hu' hv' hpt
    cases hu'
    cases hv'
    obtain ⟨p, p1, rfl⟩ := hu.ptr_inv
    have hv2 := hv.int_eq
    subst hv2
    split at e
    · rename_i m hc1 hm
      have hc1' := Nat.eq_of_beq_eq_true hc1
      rw [Nat.ble_eq] at hm
      rw [HM.bind_iff] at e
      obtain ⟨⟨⟨c, et', vec⟩, n1, h1, r1, q1⟩, e1, x2, e2, rfl⟩ := e
      obtain ⟨e3, e4⟩ := getC_inv e1
      simp only at e2 e3 e4
      subst e3
      split at e2
      · rename_i hte
        obtain rfl := Nat.eq_of_beq_eq_true hte
        simp only [HM.bind_iff, HM.opt_iff, HM.pure_iff, setO_iff] at e2
        obtain ⟨_, ⟨l, hl, rfl⟩, _, ⟨_, ⟨r, hrr, rfl⟩, _, ⟨_, ⟨_, rfl⟩, _, rfl, rfl⟩, rfl⟩, rfl⟩ := e2
        obtain ⟨l', g1, g2, g3⟩ := hw.range e4 p1 hl
        obtain ⟨ns, rfl, rfl⟩ := bytesA_spec hrr
        obtain rfl := ints_G g1
        obtain ⟨k1, k2, C, k3, k4, k5⟩ := hw.row e4 p1
        have hlen : ns.length = m + 1 := by simpa using g2
        rcases takeA_iff.1 hl with ⟨hle, _⟩ | ⟨h0, _⟩
        · have hlb := loadBytes_run (P := P) ns (p.base + off) .empty g3
          rw [foldl_push, hlen] at hlb
          have hlies := liesAt_off (P := P) hc1' (C.size / P.cellsOf et) (p.base + off) (m + 1) (by rw [hc1', Nat.div_one]; omega)
          have h63 : ¬ (9223372036854775807 : Int) < ((m : Int) + 1) := by omega
          have hdef : Builtin.unsafeString_ #[pt, it] ty #[.pointer (some ⟨p.blk, p.base + off, none⟩), .int k ((m + 1 : Nat) : Int)] =
              (do
                let n ← asInt (.int k ((m + 1 : Nat) : Int))
                if n < 0 then runtimePanic (.error "unsafe.String: len out of range")
                if n > IntKind.i64.max then unsupported (.unsafePointer "String: a length above the largest int")
                if n = 0 then pure (.string .empty)
                else if ← variablesAt ⟨p.blk, p.base + off, none⟩ (← elemOf pt) n.toNat then do
                  let s ← loadBytes ⟨p.blk, p.base + off, none⟩ .empty n.toNat
                  freeze ⟨p.blk, p.base + off, none⟩ n.toNat
                  pure (.string s)
                else unsupported (.unsafePointer "String: not so many bytes at ptr")) := rfl
          refine ⟨.string ⟨⟨ns.map fun z => UInt8.ofNat z.toNat⟩⟩, w.freeze ⟨p.blk, p.base + off, none⟩ (m + 1), ?_, ρ, Pm.le_refl _, ?_, .flat rfl⟩
          · have hmax : IntKind.i64.max = 9223372036854775807 := rfl
            have hneg : ¬ ((m : Int) + 1 < 0) := by omega
            have hne : ¬ ((m : Int) + 1 = 0) := by omega
            have htn : ((m : Int) + 1).toNat = m + 1 := by omega
            have := hdef
            simp only [Int.natCast_add, Int.cast_ofNat_Int] at this
            show (Builtin.unsafeString_ #[pt, it] ty #[.pointer (some ⟨p.blk, p.base + off, none⟩), .int k ((m + 1 : Nat) : Int)]).run P w = _
            rw [hdef]
            simp [asInt, asIntOf, hmax, hneg, h63, hne, htn, variablesAt, World.shape?, k3, elemOf, run_underlying hpt, hlies, hlb]
          · have hg := hw.setGone e4
            refine hg.world (Lib.below_freeze (Below.refl _ _) k1 _) fun j oj q hj hl2 hq => ?_
            rw [hget_set] at hj
            split at hj
            · cases hj; cases hl2
            · rename_i hne
              have hbl := hw.inj j b oj _ q p hne hj e4 hq p1 hl2 rfl
              unfold World.freeze
              rw [if_neg (by omega)]
              simp only
              rw [Array.getElem?_modify, if_neg (Ne.symm hbl)]
        · omega
      · rw [HM.fail_iff] at e2; cases e2
    · rw [HM.fail_iff] at e; cases e
  · rw [HM.fail_iff] at e; cases e
end
end Cl
end Go.Proofs.YtcihbmifogfdpaaGreatDoor

/-
  The reference's Parse.
-/
import Derived.Test.YtcihbmifogfdpaaGreatDoorRA
import Derived.Test.YtcihbmifogfdpaaGreatDoorRA
import Derived.Test.YtcihbmifogfdpaaGreatDoorR6
import Derived.Test.YtcihbmifogfdpaaGreatDoorR7
namespace Go.Proofs.YtcihbmifogfdpaaGreatDoor
open Go.RowKit

theorem St.both {w0 w1 w2 : World} {L M : List HP} (h : St w0 L w1) (h2 : St w1 M w2) : St w0 (M ++ L) w2 := by
  obtain ⟨hb, m, hm, hc⟩ := h
  obtain ⟨hb2, m2, hm2, hc2⟩ := h2
  refine ⟨hb.trans (hb2.mono hb.size), m2.join m, ?_, fun b o hbo => ?_⟩
  · rw [HP.big_append]
    refine ⟨m2, m, fun i => ?_, rfl, hm2, hm⟩
    cases e : m2 i with
    | none => exact .inl rfl
    | some o =>
      refine .inr ?_
      cases e2 : m i with
      | none => rfl
      | some o2 =>
        have h1 := (hc2 i o e).1
        have h3 := (Array.getElem?_eq_some_iff.1 (hc i o2 e2).2).1
        omega
  · unfold HL.join at hbo
    cases e : m2 b with
    | some o2 =>
      rw [e] at hbo
      cases hbo
      have h1 := hc2 b o e
      exact ⟨Nat.le_trans hb.size h1.1, h1.2⟩
    | none =>
      rw [e] at hbo
      have h3 := hc b o hbo
      refine ⟨h3.1, ?_⟩
      rw [hb2.block b (Array.getElem?_eq_some_iff.1 h3.2).1]
      exact h3.2

theorem HP.arr_cell1 {w0 w : World} {F : List HP} {t : TypeId} {m b off cap : Nat} {xs : List Value} (h : St w0 (HP.arr t 1 (.slice (some ⟨b, off, none⟩) m cap) m xs :: F) w) {p : Nat} {x : Value} (hx : xs[p]? = some x) : w.cell? ⟨b, off + p, none⟩ = some x := by
  rcases (HP.arr_reads h).2 with ⟨hv, _⟩ | ⟨b', off', sp', cap', hv, _, _, hc⟩
  · cases hv
  · cases hv
    exact hc _ _ hx
theorem sp_len (c : UInt8) (l : List UInt8) : ∃ N, (sp c l).length = N + 1 := by
  cases h : sp c l with
  | nil => exact absurd h (sp_ne c l)
  | cons x r => exact ⟨r.length, rfl⟩
theorem sp_size {c : UInt8} : ∀ {l x : List UInt8}, x ∈ sp c l → x.length ≤ l.length
  | [], x, h => by simp [sp] at h; simp [h]
  | b :: l, x, h => by
    rw [sp_cons] at h
    have ih := fun x => @sp_size c l x
    split at h
    · rcases List.mem_cons.1 h with rfl | h
      · simp
      · have := ih _ h; simp; omega
    · split at h
      · simp only [List.mem_singleton] at h
        subst h
        simp
      · rename_i y r e
        rcases List.mem_cons.1 h with rfl | h
        · have := ih y (by rw [e]; simp); simp; omega
        · have := ih x (by rw [e]; simp [h]); simp; omega
theorem strV_get (l : List (List UInt8)) {k : Nat} {x : List UInt8} (h : l[k]? = some x) : (l.map strV)[k]? = some (.string ⟨x.toArray⟩) := by
  rw [List.getElem?_map, h]; rfl
/-- what the reference's Parse gives -/
def rPost (w : World) (s : ByteArray) (e : Ending) (w' : World) : Prop := match rParse s.data.toList with
  | some l => ∃ v, e = .returned (.tuple #[v, .int .i64 0]) ∧ (∀ r ∈ l, r.wf) ∧ St w [HP.arr 47 5 v l.length (rowsC l)] w'
  | none => e = .returned (.tuple #[.slice none 0 0, .int .i64 2]) ∧ Below w.heap.size w w'
theorem natP_lt {s : List UInt8} {v : Nat} (h : natP 13 s = some v) : v < 10 ^ 13 := by
  unfold natP at h
  split at h
  · cases h
  · rename_i h1
    have := natFrom_lt _ _ _ h
    have h2 : 10 ^ s.length ≤ 10 ^ 13 := Nat.pow_le_pow_right (by omega) (by omega)
    omega
theorem rRows_len : ∀ (i : Nat) (L : List (List UInt8)) (l : List Rw), rRows i L = some l → l.length = L.length
  | _, [], l, h => by cases h; rfl
  | i, x :: L, l, h => by
    unfold rRows at h
    split at h
    · cases h
    · split at h
      · rename_i r hr
        obtain ⟨l', h1, rfl⟩ := Option.map_eq_some_iff.1 h
        simp [rRows_len _ _ _ h1]
      · cases h
theorem rRows_step {i : Nat} {x : List UInt8} {L : List (List UInt8)} {r : Rw} (hi : i < 200) (hr : rRow (sp 32 x) = some r) : rRows i (x :: L) = (rRows (i + 1) L).map fun rs => r :: rs := by
  rw [rRows, if_neg (by omega), hr]
theorem rRows_bad {i : Nat} {x : List UInt8} {L : List (List UInt8)} (h : 200 ≤ i ∨ rRow (sp 32 x) = none) : rRows i (x :: L) = none := by
  rw [rRows]
  split
  · rfl
  · rcases h with h | h
    · omega
    · rw [h]
theorem five' {α : Type} {P : List α} (h : P.length = 5) : ∃ p0 p1 p2 p3 p4, P = [p0, p1, p2, p3, p4] := by
  match P, h with
  | [p0, p1, p2, p3, p4], _ => exact ⟨p0, p1, p2, p3, p4, rfl⟩
theorem rRow_five {P : List (List UInt8)} (h : P.length ≠ 5) : rRow P = none := by
  unfold rRow
  split
  · simp at h
  · rfl
theorem rPost_none {w w' : World} {s : ByteArray} (h : rParse s.data.toList = none) (hb : Below w.heap.size w w') : rPost w s (.returned (.tuple #[.slice none 0 0, .int .i64 2])) w' := by
  unfold rPost
  rw [h]
  exact ⟨rfl, hb⟩

/-- the row of a line's words, once all its numbers have been read -/
theorem rRow_all {p0 p1 p2 p3 p4 : List UInt8} {c : Nat → Int} (h : ∀ j, j < 4 → ∃ p v, [p1, p2, p3, p4][j]? = some p ∧ natP 13 p = some v ∧ c j = (v : Int)) : rRow [p0, p1, p2, p3, p4] = some ⟨⟨p0.toArray⟩, c 0, c 1, c 2, c 3⟩ ∧ i64r (c 0) ∧ i64r (c 1) ∧ i64r (c 2) ∧ i64r (c 3) := by
  obtain ⟨q1, v1, e1, a1, b1⟩ := h 0 (by omega)
  obtain ⟨q2, v2, e2, a2, b2⟩ := h 1 (by omega)
  obtain ⟨q3, v3, e3, a3, b3⟩ := h 2 (by omega)
  obtain ⟨q4, v4, e4, a4, b4⟩ := h 3 (by omega)
  cases e1; cases e2; cases e3; cases e4
  have l1 := natP_lt a1
  have l2 := natP_lt a2
  have l3 := natP_lt a3
  have l4 := natP_lt a4
  refine ⟨by simp only [rRow, a1, a2, a3, a4, b1, b2, b3, b4], ?_, ?_, ?_, ?_⟩ <;> unfold i64r <;> omega
theorem rRow_none {p0 p1 p2 p3 p4 : List UInt8} {j : Nat} {p : List UInt8} (hj : [p1, p2, p3, p4][j]? = some p) (h : natP 13 p = none) : rRow [p0, p1, p2, p3, p4] = none := by
  have hlt := (List.getElem?_eq_some_iff.1 hj).1
  simp only [List.length_cons, List.length_nil] at hlt
  cases hR : rRow [p0, p1, p2, p3, p4] with
  | none => rfl
  | some r =>
    exfalso
    unfold rRow at hR
    simp only at hR
    split at hR
    · rename_i a1 a2 a3 a4 e1 e2 e3 e4
      rcases (by omega : j = 0 ∨ j = 1 ∨ j = 2 ∨ j = 3) with e | e | e | e <;> subst e <;> cases hj
      · rw [h] at e1; cases e1
      · rw [h] at e2; cases e2
      · rw [h] at e3; cases e3
      · rw [h] at e4; cases e4
    · cases hR

set_option maxRecDepth 10000 in
set_option maxHeartbeats 4000000 in
theorem rparse_any (w : World) (s : ByteArray) (hs : s.size ≤ 1000000) :
    Calls Tryz.prog 20 #[.string s] w (rPost w s) := by
  obtain ⟨N, hN⟩ := sp_len 10 s.data.toList
  obtain ⟨L, hL⟩ : ∃ L, sp 10 s.data.toList = L := ⟨_, rfl⟩
  have hss : s.data.toList.length = s.size := rfl
  have HSZ : Hid (∀ x ∈ L, x.length ≤ 1000000) := Lib.hid fun x hx => by have := sp_size (hL ▸ hx : x ∈ sp 10 s.data.toList); omega
  have hNb : N ≤ 1000001 := by
    have h1 := join_sp 10 s.data.toList
    rw [hL] at h1 hN
    have h2 : ∀ (L : List (List UInt8)), L.length ≤ (joinW 10 L).length + 1 := by
      intro L
      induction L with
      | nil => simp
      | cons x L ih =>
        cases L with
        | nil => simp [joinW]
        | cons y L => simp only [joinW, List.length_cons, List.length_append] at *; omega
    have := h2 L
    rw [h1] at this
    omega
  have cL : Hid (∀ w', Calls Tryz.prog 53 #[.string s, .int .u8 10] w' fun e w'' => ∃ b off cap, e = .returned (.slice (some ⟨b, off, none⟩) (N + 1) cap) ∧ N + 1 ≤ cap ∧ St w' [HP.arr 9 1 (.slice (some ⟨b, off, none⟩) (N + 1) cap) (N + 1) (L.map strV)] w'') := Lib.hid fun w' => (rsplit_any w' s 10 (by omega)).mono fun e w'' ⟨a, cap, h1, h2⟩ => by
    rw [hL] at hN h1 h2
    rw [hN] at h1 h2
    rcases HP.arr_form h2 with ⟨_, h3⟩ | ⟨b, off, cap', h3, h4⟩
    · omega
    · cases h3
      exact ⟨b, off, _, h1, h4, h2⟩
  rw [hL] at hN
  have cP : Hid (∀ x ∈ L, ∀ w', ∃ M, (sp 32 x).length = M ∧ Calls Tryz.prog 53 #[.string ⟨x.toArray⟩, .int .u8 32] w' fun e w'' => ∃ b off cap, e = .returned (.slice (some ⟨b, off, none⟩) M cap) ∧ St w' [HP.arr 9 1 (.slice (some ⟨b, off, none⟩) M cap) M ((sp 32 x).map strV)] w'') := Lib.hid fun x hx w' => by
    obtain ⟨M, hM⟩ := sp_len 32 x
    refine ⟨M + 1, hM, (rsplit_any w' ⟨x.toArray⟩ 32 ?_).mono fun e w'' ⟨a, cap, h1, h2⟩ => ?_⟩
    · have := HSZ.out x hx
      show x.toArray.size ≤ _
      simp only [List.size_toArray]
      omega
    · have e9 : (⟨x.toArray⟩ : ByteArray).data.toList = x := rfl
      rw [e9, hM] at h1 h2
      rcases HP.arr_form h2 with ⟨_, h3⟩ | ⟨b, off, cap', h3, h4⟩
      · omega
      · cases h3
        exact ⟨b, off, _, h1, h2⟩
  obtain ⟨xl, hxl⟩ : ∃ x, L[N]? = some x := ⟨L[N]'(by omega), List.getElem?_eq_getElem (by omega)⟩
  have hlast : L.getLast? = some xl := by rw [List.getLast?_eq_getElem?, hN]; exact hxl
  have eN : ((N + 1 : Nat) : Int) - 1 = (N : Int) := by omega
  have N0 : (0 : Int) ≤ (N : Int) := Int.natCast_nonneg _
  have N1 : (N : Int) < ((N + 1 : Nat) : Int) := by omega
  have qw : IntKind.i64.wrap (N : Int) = (N : Int) := IntWalk.i64_in _ (by omega)
  have HXL : Hid ((L.map strV)[N]? = some (.string ⟨xl.toArray⟩)) := Lib.hid (strV_get L hxl)
  by_cases hx : xl = []
  · subst hx
    have HP0 : Hid (rParse s.data.toList = match rRows 0 L.dropLast with
      | some l => if isProfB l = true then some l else none
      | none => none) := Lib.hid (by unfold rParse; rw [hL, hlast]; rfl)
    clear hlast hxl hL hss
    obtain ⟨i0, hi0, hz0, hz1, hz2⟩ := info_row
    have HI := Lib.hid hi0; have Z0 := Lib.hid hz0; have Z1 := Lib.hid hz1; have Z2 := Lib.hid hz2
    clear hi0 hz0 hz1 hz2
    have HDL : Hid (∀ k x, k < N → L[k]? = some x → L.dropLast.drop k = x :: L.dropLast.drop (k + 1)) := Lib.hid fun k x hk hx => by
      have h1 : L.dropLast[k]? = some x := by rw [List.getElem?_dropLast, if_pos (by omega)]; exact hx
      obtain ⟨h2, h3⟩ := List.getElem?_eq_some_iff.1 h1
      rw [List.drop_eq_getElem_cons h2, h3]
    have HDN : Hid (L.dropLast.drop N = []) := Lib.hid (List.drop_eq_nil_of_le (by rw [List.length_dropLast, hN]; omega))
    go_enter Tryz.func20, Tryz.ntmps20
    go_wp2_with (go_at_call 53; refine (cL.out _).mono ?_; rintro e w2 ⟨b, off, cap, rfl, hcap, hS⟩; have HS := Lib.hid hS; have cN := HP.arr_cell1 hS HXL.out; clear hS cL)
    have H0 : Hid (St w [HP.arr 47 5 (.slice none 0 0) 0 (rowsC []), HP.arr 9 1 (.slice (some ⟨b, off, none⟩) (N + 1) cap) (N + 1) (L.map strV)] w2) := Lib.hid (HS.out.arr_nil 47 5)
    clear HS cN HXL hcap
    go_loopw [5, 6] (fun rows i wr => ∃ (k : Nat) (acc : List Rw) (va : Option Addr) (vc : Nat), acc.length = k ∧ k ≤ N ∧ k ≤ 200 ∧ rows = .slice va k vc ∧ i = .int .i64 k ∧ Hid (rRows 0 L.dropLast = (rRows k (L.dropLast.drop k)).map (acc ++ ·)) ∧ Hid (∀ r ∈ acc, r.wf) ∧ Hid (St w [HP.arr 47 5 (.slice va k vc) k (rowsC acc), HP.arr 9 1 (.slice (some ⟨b, off, none⟩) (N + 1) cap) (N + 1) (L.map strV)] wr)) (fun _ i _ => N - (intOf i).toNat)
    case atStart => exact ⟨0, [], none, 0, rfl, Nat.zero_le _, by omega, rfl, rfl, Lib.hid (by simp), Lib.hid (fun r hr => by cases hr), H0⟩
    case round =>
      clear H0
      obtain ⟨k, acc, va, vc, hka, hkN, hk200, rfl, rfl, HA, HWF, HT⟩ := hrel
      by_cases hlt : k < N
      · obtain ⟨x, hxk⟩ : ∃ x, L[k]? = some x := ⟨L[k]'(by omega), List.getElem?_eq_getElem (by omega)⟩
        have hxm : x ∈ L := List.mem_of_getElem? hxk
        have hk0 : (0 : Int) ≤ (k : Int) := Int.natCast_nonneg _
        have hk1 : (k : Int) < (N : Int) := by omega
        have hk2 : (k : Int) < (N : Int) + 1 := by omega
        have ck := HP.arr_cell1 (HT.out.front 1) (strV_get L hxk)
        obtain ⟨M, hM, cS⟩ := cP.out x hxm wr
        have CS := Lib.hid cS
        have HBAD : Hid (200 ≤ k ∨ rRow (sp 32 x) = none → rParse s.data.toList = none) := Lib.hid fun h => by
          rw [HP0.out, HA.out, HDL.out k x hlt hxk, rRows_bad h]; rfl
        have HGOOD : Hid (∀ r, k < 200 → rRow (sp 32 x) = some r → rRows 0 L.dropLast = (rRows (k + 1) (L.dropLast.drop (k + 1))).map ((acc ++ [r]) ++ ·)) := Lib.hid fun r h1 h2 => by
          rw [HA.out, HDL.out k x hlt hxk, rRows_step h1 h2, Option.map_map]
          congr 1
          funext rs
          simp
        have HXS : Hid (∀ p ∈ sp 32 x, p.length ≤ 1000000) := Lib.hid fun p hp => by have := sp_size hp; have := HSZ.out x hxm; omega
        clear cS hxk hxm
        generalize sp 32 x = P at *
        by_cases h5 : M = 5
        · subst h5
          by_cases h200 : k < 200
          · have ha2 : ¬ (200 : Int) ≤ (k : Int) := by omega
            obtain ⟨p0, p1, p2, p3, p4, hP5⟩ := five' hM
            subst hP5
            go_wp2_with (go_at_call 53; refine CS.out.mono ?_; rintro e w3 ⟨b2, off2, cap2, rfl, hS⟩; have HS := Lib.hid (HT.out.both hS); clear hS CS)
            have H4 := Lib.hid (HS.out.allocRow #[.int .i64 0, .int .i64 0, .int .i64 0, .int .i64 0] 105)
            clear HS HT ck HA
            go_loopw [9] (fun i wi => ∃ (m : Nat) (c : Nat → Int), m ≤ 4 ∧ i = .int .i64 m ∧ Hid (∀ j, j < m → ∃ p v, [p1, p2, p3, p4][j]? = some p ∧ natP 13 p = some v ∧ c j = (v : Int)) ∧ Hid (St w [HP.blk w3.heap.size #[.int .i64 (c 0), .int .i64 (c 1), .int .i64 (c 2), .int .i64 (c 3)] 105, HP.arr 9 1 (.slice (some ⟨b2, off2, none⟩) 5 cap2) 5 ([p0, p1, p2, p3, p4].map strV), HP.arr 47 5 (.slice va k vc) k (rowsC acc), HP.arr 9 1 (.slice (some ⟨b, off, none⟩) (N + 1) cap) (N + 1) (L.map strV)] wi)) (fun i _ => 4 - (intOf i).toNat)
            case atStart => exact ⟨0, fun _ => 0, Nat.zero_le _, rfl, Lib.hid (fun j hj => by omega), H4⟩
            case round =>
              clear H4
              obtain ⟨m, c, hm, rfl, HC, HI4⟩ := hrel
              by_cases hm4 : m = 4
              · subst hm4
                obtain ⟨row, hrw⟩ : ∃ row : Rw, row = ⟨⟨p0.toArray⟩, c 0, c 1, c 2, c 3⟩ := ⟨_, rfl⟩
                have HRW := Lib.hid hrw
                have HRO := Lib.hid (rRow_all (p0 := p0) HC.out)
                clear hrw HC
                have FACTS : Hid (∀ G wx, St w (HP.blk w3.heap.size #[.int .i64 (c 0), .int .i64 (c 1), .int .i64 (c 2), .int .i64 (c 3)] 105 :: HP.arr 9 1 (.slice (some ⟨b2, off2, none⟩) 5 cap2) 5 ([p0, p1, p2, p3, p4].map strV) :: G) wx → wx.cell? ⟨w3.heap.size, 0, none⟩ = some (.int .i64 (c 0)) ∧ wx.cell? ⟨w3.heap.size, 1, none⟩ = some (.int .i64 (c 1)) ∧ wx.cell? ⟨w3.heap.size, 2, none⟩ = some (.int .i64 (c 2)) ∧ wx.cell? ⟨w3.heap.size, 3, none⟩ = some (.int .i64 (c 3)) ∧ wx.cell? ⟨b2, off2, none⟩ = some (.string ⟨p0.toArray⟩)) := Lib.hid (fun G wx hx => by
                  obtain ⟨x0, x1, x2, x3⟩ := St.cells4 hx
                  exact ⟨x0, x1, x2, x3, HP.arr_cell1 (hx.front 1) (p := 0) rfl⟩)
                have HST : Hid (St w ([HP.arr 47 5 (.slice va k vc) k (rowsC acc)] ++ (HP.blk w3.heap.size #[.int .i64 (c 0), .int .i64 (c 1), .int .i64 (c 2), .int .i64 (c 3)] 105 :: HP.arr 9 1 (.slice (some ⟨b2, off2, none⟩) 5 cap2) 5 ([p0, p1, p2, p3, p4].map strV) :: HP.arr 9 1 (.slice (some ⟨b, off, none⟩) (N + 1) cap) (N + 1) (L.map strV) :: [])) wr) := Lib.hid (HI4.out.perm (by simp only [HP.big, HP.big_append]; ac_rfl))
                clear HI4
                go_wp2_with fail
                refine wp_region_par (w0 := w) 1 15 [15] [HP.arr 47 5 (.slice va k vc) k (rowsC acc)] (HP.blk w3.heap.size #[.int .i64 (c 0), .int .i64 (c 1), .int .i64 (c 2), .int .i64 (c 3)] 105 :: HP.arr 9 1 (.slice (some ⟨b2, off2, none⟩) 5 cap2) 5 ([p0, p1, p2, p3, p4].map strV) :: HP.arr 9 1 (.slice (some ⟨b, off, none⟩) (N + 1) cap) (N + 1) (L.map strV) :: []) [(13, []), (14, [0, 14])]
                  (fun i v => if i = 13 then ∃ a, v = .slice (some a) 1 1 else ∃ a' c', v = .slice a' (k + 1) c')
                  (fun i v => if i = 13 then HP.arr 47 5 v 1 row.cells else HP.arr 47 5 v (k + 1) (rowsC acc ++ row.cells)) (by kernel_rfl) (by kernel_rfl) rfl (by kernel_rfl) HST.out ?_
                simp only [List.take_succ_cons, List.take_zero, List.drop_succ_cons, List.drop_zero]
                iterate 13 (
                  with_reducible refine wpPar_pure (by kernel_rfl) (fun K hK => ?_)
                  go_simp
                  apply Exists.intro
                  refine ⟨fun G w1 h1 => ?_, hK _ ?_⟩
                  (first
                    | (with_reducible rfl)
                    | (obtain ⟨q0, q1, q2, q3, q4⟩ := FACTS.out _ w1 h1; go_simp; done)
                    | (obtain ⟨q0, q1, q2, q3, q4⟩ := FACTS.out _ w1 h1; go_simp; with_reducible rfl))
                  clear hK K)
                refine wpPar_eff (c := []) (by kernel_rfl) ⟨.slice (some ⟨0, 0, none⟩) 1 1, ⟨_, rfl⟩⟩ (fun G w1 h1 => ?_) (fun v hv K hK => ?_)
                · simp only [List.map_nil, List.nil_append] at h1
                  go_simp
                  have h2 := h1.newArr 47 5 1 row.cells rfl (by decide)
                  rw [HRW.out] at h2 ⊢
                  simpa [Rw.cells] using h2
                simp only [if_true] at hv
                obtain ⟨a8, rfl⟩ := hv
                refine hK _ ?_; clear hK K
                refine wpPar_eff (c := [0, 14]) (by kernel_rfl) ⟨.slice none (k + 1) 0, (show ∃ a' c', (Value.slice none (k + 1) 0) = .slice a' (k + 1) c' from ⟨_, _, rfl⟩)⟩ (fun G w1 h1 => ?_) (fun v hv K hK => ?_)
                · simp [tokA, upd] at h1
                  have R1 := HP.arr_reads (h1.drop)
                  refine eff_append_st _ _ 22 rfl 47 i0 _ 5 48 Tryz.underlying22 HI.out Z0.out Z1.out Z2.out rfl _ _ rfl rfl k (rowsC acc) h1 1 row.cells R1 (by rw [HRW.out]; intro u hu; simp [Rw.cells] at hu; rcases hu with rfl | rfl | rfl | rfl | rfl <;> rfl) (by simp only [maxLen]; omega) (by omega) ?_
                  intro v' w' hs' _
                  obtain ⟨a7, p7, rfl⟩ := (HP.arr_reads hs').form
                  refine ⟨⟨a7, p7, rfl⟩, ?_⟩
                  have hs2 := hs'.swap.drop
                  simpa using hs2
                simp only [show ¬ ((14 : Nat) = 13) by decide, if_false] at hv
                obtain ⟨a9, p9, rfl⟩ := hv
                refine hK _ ?_; clear hK K
                refine wpPar_nil ?_
                intro w5 h5
                simp [tokA, upd] at h5
                have H5 := Lib.hid h5
                clear h5
                go_wp2_with fail
                go_roundw
                case rel =>
                  have hrc : rowsC (acc ++ [row]) = rowsC acc ++ row.cells := by simp [rowsC]
                  refine ⟨k + 1, acc ++ [row], a9, p9, by simp [hka], hlt, by omega, rfl, by go_num, Lib.hid (HGOOD.out row h200 (by rw [HRO.out.1, HRW.out])), Lib.hid ?_, Lib.hid ?_⟩
                  · intro y hy
                    rcases List.mem_append.1 hy with hy | hy
                    · exact HWF.out y hy
                    · rw [List.mem_singleton] at hy
                      subst hy
                      rw [HRW.out]
                      refine ⟨?_, HRO.out.2.1, HRO.out.2.2.1, HRO.out.2.2.2.1, HRO.out.2.2.2.2⟩
                      have := HXS.out p0 (by simp)
                      show p0.toArray.size ≤ maxLen
                      simp only [List.size_toArray, maxLen]
                      omega
                  · rw [hrc]
                    exact (H5.out.pick 4 [0, 3])
                case measure => simp [intOf]; omega
              · rcases (by omega : m = 0 ∨ m = 1 ∨ m = 2 ∨ m = 3) with h | h | h | h <;> subst h
                · have y0 := HP.arr_cell1 (HI4.out.front 1) (p := 1) (x := .string ⟨p1.toArray⟩) rfl
                  have hsp := HXS.out p1 (by simp)
                  have cm := St.cell (HI4.out.front 0) (i := 0) rfl
                  have fm := St.frozen (HI4.out.front 0) 0
                  have cA : ∀ w1, Calls Tryz.prog 54 #[.string ⟨p1.toArray⟩, .int .i64 13] w1 fun e w' => e = .returned (.tuple #[.int .i64 (natV (natP 13 p1)), .bool (natP 13 p1).isSome]) ∧ w1 = w' := fun w1 => natural_any w1 ⟨p1.toArray⟩ 13 (by decide) (by show p1.toArray.size ≤ _; simp only [List.size_toArray]; omega) (fun h => fits_short (by have h' : p1.toArray.size ≤ 13 := h; simp only [List.size_toArray] at h'; show p1.length ≤ 18; omega))
                  rcases hA : natP 13 p1 with _ | av
                  · have HN := Lib.hid hA
                    rw [hA] at cA
                    have CA := Lib.hid cA
                    clear hA cA hsp cm fm
                    go_wp2_with (go_at_call 54; refine (CA.out _).mono ?_; rintro e w4 ⟨rfl, rfl⟩)
                    go_ret2
                    exact rPost_none (HBAD.out (.inr (rRow_none (j := 0) rfl HN.out))) HI4.out.below
                  · have HN := Lib.hid hA
                    rw [hA] at cA
                    have CA := Lib.hid cA
                    clear hA cA hsp
                    go_wp2_with (go_at_call 54; refine (CA.out _).mono ?_; rintro e w4 ⟨rfl, rfl⟩)
                    have HX := Lib.hid (St.set (HI4.out.front 0) 0 (.int .i64 (av : Int)))
                    go_roundw
                    case rel =>
                      refine ⟨1, upd c 0 av, by omega, by go_num, Lib.hid fun j hj => ?_, Lib.hid ?_⟩
                      · by_cases hjm : j = 0
                        · subst hjm
                          exact ⟨p1, av, rfl, HN.out, by rw [upd_at]⟩
                        · obtain ⟨q, v, e1, e2, e3⟩ := HC.out j (by omega)
                          exact ⟨q, v, e1, e2, by rw [upd_ne hjm]; exact e3⟩
                      · have h9 := HX.out
                        simpa [upd, natV] using h9
                    case measure => simp [intOf]
                · have y0 := HP.arr_cell1 (HI4.out.front 1) (p := 2) (x := .string ⟨p2.toArray⟩) rfl
                  have hsp := HXS.out p2 (by simp)
                  have cm := St.cell (HI4.out.front 0) (i := 1) rfl
                  have fm := St.frozen (HI4.out.front 0) 1
                  have cA : ∀ w1, Calls Tryz.prog 54 #[.string ⟨p2.toArray⟩, .int .i64 13] w1 fun e w' => e = .returned (.tuple #[.int .i64 (natV (natP 13 p2)), .bool (natP 13 p2).isSome]) ∧ w1 = w' := fun w1 => natural_any w1 ⟨p2.toArray⟩ 13 (by decide) (by show p2.toArray.size ≤ _; simp only [List.size_toArray]; omega) (fun h => fits_short (by have h' : p2.toArray.size ≤ 13 := h; simp only [List.size_toArray] at h'; show p2.length ≤ 18; omega))
                  rcases hA : natP 13 p2 with _ | av
                  · have HN := Lib.hid hA
                    rw [hA] at cA
                    have CA := Lib.hid cA
                    clear hA cA hsp cm fm
                    go_wp2_with (go_at_call 54; refine (CA.out _).mono ?_; rintro e w4 ⟨rfl, rfl⟩)
                    go_ret2
                    exact rPost_none (HBAD.out (.inr (rRow_none (j := 1) rfl HN.out))) HI4.out.below
                  · have HN := Lib.hid hA
                    rw [hA] at cA
                    have CA := Lib.hid cA
                    clear hA cA hsp
                    go_wp2_with (go_at_call 54; refine (CA.out _).mono ?_; rintro e w4 ⟨rfl, rfl⟩)
                    have HX := Lib.hid (St.set (HI4.out.front 0) 1 (.int .i64 (av : Int)))
                    go_roundw
                    case rel =>
                      refine ⟨2, upd c 1 av, by omega, by go_num, Lib.hid fun j hj => ?_, Lib.hid ?_⟩
                      · by_cases hjm : j = 1
                        · subst hjm
                          exact ⟨p2, av, rfl, HN.out, by rw [upd_at]⟩
                        · obtain ⟨q, v, e1, e2, e3⟩ := HC.out j (by omega)
                          exact ⟨q, v, e1, e2, by rw [upd_ne hjm]; exact e3⟩
                      · have h9 := HX.out
                        simpa [upd, natV] using h9
                    case measure => simp [intOf]
                · have y0 := HP.arr_cell1 (HI4.out.front 1) (p := 3) (x := .string ⟨p3.toArray⟩) rfl
                  have hsp := HXS.out p3 (by simp)
                  have cm := St.cell (HI4.out.front 0) (i := 2) rfl
                  have fm := St.frozen (HI4.out.front 0) 2
                  have cA : ∀ w1, Calls Tryz.prog 54 #[.string ⟨p3.toArray⟩, .int .i64 13] w1 fun e w' => e = .returned (.tuple #[.int .i64 (natV (natP 13 p3)), .bool (natP 13 p3).isSome]) ∧ w1 = w' := fun w1 => natural_any w1 ⟨p3.toArray⟩ 13 (by decide) (by show p3.toArray.size ≤ _; simp only [List.size_toArray]; omega) (fun h => fits_short (by have h' : p3.toArray.size ≤ 13 := h; simp only [List.size_toArray] at h'; show p3.length ≤ 18; omega))
                  rcases hA : natP 13 p3 with _ | av
                  · have HN := Lib.hid hA
                    rw [hA] at cA
                    have CA := Lib.hid cA
                    clear hA cA hsp cm fm
                    go_wp2_with (go_at_call 54; refine (CA.out _).mono ?_; rintro e w4 ⟨rfl, rfl⟩)
                    go_ret2
                    exact rPost_none (HBAD.out (.inr (rRow_none (j := 2) rfl HN.out))) HI4.out.below
                  · have HN := Lib.hid hA
                    rw [hA] at cA
                    have CA := Lib.hid cA
                    clear hA cA hsp
                    go_wp2_with (go_at_call 54; refine (CA.out _).mono ?_; rintro e w4 ⟨rfl, rfl⟩)
                    have HX := Lib.hid (St.set (HI4.out.front 0) 2 (.int .i64 (av : Int)))
                    go_roundw
                    case rel =>
                      refine ⟨3, upd c 2 av, by omega, by go_num, Lib.hid fun j hj => ?_, Lib.hid ?_⟩
                      · by_cases hjm : j = 2
                        · subst hjm
                          exact ⟨p3, av, rfl, HN.out, by rw [upd_at]⟩
                        · obtain ⟨q, v, e1, e2, e3⟩ := HC.out j (by omega)
                          exact ⟨q, v, e1, e2, by rw [upd_ne hjm]; exact e3⟩
                      · have h9 := HX.out
                        simpa [upd, natV] using h9
                    case measure => simp [intOf]
                · have y0 := HP.arr_cell1 (HI4.out.front 1) (p := 4) (x := .string ⟨p4.toArray⟩) rfl
                  have hsp := HXS.out p4 (by simp)
                  have cm := St.cell (HI4.out.front 0) (i := 3) rfl
                  have fm := St.frozen (HI4.out.front 0) 3
                  have cA : ∀ w1, Calls Tryz.prog 54 #[.string ⟨p4.toArray⟩, .int .i64 13] w1 fun e w' => e = .returned (.tuple #[.int .i64 (natV (natP 13 p4)), .bool (natP 13 p4).isSome]) ∧ w1 = w' := fun w1 => natural_any w1 ⟨p4.toArray⟩ 13 (by decide) (by show p4.toArray.size ≤ _; simp only [List.size_toArray]; omega) (fun h => fits_short (by have h' : p4.toArray.size ≤ 13 := h; simp only [List.size_toArray] at h'; show p4.length ≤ 18; omega))
                  rcases hA : natP 13 p4 with _ | av
                  · have HN := Lib.hid hA
                    rw [hA] at cA
                    have CA := Lib.hid cA
                    clear hA cA hsp cm fm
                    go_wp2_with (go_at_call 54; refine (CA.out _).mono ?_; rintro e w4 ⟨rfl, rfl⟩)
                    go_ret2
                    exact rPost_none (HBAD.out (.inr (rRow_none (j := 3) rfl HN.out))) HI4.out.below
                  · have HN := Lib.hid hA
                    rw [hA] at cA
                    have CA := Lib.hid cA
                    clear hA cA hsp
                    go_wp2_with (go_at_call 54; refine (CA.out _).mono ?_; rintro e w4 ⟨rfl, rfl⟩)
                    have HX := Lib.hid (St.set (HI4.out.front 0) 3 (.int .i64 (av : Int)))
                    go_roundw
                    case rel =>
                      refine ⟨4, upd c 3 av, by omega, by go_num, Lib.hid fun j hj => ?_, Lib.hid ?_⟩
                      · by_cases hjm : j = 3
                        · subst hjm
                          exact ⟨p4, av, rfl, HN.out, by rw [upd_at]⟩
                        · obtain ⟨q, v, e1, e2, e3⟩ := HC.out j (by omega)
                          exact ⟨q, v, e1, e2, by rw [upd_ne hjm]; exact e3⟩
                      · have h9 := HX.out
                        simpa [upd, natV] using h9
                    case measure => simp [intOf]
          · have ha2 : (200 : Int) ≤ (k : Int) := by omega
            have HPN := Lib.hid (HBAD.out (.inl (by omega)))
            go_wp2_with (go_at_call 53; refine CS.out.mono ?_; rintro e w3 ⟨b2, off2, cap2, rfl, hS⟩; have HS := Lib.hid (HT.out.both hS); clear hS CS)
            go_ret2
            exact rPost_none HPN.out HS.out.below
        · have h5' : ((M : Int) != 5) = true := by simp; omega
          have HPN := Lib.hid (HBAD.out (.inr (rRow_five (by omega))))
          go_wp2_with (go_at_call 53; refine CS.out.mono ?_; rintro e w3 ⟨b2, off2, cap2, rfl, hS⟩; have HS := Lib.hid (HT.out.both hS); clear hS CS)
          go_ret2
          exact rPost_none HPN.out HS.out.below
      · have hkN2 : k = N := by omega
        subst hkN2
        have HE : Hid (rParse s.data.toList = if isProfB acc = true then some acc else none) := Lib.hid (by rw [HP0.out, HA.out, HDN.out, rRows]; simp)
        have cI := Lib.hid (is_any wr va vc acc HWF.out (by omega) (by rw [hka]; unfold RowsAt; rw [hka]; exact HP.arr_reads HT.out))
        rw [hka] at cI
        by_cases hp : isProfB acc = true
        · rw [hp] at cI
          have HR2 : Hid (rParse s.data.toList = some acc) := Lib.hid (by rw [HE.out, if_pos hp])
          clear hp HA HE
          go_wp2_with (go_at_call 25; refine cI.out.mono ?_; rintro e w3 ⟨rfl, hb3⟩; have HB3 := Lib.hid hb3; clear hb3)
          go_ret2
          unfold rPost
          rw [HR2.out]
          exact ⟨_, rfl, HWF.out, by rw [hka]; exact (HT.out.grow HB3.out).pick 2 [0]⟩
        · have HR2 : Hid (rParse s.data.toList = none) := Lib.hid (by rw [HE.out, if_neg hp])
          rw [Bool.not_eq_true] at hp
          rw [hp] at cI
          clear hp HA HE
          go_wp2_with (go_at_call 25; refine cI.out.mono ?_; rintro e w3 ⟨rfl, hb3⟩; have HB3 := Lib.hid hb3; clear hb3)
          go_ret2
          exact rPost_none HR2.out (HT.out.grow HB3.out).below
  · have HP0 : Hid (rParse s.data.toList = none) := Lib.hid (by unfold rParse; rw [hL, hlast, if_neg (by simpa using hx)])
    have hne : xl.isEmpty = false := by cases xl with | nil => exact absurd rfl hx | cons => rfl
    clear hlast hxl hL hss
    go_enter Tryz.func20, Tryz.ntmps20
    go_wp2_with (go_at_call 53; refine (cL.out _).mono ?_; rintro e w2 ⟨b, off, cap, rfl, hcap, hS⟩; have HS := Lib.hid hS; have cN := HP.arr_cell1 hS HXL.out; clear hS cL)
    go_ret2
    exact rPost_none HP0.out HS.out.below
end Go.Proofs.YtcihbmifogfdpaaGreatDoor

/-
  The reference's add on the nil slice, and on whatever slice; the reference's Diff.
-/
import Derived.Test.YtcihbmifogfdpaaGreatDoorRD
import Derived.Test.YtcihbmifogfdpaaGreatDoorR6
namespace Go.Proofs.YtcihbmifogfdpaaGreatDoor
open Go.RowKit

set_option maxRecDepth 10000 in
set_option maxHeartbeats 2000000 in
theorem radd_nil (w : World) (r : Rw) :
    Calls Tryz.prog 72 #[.slice none 0 0, r.val] w fun e w' => ∃ v, e = .returned v ∧ St w [HP.arr 47 5 v 1 (rowsC [r])] w' := by
  obtain ⟨i0, hi0, hz0, hz1, hz2⟩ := info_row
  have HI := Lib.hid hi0; have Z0 := Lib.hid hz0; have Z1 := Lib.hid hz1; have Z2 := Lib.hid hz2
  clear hi0 hz0 hz1 hz2
  obtain ⟨rs, ra, rb, rc, rd⟩ := r
  have H0 : Hid (St w [HP.blk w.heap.size #[.string rs, .int .i64 ra, .int .i64 rb, .int .i64 rc, .int .i64 rd] 47] (w.alloc (.cells #[.string rs, .int .i64 ra, .int .i64 rb, .int .i64 rc, .int .i64 rd] 47))) := Lib.hid ((St.start w).allocRow _ _)
  simp only [Rw.val]
  go_enter Tryz.func72, Tryz.ntmps72
  go_wp2_with fail
  go_loopw [5] (fun i wr => i = .int .i64 0 ∧ Hid (St w [HP.blk w.heap.size #[.string rs, .int .i64 ra, .int .i64 rb, .int .i64 rc, .int .i64 rd] 47] wr)) (fun i _ => 0)
  case atStart => exact ⟨rfl, H0⟩
  case round =>
    clear H0
    obtain ⟨rfl, HS⟩ := hrel
    obtain ⟨r0, r1, r2, r3, r4⟩ := St.cells5 HS.out
    go_wp2_with fail
    go_quiet (fail)
    obtain ⟨n1, hn1⟩ : ∃ n1, n1 = nq := ⟨nq, rfl⟩; subst hn1
    go_wp2_with fail
    go_quiet (fail)
    have HN := Lib.hid ((HS.out.drewN (n1 + nq)).newArr 47 5 0 [] rfl (by decide))
    clear r0 r1 r2 r3 r4
    go_wp2_with (first
      | (at_builtin; refine wpList_append_st rfl _ _ 22 rfl 47 i0 _ 5 48 Tryz.underlying22 HI.out Z0.out Z1.out Z2.out rfl _ _ rfl rfl 0 [] (by exact HN.out) 0 [] (by exact Reads.nil _ 5) (by intro u hu; cases hu) (by unfold maxLen; omega) (by omega) ?_; intro v' w7 hs2 hv2; clear hv2; obtain ⟨a7, p7, rfl⟩ := (HP.arr_reads hs2).form; have H8 : Hid (St w (HP.arr 47 5 (.slice a7 0 p7) 0 [] :: [HP.blk w.heap.size #[.string rs, .int .i64 ra, .int .i64 rb, .int .i64 rc, .int .i64 rd] 47]) w7) := Lib.hid (by simpa using hs2); obtain ⟨q0, q1, q2, q3, q4⟩ := St.cells5 (H8.out.front 1); have H9 := Lib.hid (H8.out.newArr 47 5 1 [.string rs, .int .i64 ra, .int .i64 rb, .int .i64 rc, .int .i64 rd] rfl (by decide)); clear hs2 HN)
      | (at_builtin; refine wpList_append_st rfl _ _ 22 rfl 47 i0 _ 5 48 Tryz.underlying22 HI.out Z0.out Z1.out Z2.out rfl _ _ rfl rfl 0 [] (by exact H9.out.swap) 1 [.string rs, .int .i64 ra, .int .i64 rb, .int .i64 rc, .int .i64 rd] (by exact (HP.arr_reads H9.out)) (by intro u hu; simp at hu; rcases hu with rfl | rfl | rfl | rfl | rfl <;> rfl) (by unfold maxLen; omega) (by omega) ?_; intro v' w10 hs2 hv2; clear hv2; obtain ⟨a10, p10, rfl⟩ := (HP.arr_reads hs2).form; have H10 := Lib.hid hs2; clear hs2 q0 q1 q2 q3 q4)
      | (at_builtin; refine wpList_append_st rfl _ _ 22 rfl 47 i0 _ 5 48 Tryz.underlying22 HI.out Z0.out Z1.out Z2.out rfl _ _ rfl rfl (0 + 1) ([] ++ [.string rs, .int .i64 ra, .int .i64 rb, .int .i64 rc, .int .i64 rd]) (by exact H10.out) 0 [] (by exact Reads.nil _ 5) (by intro u hu; cases hu) (by unfold maxLen; omega) (by omega) ?_; intro v' w11 hs2 hv2; clear hv2; have H11 := Lib.hid hs2; clear hs2))
    go_ret
    refine ⟨_, rfl, ?_⟩
    have h := H11.out.pick 3 [0]
    simpa [rowsC, Rw.cells] using h

/-- rows that a call may be handed: the nil slice, or rows somewhere -/
def Rows0 (w : World) (v : Value) (l : List Rw) : Prop := (v = .slice none 0 0 ∧ l = []) ∨ ∃ b o cap, v = .slice (some ⟨b, o, none⟩) l.length cap ∧ l.length ≤ cap ∧ RowsAt w v l
theorem Rows0.at {w : World} {v : Value} {l : List Rw} (h : Rows0 w v l) : (∃ a cap, v = .slice a l.length cap) ∧ RowsAt w v l := by
  rcases h with ⟨rfl, rfl⟩ | ⟨b, o, cap, rfl, _, h⟩
  · exact ⟨⟨none, 0, rfl⟩, Reads.nil w 5⟩
  · exact ⟨⟨_, _, rfl⟩, h⟩
theorem Rows0.grow {w w' : World} {v : Value} {l : List Rw} (h : Rows0 w v l) (hb : Below w.heap.size w w') : Rows0 w' v l := by
  rcases h with h | ⟨b, o, cap, h1, h2, h3⟩
  · exact .inl h
  · exact .inr ⟨b, o, cap, h1, h2, Reads.grow h3 hb⟩
theorem rows0_of {w0 w : World} {v : Value} {l : List Rw} {F : List HP} (h : St w0 (HP.arr 47 5 v l.length (rowsC l) :: F) w) : Rows0 w v l := by
  rcases HP.arr_form h with ⟨rfl, hz⟩ | ⟨b, o, cap, rfl, hc⟩
  · exact .inl ⟨rfl, List.eq_nil_of_length_eq_zero hz⟩
  · exact .inr ⟨b, o, cap, rfl, hc, HP.arr_reads h⟩
theorem radd_any (w : World) (v : Value) (l : List Rw) (r : Rw) (hl : l.length ≤ 1000000) (hr : Rows0 w v l) (hs : ∀ x ∈ l, x.sm) (hsr : r.sm) :
    Calls Tryz.prog 72 #[v, r.val] w fun e w' => ∃ v', e = .returned v' ∧ Rows0 w' v' (addR r l) ∧ Below w.heap.size w w' := by
  rcases hr with ⟨rfl, rfl⟩ | ⟨b, o, cap, rfl, hc, hr⟩
  · exact (radd_nil w r).mono fun e w' ⟨v', h1, h2⟩ => ⟨v', h1, rows0_of (l := [r]) h2, h2.below⟩
  · exact (radd_some w b o cap l r hl hc hr hs hsr).mono fun e w' ⟨v', h1, h2⟩ => ⟨v', h1, rows0_of h2, h2.below⟩
theorem addR_len (r : Rw) : ∀ l, (addR r l).length ≤ l.length + 1
  | [] => by simp [addR]
  | x :: l => by
    unfold addR
    have := addR_len r l
    split
    · simp; omega
    · split <;> simp
/-- numbers that stay within some bound -/
def Bnd (B : Int) (r : Rw) : Prop := (-B ≤ r.a ∧ r.a ≤ B) ∧ (-B ≤ r.b ∧ r.b ≤ B) ∧ (-B ≤ r.c ∧ r.c ≤ B) ∧ (-B ≤ r.d ∧ r.d ≤ B)
theorem addR_bnd {B C : Int} (hC : 0 ≤ C) (hB : 0 ≤ B) {r : Rw} (hr : Bnd C r) : ∀ {l : List Rw}, (∀ x ∈ l, Bnd B x) → ∀ x ∈ addR r l, Bnd (B + C) x
  | [], _, x, hx => by
    simp [addR] at hx
    subst hx
    obtain ⟨h1, h2, h3, h4⟩ := hr
    exact ⟨by omega, by omega, by omega, by omega⟩
  | y :: l, h, x, hx => by
    have up : ∀ z, Bnd B z → Bnd (B + C) z := fun z ⟨h1, h2, h3, h4⟩ => ⟨by omega, by omega, by omega, by omega⟩
    unfold addR at hx
    split at hx
    · rcases List.mem_cons.1 hx with rfl | hx
      · exact up _ (h _ (List.mem_cons_self ..))
      · exact addR_bnd hC hB hr (fun z hz => h z (List.mem_cons_of_mem _ hz)) x hx
    · split at hx
      · rcases List.mem_cons.1 hx with rfl | hx
        · obtain ⟨h1, h2, h3, h4⟩ := hr
          obtain ⟨k1, k2, k3, k4⟩ := h y (List.mem_cons_self ..)
          unfold Bnd plusR
          simp only
          exact ⟨by omega, by omega, by omega, by omega⟩
        · exact up _ (h _ (List.mem_cons_of_mem _ hx))
      · rcases List.mem_cons.1 hx with rfl | hx
        · obtain ⟨h1, h2, h3, h4⟩ := hr
          exact ⟨by omega, by omega, by omega, by omega⟩
        · rcases List.mem_cons.1 hx with rfl | hx
          · exact up _ (h _ (List.mem_cons_self ..))
          · exact up _ (h _ (List.mem_cons_of_mem _ hx))
theorem Bnd.sm {B : Int} (hB : B ≤ 2305843009213693952) {r : Rw} (h : Bnd B r) : r.sm := by
  obtain ⟨h1, h2, h3, h4⟩ := h
  exact ⟨by omega, by omega, by omega, by omega⟩
theorem addAll_snoc (l acc : List Rw) (r : Rw) : addAll (l ++ [r]) acc = addR r (addAll l acc) := by simp [addAll]
end Go.Proofs.YtcihbmifogfdpaaGreatDoor

/-
  Tick and Drain of a cache of package transfer; its Len and Low.
-/
import Derived.Test.YthlmjdkpkikcpaaT3
namespace Go.Proofs.Ythlmjdkpkikcpaa
open Go.RowKit

set_option maxHeartbeats 400000 in
theorem clone2_any (w0 w : World) (F : List HP) (a : Option Addr) (n cap : Nat) (ys : List Value) (hs : St w0 F w) (hr : Reads w 1 (.slice a n cap) n ys) (h1 : ∀ u ∈ ys, u.oneCell' = true) (hn : n ≤ 1000000) :
    Calls Try.prog 43 #[.slice a n cap] w fun e w' => ∃ a' c', e = .returned (.slice a' n c') ∧ St w0 (HP.arr 27 1 (.slice a' n c') n ys :: F) w' := by
  obtain ⟨i0, hi, hz0, hz1, hz2⟩ := info_parts info27
  have hq := fun (w : World) (a : Option Addr) (n c : Nat) => Lib.run_eql_slice_nil (P := Try.prog) w 26 27 a n c 0 0 Try.underlying26
  cases a with
  | none =>
    go_enter Try.func43, Try.ntmps43
    go_wp2_with fail
    go_ret
    obtain ⟨hl, h | ⟨b, off, sp, cap', h, _⟩⟩ := hr
    · cases h.1
      have : ys = [] := List.eq_nil_of_length_eq_zero (by simpa using hl)
      subst this
      exact ⟨_, _, rfl, hs.arr_nil 27 1⟩
    · cases h
  | some a =>
    have hnew := hs.newArr 27 1 0 [] rfl (by decide)
    have hrn := hr.alloc (.cells #[] 27)
    go_enter Try.func43, Try.ntmps43
    go_wp2_with (at_builtin; refine wpList_append_st rfl _ _ 26 rfl 27 i0 _ 1 24 Try.underlying26 hi hz0 hz1 hz2 rfl _ _ rfl rfl 0 [] hnew n ys hrn h1 (by unfold maxLen; omega) (by omega) ?_; intro v' w' hs' hv')
    simp only [Nat.zero_add, List.nil_append] at hs'
    obtain ⟨a', c', rfl⟩ := (HP.arr_reads hs').form
    go_ret
    exact ⟨_, _, rfl, hs'⟩

theorem tick_many (w : World) (c : Nat) (low : Int) (c2 : w.cell? ⟨c, 2, none⟩ = some (.int .i64 low)) (h0 : 0 ≤ low) (h8 : low ≤ 8) :
    Calls Try.prog 32 #[.pointer (some ⟨c, 0, none⟩)] w fun e w' => e = .returned (.int .i64 ((low + 1) / 2)) ∧ w = w' := by
  go_enter Try.func32, Try.ntmps32
  go_wp2
  go_ret
  exact ⟨rfl, rfl⟩
theorem drain_many (w : World) (c : Nat) (a : Option Addr) (m cap n : Nat) (hn : Hid (n = m)) (c3 : w.cell? ⟨c, 3, none⟩ = some (.slice a m cap)) :
    Calls Try.prog 33 #[.pointer (some ⟨c, 0, none⟩)] w fun e w' => e = .returned (.int .i64 n) ∧ w = w' := by
  rw [hn.out]
  clear hn
  go_enter Try.func33, Try.ntmps33
  go_wp2
  go_ret
  exact ⟨rfl, rfl⟩
theorem drain_nil (w : World) (c : Nat) (c3 : w.cell? ⟨c, 3, none⟩ = some (.slice none 0 0)) :
    Calls Try.prog 33 #[.pointer (some ⟨c, 0, none⟩)] w fun e w' => e = .returned (.int .i64 0) ∧ w = w' := by
  go_enter Try.func33, Try.ntmps33
  go_wp2
  go_ret
  exact ⟨rfl, rfl⟩
theorem oneCell_rows {w0 w : World} : ∀ {vs : List Value} {bs : List (List Int)} {F : List HP}, vs.length = bs.length → St w0 (rowsC vs bs :: F) w → ∀ u ∈ vs, u.oneCell' = true
  | [], [], _, _, _, u, hu => by cases hu
  | v :: vs, b :: bs, F, hl, h, u, hu => by
    simp only [rowsC] at h
    have h := St.two.1 h
    rcases List.mem_cons.1 hu with rfl | hu
    · obtain ⟨a, cap, rfl⟩ := (HP.arr_reads h).form
      rfl
    · exact oneCell_rows (by simpa using hl) h.swap u hu
theorem rowsC_split : ∀ (n : Nat) (vs : List Value) (bs : List (List Int)), vs.length = bs.length → rowsC vs bs = rowsC (vs.take n) (bs.take n) * rowsC (vs.drop n) (bs.drop n)
  | 0, vs, bs, _ => by simp only [List.take_zero, List.drop_zero, rowsC]; rw [HP.emp_sep]
  | n + 1, [], [], _ => by simp only [List.take_nil, List.drop_nil, rowsC]; rw [HP.emp_sep]
  | n + 1, v :: vs, b :: bs, h => by
    simp only [List.take_succ_cons, List.drop_succ_cons, rowsC]
    rw [rowsC_split n vs bs (by simpa using h), HP.sep_assoc]

/-- behind evict's two stores -/
theorem evict_end {w0 w : World} {F : List HP} {c n : Nat} {batch room low : Int} {bs : List (List Int)} {vs : List Value} {u v1 : Value} {a : Addr} {cap : Nat} (hvl : vs.length = bs.length) (hn : n ≤ bs.length) (hcap : bs.length ≤ cap) {A : HP}
    (h : St w0 (HP.arr 27 1 v1 (bs.length - n) (vs.drop n) :: A :: HP.blk c #[.int .i64 batch, .int .i64 room, .int .i64 low, u] 56 :: HP.arr 27 1 (.slice (some a) bs.length cap) bs.length vs :: rowsC vs bs :: F) w) :
    St w0 (rows (.slice (some a) n n) (bs.take n) :: tcache c ⟨batch, room, ((bs.length - n : Nat) : Int), bs.drop n⟩ :: F) ((w.setCell ⟨c, 3, none⟩ v1).setCell ⟨c, 2, none⟩ (.int .i64 ((bs.length - n : Nat) : Int))) := by
  suffices H : ∀ w2, St w0 (HP.blk c #[.int .i64 batch, .int .i64 room, .int .i64 ((bs.length - n : Nat) : Int), v1] 56 :: HP.arr 27 1 v1 (bs.length - n) (vs.drop n) :: A :: HP.arr 27 1 (.slice (some a) bs.length cap) bs.length vs :: rowsC vs bs :: F) w2 →
      St w0 (rows (.slice (some a) n n) (bs.take n) :: tcache c ⟨batch, room, ((bs.length - n : Nat) : Int), bs.drop n⟩ :: F) w2 from H _ (((h.front 2).set 3 v1).set 2 _)
  intro w2 h1
  have h2 : St w0 (HP.arr 27 1 (.slice (some a) n n) n (vs.take (n * 1)) :: rowsC vs bs :: _ :: _ :: F) w2 := (h1.pick 5 [3, 4, 0, 1]).mono (HP.arr_cut (k := n) (cap' := n) hn (Nat.le_refl n) (by omega))
  rw [Nat.mul_one] at h2
  have h3 := St.two.1 ((h2.swap).eq (rowsC_split n vs bs hvl))
  -- rows of the first n, rows of the rest, the array of the first n, the block, the new array
  have h4 : St w0 (HP.arr 27 1 (.slice (some a) n n) (bs.take n).length (vs.take n) :: rowsC (vs.take n) (bs.take n) :: HP.blk c #[.int .i64 batch, .int .i64 room, .int .i64 ((bs.length - n : Nat) : Int), v1] 56 ::
      HP.arr 27 1 v1 (bs.drop n).length (vs.drop n) :: rowsC (vs.drop n) (bs.drop n) :: F) w2 := by
    rw [List.length_take, Nat.min_eq_left hn, List.length_drop]
    exact h3.pick 5 [2, 0, 3, 4, 1]
  exact (tcache_shut (rows_shut h4).rotl).swap
set_option maxHeartbeats 1000000 in
theorem evict_tick (w0 w : World) (F : List HP) (c : Nat) (x : TC) (hx : x.ok) (n : Nat) (hn : (n : Int) = (x.low + 1) / 2) (hs : St w0 (tcache c x :: F) w) :
    Calls Try.prog 31 #[.pointer (some ⟨c, 0, none⟩), .agg #[.func (.func 32) #[] #[]]] w fun e w' => ∃ a cap, e = .returned (.slice a n cap) ∧
      St w0 (rows (.slice a n cap) (x.bs.take n) :: tcache c ⟨x.batch, x.room, ((x.bs.length - n : Nat) : Int), x.bs.drop n⟩ :: F) w' := by
  obtain ⟨x1, x2, x3, x4, x5, x6, x7, x8⟩ := hx
  obtain ⟨a2, cap2, vs, hvl, hs⟩ := tcache_open hs
  have hle : n ≤ x.bs.length := by omega
  have hl8 : x.bs.length ≤ 8 := by omega
  have hs' := hs.allocRow #[.func (.func 32) #[] #[]] 63
  obtain ⟨c0, c1, c2, c3⟩ := (hs'.front 1).cells4
  have f3 := (hs'.front 1).frozen 3
  have f2 := (hs'.front 1).frozen 2
  have h1 : ∀ u ∈ vs.drop n, u.oneCell' = true := fun u hu => oneCell_rows hvl (hs.front 2) u (List.mem_of_mem_drop hu)
  cases a2 with
  | none =>
    obtain ⟨hl, ⟨hnil, hz⟩ | ⟨_, _, _, _, h, _⟩⟩ := HP.arr_reads (hs.front 1)
    case inr => cases h
    have hn0 : n = 0 := by omega
    subst hn0
    have hc2 : cap2 = 0 := by injection hnil
    subst hc2
    have hbs : x.bs = [] := List.eq_nil_of_length_eq_zero hz
    have hvs : vs = [] := List.eq_nil_of_length_eq_zero (by omega)
    have HN := Lib.hid hn
    have HB := Lib.hid hbs
    rw [hz] at c3
    clear hbs hz hvl hl hn hnil
    go_enter Try.func31, Try.ntmps31
    go_wp2_with (first | (go_at_call 29; refine (made_true _ _ _ c0 x1).mono ?_; rintro e w' ⟨rfl, rfl⟩) | (go_at_call 32; refine (tick_many _ _ _ c2 x5 (by omega)).mono ?_; rintro e w' ⟨rfl, rfl⟩; rw [show (x.low + 1) / 2 = 0 from HN.out.symm]))
    refine (clone2_any w0 _ _ _ _ _ [] hs' (Reads.nil _ 1) (by simp) (by omega)).mono ?_
    rintro e w1 ⟨a1, p1, rfl, hs1⟩
    obtain ⟨c0, c1, c2, c3⟩ := (hs1.front 2).cells4
    have f3 := (hs1.front 2).frozen 3
    have f2 := (hs1.front 2).frozen 2
    go_wp2
    go_ret
    refine ⟨_, _, rfl, ?_⟩
    have h1 : St w0 (HP.blk c #[.int .i64 x.batch, .int .i64 x.room, .int .i64 0, .slice a1 0 p1] 56 :: _) _ := ((hs1.front 2).set 3 (.slice a1 0 p1)).set 2 (.int .i64 0)
    have h2 := (St.emp.2 (h1.pick 5 [0, 1])).rot'
    rw [HB.out]
    have h3 := (St.emp.2 ((tcache_shut (bs := []) (vs := []) h2).arr_nil 27 1)).swap
    exact rows_shut (bs := []) (vs := []) h3
  | some a2 =>
    obtain ⟨b, off, cap, hv, hcap, hcells⟩ | hz : (∃ b off cap, Value.slice (some a2) x.bs.length cap2 = .slice (some ⟨b, off, none⟩) x.bs.length cap ∧ x.bs.length ≤ cap ∧ Reads w 1 (.slice (some ⟨b, off, none⟩) x.bs.length cap) x.bs.length vs) ∨ False := by
      have hr := HP.arr_reads (hs.front 1)
      rcases HP.arr_form (hs.front 1) with ⟨h, _⟩ | ⟨b, off, cap, hv, hn⟩
      · cases h
      · exact .inl ⟨b, off, cap, hv, hn, hv ▸ hr⟩
    case inr => cases hz
    cases hv
    have HN := Lib.hid hn
    clear hn
    go_enter Try.func31, Try.ntmps31
    go_wp2_with (first | (go_at_call 29; refine (made_true _ _ _ c0 x1).mono ?_; rintro e w' ⟨rfl, rfl⟩) | (go_at_call 32; refine (tick_many _ _ _ c2 x5 (by omega)).mono ?_; rintro e w' ⟨rfl, rfl⟩; rw [← HN.out]))
    · refine (clone2_any w0 _ _ _ _ _ (vs.drop n) hs' (Reads.alloc (hcells.from hle (.inr (by omega))) _) h1 (by omega)).mono ?_
      rintro e w1 ⟨a1, p1, rfl, hs1⟩
      obtain ⟨c0, c1, c2, c3⟩ := (hs1.front 2).cells4
      have f3 := (hs1.front 2).frozen 3
      have f2 := (hs1.front 2).frozen 2
      go_wp2
      go_ret
      exact ⟨_, _, rfl, evict_end hvl hle hcap hs1⟩
    · refine (clone2_any w0 _ _ _ _ _ (vs.drop n) hs' (Reads.alloc (hcells.from hle (.inl ⟨rfl, rfl⟩)) _) h1 (by omega)).mono ?_
      rintro e w1 ⟨a1, p1, rfl, hs1⟩
      obtain ⟨c0, c1, c2, c3⟩ := (hs1.front 2).cells4
      have f3 := (hs1.front 2).frozen 3
      have f2 := (hs1.front 2).frozen 2
      go_wp2
      go_ret
      exact ⟨_, _, rfl, evict_end hvl hle hcap hs1⟩
set_option maxHeartbeats 1000000 in
theorem evict_drain (w0 w : World) (F : List HP) (c : Nat) (x : TC) (hx : x.ok) (n : Nat) (hn : n = x.bs.length) (hs : St w0 (tcache c x :: F) w) :
    Calls Try.prog 31 #[.pointer (some ⟨c, 0, none⟩), .agg #[.func (.func 33) #[] #[]]] w fun e w' => ∃ a cap, e = .returned (.slice a n cap) ∧
      St w0 (rows (.slice a n cap) (x.bs.take n) :: tcache c ⟨x.batch, x.room, ((x.bs.length - n : Nat) : Int), x.bs.drop n⟩ :: F) w' := by
  obtain ⟨x1, x2, x3, x4, x5, x6, x7, x8⟩ := hx
  obtain ⟨a2, cap2, vs, hvl, hs⟩ := tcache_open hs
  have hle : n ≤ x.bs.length := by omega
  have hl8 : x.bs.length ≤ 8 := by omega
  have hs' := hs.allocRow #[.func (.func 33) #[] #[]] 63
  obtain ⟨c0, c1, c2, c3⟩ := (hs'.front 1).cells4
  have f3 := (hs'.front 1).frozen 3
  have f2 := (hs'.front 1).frozen 2
  have h1 : ∀ u ∈ vs.drop n, u.oneCell' = true := fun u hu => oneCell_rows hvl (hs.front 2) u (List.mem_of_mem_drop hu)
  cases a2 with
  | none =>
    obtain ⟨hl, ⟨hnil, hz⟩ | ⟨_, _, _, _, h, _⟩⟩ := HP.arr_reads (hs.front 1)
    case inr => cases h
    have hn0 : n = 0 := by omega
    subst hn0
    have hc2 : cap2 = 0 := by injection hnil
    subst hc2
    have hbs : x.bs = [] := List.eq_nil_of_length_eq_zero hz
    have hvs : vs = [] := List.eq_nil_of_length_eq_zero (by omega)
    have HN := Lib.hid hn
    have HB := Lib.hid hbs
    rw [hz] at c3
    clear hbs hz hvl hl hn hnil
    go_enter Try.func31, Try.ntmps31
    go_wp2_with (first | (go_at_call 29; refine (made_true _ _ _ c0 x1).mono ?_; rintro e w' ⟨rfl, rfl⟩) | (go_at_call 33; refine (drain_nil _ _ c3).mono ?_; rintro e w' ⟨rfl, rfl⟩))
    refine (clone2_any w0 _ _ _ _ _ [] hs' (Reads.nil _ 1) (by simp) (by omega)).mono ?_
    rintro e w1 ⟨a1, p1, rfl, hs1⟩
    obtain ⟨c0, c1, c2, c3⟩ := (hs1.front 2).cells4
    have f3 := (hs1.front 2).frozen 3
    have f2 := (hs1.front 2).frozen 2
    go_wp2
    go_ret
    refine ⟨_, _, rfl, ?_⟩
    have h1 : St w0 (HP.blk c #[.int .i64 x.batch, .int .i64 x.room, .int .i64 0, .slice a1 0 p1] 56 :: _) _ := ((hs1.front 2).set 3 (.slice a1 0 p1)).set 2 (.int .i64 0)
    have h2 := (St.emp.2 (h1.pick 5 [0, 1])).rot'
    rw [HB.out]
    have h3 := (St.emp.2 ((tcache_shut (bs := []) (vs := []) h2).arr_nil 27 1)).swap
    exact rows_shut (bs := []) (vs := []) h3
  | some a2 =>
    obtain ⟨b, off, cap, hv, hcap, hcells⟩ | hz : (∃ b off cap, Value.slice (some a2) x.bs.length cap2 = .slice (some ⟨b, off, none⟩) x.bs.length cap ∧ x.bs.length ≤ cap ∧ Reads w 1 (.slice (some ⟨b, off, none⟩) x.bs.length cap) x.bs.length vs) ∨ False := by
      have hr := HP.arr_reads (hs.front 1)
      rcases HP.arr_form (hs.front 1) with ⟨h, _⟩ | ⟨b, off, cap, hv, hn⟩
      · cases h
      · exact .inl ⟨b, off, cap, hv, hn, hv ▸ hr⟩
    case inr => cases hz
    cases hv
    have HN := Lib.hid hn
    clear hn
    go_enter Try.func31, Try.ntmps31
    go_wp2_with (first | (go_at_call 29; refine (made_true _ _ _ c0 x1).mono ?_; rintro e w' ⟨rfl, rfl⟩) | (go_at_call 33; refine (drain_many _ _ _ _ _ n HN c3).mono ?_; rintro e w' ⟨rfl, rfl⟩))
    · refine (clone2_any w0 _ _ _ _ _ (vs.drop n) hs' (Reads.alloc (hcells.from hle (.inr (by omega))) _) h1 (by omega)).mono ?_
      rintro e w1 ⟨a1, p1, rfl, hs1⟩
      obtain ⟨c0, c1, c2, c3⟩ := (hs1.front 2).cells4
      have f3 := (hs1.front 2).frozen 3
      have f2 := (hs1.front 2).frozen 2
      go_wp2
      go_ret
      exact ⟨_, _, rfl, evict_end hvl hle hcap hs1⟩
    · refine (clone2_any w0 _ _ _ _ _ (vs.drop n) hs' (Reads.alloc (hcells.from hle (.inl ⟨rfl, rfl⟩)) _) h1 (by omega)).mono ?_
      rintro e w1 ⟨a1, p1, rfl, hs1⟩
      obtain ⟨c0, c1, c2, c3⟩ := (hs1.front 2).cells4
      have f3 := (hs1.front 2).frozen 3
      have f2 := (hs1.front 2).frozen 2
      go_wp2
      go_ret
      exact ⟨_, _, rfl, evict_end hvl hle hcap hs1⟩

theorem tick_any (w0 w : World) (F : List HP) (c : Nat) (x : TC) (hx : x.ok) (n : Nat) (hn : (n : Int) = (x.low + 1) / 2) (hs : St w0 (tcache c x :: F) w) :
    Calls Try.prog 15 #[.pointer (some ⟨c, 0, none⟩)] w fun e w' => ∃ a cap, e = .returned (.slice a n cap) ∧
      St w0 (rows (.slice a n cap) (x.bs.take n) :: tcache c ⟨x.batch, x.room, ((x.bs.length - n : Nat) : Int), x.bs.drop n⟩ :: F) w' := by
  have H := fun w hs => evict_tick w0 w F c x hx n hn hs
  have HH := Lib.hid H
  clear H hx hn
  go_enter Try.func15, Try.ntmps15
  go_wp2_with fail
  refine (HH.out _ hs).mono ?_
  rintro e w1 ⟨a, cap, rfl, hs1⟩
  go_wp2
  go_ret
  exact ⟨_, _, rfl, hs1⟩
theorem drain_any (w0 w : World) (F : List HP) (c : Nat) (x : TC) (hx : x.ok) (hs : St w0 (tcache c x :: F) w) :
    Calls Try.prog 16 #[.pointer (some ⟨c, 0, none⟩)] w fun e w' => ∃ a cap, e = .returned (.slice a x.bs.length cap) ∧
      St w0 (rows (.slice a x.bs.length cap) x.bs :: tcache c ⟨x.batch, x.room, 0, []⟩ :: F) w' := by
  have H := fun w hs => evict_drain w0 w F c x hx x.bs.length rfl hs
  rw [List.take_length, List.drop_length, Nat.sub_self] at H
  have HH := Lib.hid H
  clear H hx
  go_enter Try.func16, Try.ntmps16
  go_wp2_with fail
  refine (HH.out _ hs).mono ?_
  rintro e w1 ⟨a, cap, rfl, hs1⟩
  go_wp2
  go_ret
  exact ⟨_, _, rfl, hs1⟩
theorem len_any (w0 w : World) (F : List HP) (c : Nat) (x : TC) (hx : x.ok) (hs : St w0 (tcache c x :: F) w) :
    Calls Try.prog 18 #[.pointer (some ⟨c, 0, none⟩)] w fun e w' => e = .returned (.int .i64 x.bs.length) ∧ w = w' := by
  obtain ⟨x1, x2, x3, x4, x5, x6, x7, x8⟩ := hx
  obtain ⟨a2, cap2, vs, hvl, hs⟩ := tcache_open hs
  obtain ⟨c0, c1, c2, c3⟩ := hs.cells4
  go_enter Try.func18, Try.ntmps18
  go_wp2_with (go_at_call 29; refine (made_true _ _ _ c0 x1).mono ?_; rintro e w' ⟨rfl, rfl⟩)
  go_ret
  exact ⟨rfl, rfl⟩
theorem low_any (w0 w : World) (F : List HP) (c : Nat) (x : TC) (hx : x.ok) (hs : St w0 (tcache c x :: F) w) :
    Calls Try.prog 21 #[.pointer (some ⟨c, 0, none⟩)] w fun e w' => e = .returned (.int .i64 x.low) ∧ w = w' := by
  obtain ⟨x1, x2, x3, x4, x5, x6, x7, x8⟩ := hx
  obtain ⟨a2, cap2, vs, hvl, hs⟩ := tcache_open hs
  obtain ⟨c0, c1, c2, c3⟩ := hs.cells4
  go_enter Try.func21, Try.ntmps21
  go_wp2_with (go_at_call 29; refine (made_true _ _ _ c0 x1).mono ?_; rintro e w' ⟨rfl, rfl⟩)
  go_ret
  exact ⟨rfl, rfl⟩
theorem new_bad (w : World) (batch room : Int) (h : ¬ (1 ≤ batch ∧ batch ≤ 32 ∧ 0 ≤ room ∧ room ≤ 8)) :
    Calls Try.prog 23 #[.int .i64 batch, .int .i64 room] w fun e w' => e = .returned (.tuple #[.pointer none, .int .i64 1]) ∧ w = w' := by
  have HH := Lib.hid h
  clear h
  go_enter Try.func23, Try.ntmps23
  go_wp2
  all_goals first | (go_ret2; exact ⟨rfl, rfl⟩) | (exfalso; have := HH.out; simp at *; omega)
theorem new_good (w0 w : World) (F : List HP) (batch room : Int) (h1 : 1 ≤ batch) (h2 : batch ≤ 32) (h3 : 0 ≤ room) (h4 : room ≤ 8) (hs : St w0 F w) :
    Calls Try.prog 23 #[.int .i64 batch, .int .i64 room] w fun e w' => ∃ c, e = .returned (.tuple #[.pointer (some ⟨c, 0, none⟩), .int .i64 0]) ∧ St w0 (tcache c ⟨batch, room, 0, []⟩ :: F) w' := by
  have hs1 := hs.allocRow #[.int .i64 batch, .int .i64 room, .int .i64 0, .slice none 0 0] 56
  have hs2 := tcache_shut (bs := []) (vs := []) ((St.emp.2 (hs1.arr_nil 27 1).swap).rot')
  go_enter Try.func23, Try.ntmps23
  go_wp2
  go_ret2
  exact ⟨_, rfl, hs2⟩
end Go.Proofs.Ythlmjdkpkikcpaa

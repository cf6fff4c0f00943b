/-
  sample.Diff, and SampleDiffs' walk.
-/
import Derived.Test.YtcihbmifogfdpaaGreatDoorRJ
import Derived.Test.YtcihbmifogfdpaaGreatDoorR8
namespace Go.Proofs.YtcihbmifogfdpaaGreatDoor
open Go.RowKit Go.Maps Go.Sort Go.Shelf

theorem bumpAll_site {sg : Int} : ∀ {l R : List Rw} {s : ByteArray}, s ∈ (bumpAll sg l R).map Rw.site → s ∈ R.map Rw.site ∨ s ∈ l.map Rw.site
  | [], R, s, h => .inl h
  | r :: l, R, s, h => by
    rcases bumpAll_site (l := l) (R := bump sg r R) h with h1 | h1
    · rw [bump_sites] at h1
      split at h1
      · exact .inl h1
      · rcases List.mem_append.1 h1 with h1 | h1
        · exact .inl h1
        · rw [List.mem_singleton] at h1
          exact .inr (by simp [h1])
    · exact .inr (by simp [h1])
theorem nodup_of_sites {l : List Rw} (h : (l.map Rw.site).Nodup) : l.Nodup := by
  unfold List.Nodup at *
  rw [List.pairwise_map] at h
  exact h.imp fun h e => h (by rw [e])
/-- the map that sample.Diff makes -/
def mapD (a b : List Rw) : List Rw := bumpAll 1 b (bumpAll (-1) a [])
theorem mapD_nodup (a b : List Rw) : ((mapD a b).map Rw.site).Nodup := bumpAll_nodup (bumpAll_nodup (by simp))
theorem diff_of {a b Q OUT : List Rw} (hq : Siv (mapD a b) Q []) (hs : Srt OUT) (hp : OUT.Perm Q) : IsDiff a b OUT where
  srt := hs
  nz r hr := hq.done.2.1 r (hp.mem_iff.1 hr)
  tot j s := by
    obtain ⟨h1, h2, h3⟩ := hq.done
    have hpq : Q.Perm ((mapD a b).filter nz) := (List.perm_ext_iff_of_nodup (nodup_of_sites h1) ((nodup_of_sites (mapD_nodup a b)).sublist List.filter_sublist)).2 fun r => by rw [h3, List.mem_filter]
    rw [tot_perm j s hp, tot_perm j s hpq, tot_nz]
    unfold mapD
    rw [tot_bumpAll j s (bumpAll_nodup (by simp)), tot_bumpAll j s (by simp)]
    simp only [tot]
    omega

set_option maxRecDepth 10000 in
set_option maxHeartbeats 2000000 in
theorem pdiff_any (w : World) (pa pb : Option Addr) (ca cb : Nat) (a b : List Rw) (hwa : ∀ r ∈ a, r.wf) (hwb : ∀ r ∈ b, r.wf) (hla : a.length ≤ 9223372036854775807) (hlb : b.length ≤ 9223372036854775807) (hra : RowsAt w (.slice pa a.length ca) a) (hrb : RowsAt w (.slice pb b.length cb) b) :
    Calls Tryz.prog 35 #[.slice pa a.length ca, .slice pb b.length cb] w fun e w' => ∃ v, e = .returned (.tuple #[v, .int .i64 (dfE a b)]) ∧ Rows0 w' v (dfL a b) ∧ Below w.heap.size w w' := by
  have cA := Lib.hid (isProfile_any w pa ca a hwa hla hra)
  have cB : Hid (∀ w', Below w.heap.size w w' → Calls Tryz.prog 47 #[.slice pb b.length cb] w' fun e w'' => e = .returned (.bool (isProfB b)) ∧ RowKit.Below w'.heap.size w' w'') := Lib.hid fun w' hb => isProfile_any w' pb cb b hwb hlb (Reads.grow hrb hb)
  by_cases ha : isProfB a = true
  rotate_left
  · have E1 := Lib.hid (show dfE a b = 2 from if_neg fun h => ha h.1)
    have E2 := Lib.hid (show dfL a b = [] from if_neg fun h => ha h.1)
    rw [Bool.not_eq_true] at ha
    rw [ha] at cA
    clear hwa hwb hra hrb ha
    go_enter Tryz.func35, Tryz.ntmps35
    go_wp2_with (go_at_call 47; refine cA.out.mono ?_; rintro e w2 ⟨rfl, hb2⟩)
    go_ret2
    exact ⟨_, by rw [E1.out]; rfl, .inl ⟨rfl, E2.out⟩, hb2⟩
  by_cases hb : isProfB b = true
  rotate_left
  · have E1 := Lib.hid (show dfE a b = 2 from if_neg fun h => hb h.2)
    have E2 := Lib.hid (show dfL a b = [] from if_neg fun h => hb h.2)
    rw [Bool.not_eq_true] at hb
    rw [ha] at cA
    rw [hb] at cB
    clear hwa hwb hra hrb ha hb
    go_enter Tryz.func35, Tryz.ntmps35
    go_wp2_with (first
      | (go_at_call 47; refine cA.out.mono ?_; rintro e w2 ⟨rfl, hb2⟩; clear cA)
      | (go_at_call 47; refine (cB.out _ hb2).mono ?_; rintro e w3 ⟨rfl, hb3⟩))
    go_ret2
    exact ⟨_, by rw [E1.out]; rfl, .inl ⟨rfl, E2.out⟩, hb2.trans (hb3.mono hb2.size)⟩
  have E1 := Lib.hid (show dfE a b = 0 from if_pos ⟨ha, hb⟩)
  have E2 := Lib.hid (show dfL a b = rDiff a b from if_pos ⟨ha, hb⟩)
  have OKA := isProfB_ok ha
  have OKB := isProfB_ok hb
  have BA : ∀ r ∈ a, Bnd 1099511627776 r := fun r hr => (OKA.2 r hr).bnd
  have BB : ∀ r ∈ b, Bnd 1099511627776 r := fun r hr => (OKB.2 r hr).bnd
  have B1 := bumpAll_bnd (sg := -1) (C := 1099511627776) (.inr rfl) (by decide) a (B := 0) (R := []) (by decide) BA (fun x hx => by cases hx)
  have SZ : ∀ r ∈ mapD a b, r.site.size ≤ 16 := fun r hr => by
    rcases bumpAll_site (List.mem_map_of_mem (f := Rw.site) hr) with h | h
    · rcases bumpAll_site h with h | h
      · cases h
      · obtain ⟨q, hq, e⟩ := List.mem_map.1 h
        rw [← e]; exact (isProfB_len ha).2 q hq
    · obtain ⟨q, hq, e⟩ := List.mem_map.1 h
      rw [← e]; exact (isProfB_len hb).2 q hq
  have LM : (mapD a b).length ≤ 400 := by
    have h1 := bumpAll_len 1 b (bumpAll (-1) a [])
    have h2 := bumpAll_len (-1) a []
    have := OKA.1; have := OKB.1
    unfold mapD
    simp only [List.length_nil] at h2
    omega
  have C1 := Lib.hid (fun w' bm c (h : St w (mapP strE bm (kvs []) :: HP.blk c #[.map (some bm)] 72 :: []) w') => dstep_any w w' [] bm c pa ca a [] (-1) (.inr rfl) (by have := OKA.1; omega) hwa BA 0 (by decide) (by decide) (fun x hx => by cases hx) hra h)
  have C2 := Lib.hid (fun w' bm c (h : St w (mapP strE bm (kvs (bumpAll (-1) a [])) :: HP.blk c #[.map (some bm)] 72 :: []) w') => dstep_any w w' [] bm c pb cb b (bumpAll (-1) a []) 1 (.inl rfl) (by have := OKB.1; omega) hwb BB (0 + a.length * 1099511627776) (by omega) (by have := OKA.1; omega) B1 hrb h)
  have C3 := Lib.hid (fun w' bm c (h : St w (mapP strE bm (kvs (mapD a b)) :: HP.blk c #[.map (some bm)] 72 :: []) w') => sieve_any w w' _ bm (mapD a b) (mapD_nodup a b) (fun r hr => by have := SZ r hr; simp only [maxLen]; omega) h)
  have C4 := Lib.hid (fun w' bm c Q (hq : Siv (mapD a b) Q []) (h : St w (mapP strE bm (kvs Q) :: HP.blk c #[.map (some bm)] 72 :: []) w') => sorted_any w w' _ bm Q (by have := hq.len; omega) (fun r hr => by have := SZ r (hq.old r hr).1; omega) hq.nod h)
  rw [ha] at cA
  rw [hb] at cB
  clear hwa hwb hra hrb ha hb BA BB OKA OKB SZ LM B1
  have hmk : ∀ w : World, (Instr.makeMap 72 none).run Tryz.prog w = .ok (.map (some w.heap.size)) (w.alloc (.map #[] 0)) := fun _ => rfl
  go_enter Tryz.func35, Tryz.ntmps35
  go_wp2_with (first
    | (go_at_call 47; refine cA.out.mono ?_; rintro e w2 ⟨rfl, hb2⟩; clear cA)
    | (go_at_call 47; refine (cB.out _ hb2).mono ?_; rintro e w3 ⟨rfl, hb3⟩; have h3x := ((mapP_new (E := strE) ((St.start w).grow (hb2.trans (hb3.mono hb2.size)))).allocRow #[.map (some w3.heap.size)] 72).swap; simp only [World.size_alloc] at h3x; have H3 := Lib.hid h3x; clear hb2 hb3 cB h3x)
    | (go_at_call 69; refine (C1.out _ _ _ H3.out).mono ?_; rintro e w4 ⟨rfl, h4⟩; have H4 := Lib.hid h4; have q4 := St.cells1 (h4.front 1); clear h4 C1 H3)
    | (go_at_call 69; refine (C2.out _ _ _ H4.out).mono ?_; rintro e w5 ⟨rfl, h5⟩; have H5 := Lib.hid h5; have q5 := St.cells1 (h5.front 1); clear h5 C2 H4 q4)
    | (go_at_call 70; refine (C3.out _ _ _ H5.out).mono ?_; rintro e w6 ⟨rfl, Q, hq, h6⟩; have H6 := Lib.hid h6; have HQ := Lib.hid hq; have q6 := St.cells1 (h6.front 1); clear h6 hq C3 H5 q5)
    | (go_at_call 58; refine (C4.out _ _ _ _ HQ.out H6.out).mono ?_; rintro e w7 ⟨v7, OUT, rfl, hr7, hs7, hp7, hb7⟩; have HR7 := Lib.hid hr7; have HD := Lib.hid (diff_of HQ.out hs7 hp7); have HB7 := Lib.hid (H6.out.below.trans (hb7.mono H6.out.size)); clear hr7 hs7 hp7 hb7 C4))
  go_ret2
  exact ⟨_, by rw [E1.out]; rfl, by rw [E2.out, ← HD.out.one (rDiff_is a b)]; exact HR7.out, HB7.out⟩

set_option maxRecDepth 10000 in
theorem diffs_walk (pa : Option Addr) (ca : Nat) (a : List Rw) (pb : Option Addr) (cb : Nat) (b : List Rw) (w : World) (hwa : (∀ r ∈ a, r.wf) ∧ RowsAt w (.slice pa a.length ca) a) (hla : a.length ≤ 9223372036854775807) (hwb : (∀ r ∈ b, r.wf) ∧ RowsAt w (.slice pb b.length cb) b) (hlb : b.length ≤ 9223372036854775807) (hg : Globs w) :
    Calls Tryz.prog 9 #[.slice pa a.length ca, .slice pb b.length cb] w fun e w' => e = .returned (.bool true) ∧ Below w.heap.size w w' := by
  have cA : Hid (∀ w', Below w.heap.size w w' → Calls Tryz.prog 16 #[] w' fun e w'' => e = .returned (.bool true) ∧ Below w'.heap.size w' w'') := Lib.hid fun w' hb => awake_any (hg.grow hb)
  have cL := Lib.hid (long_any w pa ca a.length)
  have cM := Lib.hid (fun w' => long_any w' pb cb b.length)
  have cP : Hid (∀ w', Below w.heap.size w w' → Calls Tryz.prog 35 #[.slice pa a.length ca, .slice pb b.length cb] w' fun e w'' => ∃ v, e = .returned (.tuple #[v, .int .i64 (dfE a b)]) ∧ Rows0 w'' v (dfL a b) ∧ Below w'.heap.size w' w'') := Lib.hid fun w' hb => pdiff_any w' pa pb ca cb a b hwa.1 hwb.1 hla hlb (Reads.grow hwa.2 hb) (Reads.grow hwb.2 hb)
  have cR : Hid (∀ w', Below w.heap.size w w' → Calls Tryz.prog 36 #[.slice pa a.length ca, .slice pb b.length cb] w' fun e w'' => ∃ v, e = .returned (.tuple #[v, .int .i64 (dfE a b)]) ∧ Rows0 w'' v (dfL a b) ∧ Below w'.heap.size w' w'') := Lib.hid fun w' hb => rdiff_any w' pa pb ca cb a b hwa.1 hwb.1 hla hlb (Reads.grow hwa.2 hb) (Reads.grow hwb.2 hb)
  have LD : a.length ≤ 250 → b.length ≤ 250 → (dfL a b).length ≤ 1000 := fun h1 h2 => by
    unfold dfL
    split
    · unfold rDiff
      refine Nat.le_trans (List.length_filter_le _ _) ?_
      have h3 := addAll_len (a.map negR) (addAll b [])
      have h4 := addAll_len b []
      rw [List.length_map] at h3
      simp only [List.length_nil] at h4
      omega
    · simp
  have cS : a.length ≤ 250 → b.length ≤ 250 → Hid (∀ w' v1 v2, Rows0 w' v1 (dfL a b) → Rows0 w' v2 (dfL a b) → Calls Tryz.prog 21 #[v1, v2] w' fun e w'' => e = .returned (.bool true) ∧ Below w'.heap.size w' w'') := fun k1 k2 => Lib.hid fun w' v1 v2 h1 h2 => by
    obtain ⟨⟨a1, c1, rfl⟩, r1⟩ := h1.at
    obtain ⟨⟨a2, c2, rfl⟩, r2⟩ := h2.at
    exact (rrows_any w' a1 a2 c1 c2 _ _ (by have := LD k1 k2; omega) r1 r2).mono fun e w'' ⟨h5, h6⟩ => ⟨by rw [h5, decide_eq_true rfl], h6⟩
  clear hwa hwb hg LD
  by_cases h2 : 250 < a.length
  · rw [decide_eq_true h2] at cL
    clear cS cM
    go_enter Tryz.func9, Tryz.ntmps9
    go_wp2_with (first
      | (go_at_call 15; refine cL.out.mono ?_; rintro e w2 ⟨rfl, hb2⟩)
      | (go_at_call 16; refine (cA.out _ hb2).mono ?_; rintro e w3 ⟨rfl, hb3⟩))
    go_ret
    exact ⟨rfl, hb2.trans (hb3.mono hb2.size)⟩
  by_cases h3 : 250 < b.length
  · rw [decide_eq_false h2] at cL
    rw [decide_eq_true h3] at cM
    clear cS
    go_enter Tryz.func9, Tryz.ntmps9
    go_wp2_with (first
      | (go_at_call 15; refine cL.out.mono ?_; rintro e w2 ⟨rfl, hb2⟩; clear cL)
      | (go_at_call 15; refine (cM.out _).mono ?_; rintro e w3 ⟨rfl, hb3'⟩; have hb3 := hb2.trans (hb3'.mono hb2.size); clear hb3')
      | (go_at_call 16; refine (cA.out _ hb3).mono ?_; rintro e w4 ⟨rfl, hb4⟩))
    go_ret
    exact ⟨rfl, hb3.trans (hb4.mono hb3.size)⟩
  have CS := cS (by omega) (by omega)
  rw [decide_eq_false h2] at cL
  rw [decide_eq_false h3] at cM
  clear cS
  generalize dfL a b = D at *
  generalize dfE a b = E at *
  have eq3 : (E == E) = true := beq_iff_eq.2 rfl
  go_enter Tryz.func9, Tryz.ntmps9
  go_wp2_with (first
    | (go_at_call 15; refine cL.out.mono ?_; rintro e w2 ⟨rfl, hb2⟩; clear cL)
    | (go_at_call 15; refine (cM.out _).mono ?_; rintro e w3 ⟨rfl, hb3'⟩; have hb3 := hb2.trans (hb3'.mono hb2.size); clear hb3' cM)
    | (go_at_call 35; refine (cP.out _ hb3).mono ?_; rintro e w4 ⟨v4, rfl, hr4', hb4'⟩; have hr4 := Lib.hid hr4'; have hb4 := hb3.trans (hb4'.mono hb3.size); clear hb4' hr4')
    | (go_at_call 36; refine (cR.out _ hb4).mono ?_; rintro e w5 ⟨v5, rfl, hr5', hb5'⟩; have hr5 := Lib.hid hr5'; have hr45 := Lib.hid (hr4.out.grow hb5'); have hb5 := hb4.trans (hb5'.mono hb4.size); clear hb5' hr5')
    | (go_at_call 21; refine (CS.out _ _ _ hr45.out hr5.out).mono ?_; rintro e w6 ⟨rfl, hb6'⟩; have hb6 := hb5.trans (hb6'.mono hb5.size); clear hb6')
    | (go_at_call 16; refine (cA.out _ hb6).mono ?_; rintro e w7 ⟨rfl, hb7⟩))
  go_ret
  exact ⟨rfl, hb6.trans (hb7.mono hb6.size)⟩
end Go.Proofs.YtcihbmifogfdpaaGreatDoor

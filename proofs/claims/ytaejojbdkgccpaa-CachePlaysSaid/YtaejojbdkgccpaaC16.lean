/-
  The library's sort at batches.
-/
import Derived.Test.YtaejojbdkgccpaaC15
import Derived.Shelf.SlSortCmp.NoneTotal
import Derived.Shelf.Lay
import Derived.Ground.SlsfProg
namespace Go.Proofs
open Go.Shelf
shelf_lay_g SlLaysF0.n6 Slsf 6 at Try 66 as Try.sortL
end Go.Proofs
namespace Go.Proofs.Ytaejojbdkgccpaa
open Go.RowKit Go.Maps Go.ChangeMaps Go.Shelf Go.Sort Go.Lib

/-- a batch: its class, its slice -/
structure Bat where
  c : Nat
  v : Value
instance : Inhabited Bat := ⟨⟨0, .slice none 0 0⟩⟩
def encB (x : Bat) : List Value := [.int .i64 (x.c : Int), x.v]
def batC (l : List Bat) : List Value := l.flatMap encB
theorem batC_len : ∀ l : List Bat, (batC l).length = l.length * 2
  | [] => rfl
  | x :: l => by
    have := batC_len l
    unfold batC at *
    rw [List.flatMap_cons, List.length_append, this, List.length_cons]
    simp [encB]
    omega
theorem batC_get : ∀ (l : List Bat) (k : Nat) (x : Bat), l[k]? = some x → (batC l)[k * 2]? = some (.int .i64 (x.c : Int)) ∧ (batC l)[k * 2 + 1]? = some x.v
  | [], k, x, h => by simp at h
  | y :: l, 0, x, h => by
    simp at h
    subst h
    exact ⟨rfl, rfl⟩
  | y :: l, k + 1, x, h => by
    have ih := batC_get l k x (by simpa using h)
    unfold batC at *
    rw [List.flatMap_cons, show (k + 1) * 2 = k * 2 + 1 + 1 by omega]
    exact ih
theorem flat2 {α : Type} [Inhabited α] (f : α → Bat) (d : Array α) : (flatK (fun x => encB (f x)) 2 d).toList = batC (d.toList.map f) := by
  apply List.ext_getElem?
  intro t
  have hs : (flatK (fun x => encB (f x)) 2 d).toList.length = d.size * 2 := by simp
  by_cases ht : t < d.size * 2
  · have hj : t / 2 < d.size := by omega
    have h1 : (d.toList.map f)[t / 2]? = some (f d[t / 2]!) := by
      rw [List.getElem?_map, Array.getElem?_toList, Array.getElem?_eq_getElem hj, getElem!_pos d _ hj]
      rfl
    obtain ⟨g0, g1⟩ := batC_get _ _ _ h1
    have h2 : (flatK (fun x => encB (f x)) 2 d).toList[t]? = some (encB (f d[t / 2]!))[t % 2]! := by
      have h3 := get_flatK (fun x => encB (f x)) 2 d t ht
      rw [Array.getElem?_toList, Array.getElem?_eq_getElem (by simpa using ht), ← h3, getElem!_pos _ t (by simpa using ht)]
    rw [h2]
    rcases Nat.mod_two_eq_zero_or_one t with hm | hm
    · have e0 : t / 2 * 2 = t := by omega
      rw [e0] at g0
      rw [g0, hm]
      rfl
    · have e0 : t / 2 * 2 + 1 = t := by omega
      rw [e0] at g1
      rw [g1, hm]
      rfl
  · rw [List.getElem?_eq_none (by omega), List.getElem?_eq_none (by rw [batC_len]; simp; omega)]
/-- a row of one's own of elements of some cells is written anew, and the heap grows -/
theorem St.putFlat {w0 w : World} {F : List HP} {t : TypeId} {sz b off n cap : Nat} {xs : List Value}
    (h : St w0 (HP.arr t sz (.slice (some ⟨b, off, none⟩) n cap) n xs :: F) w) (dk : Array Value) (hd : dk.size = n * sz) (m : Nat) (os : Array Obj) :
    St w0 (HP.arr t sz (.slice (some ⟨b, off, none⟩) n cap) n dk.toList :: F) (grow (Sort.putRow id (Sort.ahead w m) b off dk) os) := by
  obtain ⟨hb, mm, ⟨m1, m2, ap, e, ⟨hl, ⟨hv, h0, _⟩ | ⟨b1, off1, cap1, c, hv, hc, hm, hs, hx, hme⟩⟩, h2⟩, hh⟩ := h
  · cases hv
  · cases hv
    have h3 : St w0 (HP.blk b c t :: F) w := ⟨hb, mm, ⟨m1, m2, ap, e, hme, h2⟩, hh⟩
    have hlt := h3.lt
    have hrow := h3.row
    have hold := h3.old
    have hheap : (grow (Sort.putRow id (Sort.ahead w m) b off dk) os).heap = (w.heap.modify b (onCells (putCells id off dk))) ++ os := rfl
    have hk : ∀ k, k ≠ b → k < w.heap.size → (grow (Sort.putRow id (Sort.ahead w m) b off dk) os).heap[k]? = w.heap[k]? := by
      intro k hkb hkw
      rw [hheap, Array.getElem?_append_left (by simpa using hkw), Array.getElem?_modify, if_neg fun e => hkb e.symm]
    have h4 : St w0 (HP.at b (.cells (putCells id off dk c) t (0, 0)) :: F) (grow (Sort.putRow id (Sort.ahead w m) b off dk) os) := by
      refine St.become h3 ⟨rfl, rfl, rfl, ?_, fun k hk0 => ?_⟩ ?_ hk
      · rw [hheap]; simp
      · have := h3.size
        exact hk k (by omega) (by omega)
      · rw [hheap, Array.getElem?_append_left (by simpa using hlt), Array.getElem?_modify, if_pos rfl, hrow]
        rfl
    have hsz : n * sz ≤ cap * sz := Nat.mul_le_mul_right _ hc
    refine h4.mono (HP.arr_of_blk (by simp [hd]) hc hm (by simp only [putCells, Array.size_mapIdx]; exact hs) fun i x hi => ?_)
    exact putCells_get' id off dk c (by simpa using hi) (by omega)
theorem St.holdsFlat {w0 w : World} {F : List HP} {t : TypeId} {sz b off n cap : Nat} (dk : Array Value) (_hd : dk.size = n * sz)
    (h : St w0 (HP.arr t sz (.slice (some ⟨b, off, none⟩) n cap) n dk.toList :: F) w) : Holds id w b off dk := by
  intro j hj
  obtain ⟨hb, mm, ⟨m1, m2, ap, e, ⟨hl, ⟨hv, h0, _⟩ | ⟨b1, off1, cap1, c, hv, hc, hm, hs, hx, hme⟩⟩, h2⟩, hh⟩ := h
  · cases hv
  · cases hv
    have h3 : St w0 (HP.blk b c t :: F) w := ⟨hb, mm, ⟨m1, m2, ap, e, hme, h2⟩, hh⟩
    refine ⟨h3.cell (hx j _ ?_), h3.frozen _⟩
    rw [Array.getElem?_toList, Array.getElem?_eq_getElem hj, getElem!_pos dk j hj]
    rfl

/-- batches$1 -/
theorem cmp67 (a b : Int) (v u : Value) (W : World) (ha : 0 ≤ a ∧ a ≤ 1000) (hb : 0 ≤ b ∧ b ≤ 1000) : Calls Try.prog 67 #[.agg #[.int .i64 a, v], .agg #[.int .i64 b, u]] W fun e w' => e = .returned (.int .i64 (a - b)) ∧ ∃ q os', w' = grow (W.drewN q) os' := by
  have q0 : IntKind.i64.wrap (a - b) = a - b := IntWalk.i64_in _ (by omega)
  go_enter Try.func67, Try.ntmps67
  go_wp2_with fail
  go_ret
  exact ⟨rfl, 0, _, by rw [alloc_eq_grow, alloc_eq_grow, grow_grow]; rfl⟩

theorem isAgg48 : ∀ w, (isAgg (Try.sortL_ren.t 24)).run Try.prog w = .ok true w := by intro w; kernel_rfl
theorem sizeOf48 : ∀ w, (Go.sizeOf (Try.sortL_ren.t 24)).run Try.prog w = .ok 2 w := by intro w; kernel_rfl
/-- batches are sorted by their classes -/
theorem sortB_any (w0 w : World) (F : List HP) (a : Option Addr) (cap : Nat) (l : List Bat) (hc : ∀ x ∈ l, x.c ≤ 1000) (hd : (l.map Bat.c).Nodup) (ho : ∀ x ∈ l, x.v.oneCell' = true) (hl : l.length ≤ 1000)
    (hs : St w0 (HP.arr 48 2 (.slice a l.length cap) l.length (batC l) :: F) w) :
    Calls Try.prog 66 #[.slice a l.length cap, .func (.func 67) #[] #[]] w fun e w' => e = .returned (.tuple #[]) ∧
      ∃ l', l'.Perm l ∧ l'.Pairwise (fun x y => x.c < y.c) ∧ St w0 (HP.arr 48 2 (.slice a l.length cap) l'.length (batC l') :: F) w' := by
  by_cases h0 : l.length = 0
  · have e1 : l = [] := List.eq_nil_of_length_eq_zero h0
    subst e1
    have hS := AnyF.slices_SortFunc_none (P := Try.prog) (ρ := Try.sortL_ren) Try.sortL a cap (.func (.func 67) #[] #[]) w
    change Calls Try.prog 66 _ _ _ at hS
    refine hS.mono ?_
    rintro e w' ⟨rfl, rfl⟩
    exact ⟨rfl, [], List.Perm.refl _, List.Pairwise.nil, hs⟩
  · rcases HP.arr_form hs with ⟨_, h⟩ | ⟨b, off, cap', hv, hcap⟩
    · omega
    injection hv with e1 e2 e3
    subst e1 e3
    clear e2
    have hn0 : 0 < l.length := by omega
    haveI : Inhabited (Fin l.length) := ⟨⟨0, hn0⟩⟩
    let f : Fin l.length → Bat := fun i => l[i.val]
    let cf : Fin l.length → Fin l.length → Int := fun i j => ((l[i.val]).c : Int) - ((l[j.val]).c : Int)
    let d : Array (Fin l.length) := (List.finRange l.length).toArray
    have hds : d.size = l.length := by simp [d]
    have hmap : d.toList.map f = l := by
      show (List.finRange l.length).map f = l
      apply List.ext_getElem?
      intro i
      by_cases hi : i < l.length
      · simp [f, hi]
      · rw [List.getElem?_eq_none (by simp; omega), List.getElem?_eq_none (by omega)]
    have hlt : ∀ i j, ltOf cf i j = decide ((l[i.val]).c < (l[j.val]).c) := by
      intro i j
      show decide (((l[i.val]).c : Int) - ((l[j.val]).c : Int) < 0) = _
      apply decide_eq_decide.2
      omega
    have hO : SWO (ltOf cf) := {
      irrefl := fun x => by rw [hlt]; simp
      trans := fun x y z h1 h2 => by rw [hlt] at *; simp at *; omega
      ntrans := fun x y z h1 h2 => by rw [hlt] at *; simp at *; omega }
    have hinj : ∀ x y : Fin l.length, (l[x.val]).c = (l[y.val]).c → x = y := by
      intro x y hxy
      have hp := List.pairwise_iff_getElem.1 (List.nodup_iff_pairwise_ne.1 hd)
      rcases Nat.lt_trichotomy x.val y.val with h | h | h
      · exact absurd (by simpa using hxy) (hp x.val y.val (by simp) (by simp) h)
      · exact Fin.ext h
      · exact absurd (by simpa using hxy.symm) (hp y.val x.val (by simp) (by simp) h)
    have hT : ∀ x y, ltOf cf x y = false → ltOf cf y x = false → x = y := by
      intro x y h1 h2
      rw [hlt] at h1 h2
      simp at h1 h2
      exact hinj x y (by omega)
    have eg : ∀ args w, (callFunc 67 args).run Try.prog w = .ok (.enter 67 args) w := enters_of Try.func67 (by kernel_rfl) rfl
    have hflat := flat2 f d
    rw [hmap] at hflat
    have hH : HoldsK (fun x => encB (f x)) 2 w b off d := by
      refine St.holdsFlat (w0 := w0) (F := F) (t := 48) (sz := 2) (n := l.length) (cap := cap) _ (by simp [hds]) ?_
      rw [hflat]
      exact hs
    have hblk : b < w.heap.size := by
      obtain ⟨b', off', cap', hv, _, hc⟩ := (HP.arr_reads hs).lies hn0
      cases hv
      obtain ⟨x, hx⟩ : ∃ x, (batC l)[0]? = some x := ⟨_, List.getElem?_eq_getElem (by rw [batC_len]; omega)⟩
      exact World.block_lt_of_cell? w _ (hc 0 x hx)
    have hcmp : CmpLays Try.prog 67 #[] (fun x => encB (f x)) 2 cf b off d.size w := by
      intro m os dk hdk x y
      have := hc (f x) (List.getElem_mem x.isLt)
      have := hc (f y) (List.getElem_mem y.isLt)
      exact cmp67 _ _ _ _ _ (by omega) (by omega)
    have hS := AnyQ.slices_SortFunc_total Try.sortL 2 isAgg48 sizeOf48 (fun x => encB (f x)) (fun _ => rfl)
      (fun x v hv => by
        simp [encB] at hv
        rcases hv with rfl | rfl
        · rfl
        · exact ho _ (List.getElem_mem x.isLt)) cf hO 67 #[] b off cap d w eg hcmp hH hblk (by rw [hds]; omega) hT
    change Calls Try.prog 66 _ _ _ at hS
    rw [hds] at hS
    refine hS.mono ?_
    rintro e w' ⟨rfl, n, os, rfl⟩
    refine ⟨rfl, (d.toList.mergeSort fun x y => !(ltOf cf) y x).map f, ?_, ?_, ?_⟩
    · have h1 := (List.mergeSort_perm d.toList fun x y => !(ltOf cf) y x).map f
      rwa [hmap] at h1
    · have h1 : (d.toList.mergeSort fun x y => !(ltOf cf) y x).Pairwise fun x y => (!(ltOf cf) y x) = true := by
        refine List.pairwise_mergeSort (fun x y z h1 h2 => ?_) (fun x y => ?_) _
        · rw [hlt] at *; simp at *; omega
        · rw [hlt, hlt]; simp; omega
      have h2 : (d.toList.mergeSort fun x y => !(ltOf cf) y x).Nodup := (List.mergeSort_perm _ _).nodup_iff.2 (by simp [d, List.nodup_finRange])
      rw [List.pairwise_map]
      refine (h1.and h2).imp ?_
      rintro x y ⟨h3, h4⟩
      rw [hlt] at h3
      simp at h3
      have : (f x).c ≠ (f y).c := fun e => h4 (hinj x y e)
      show (f x).c < (f y).c
      have : (f x).c ≤ (f y).c := h3
      omega
    · have hsz : (flatK (fun x => encB (f x)) 2 (d.toList.mergeSort fun x y => !(ltOf cf) y x).toArray).size = l.length * 2 := by
        simp [List.length_mergeSort, hds]
      have h2 := St.putFlat hs _ hsz n os
      rw [flat2 f] at h2
      have e4 : ((d.toList.mergeSort fun x y => !(ltOf cf) y x).map f).length = l.length := by rw [List.length_map, List.length_mergeSort]; exact hds
      rw [e4]
      exact h2
end Go.Proofs.Ytaejojbdkgccpaa

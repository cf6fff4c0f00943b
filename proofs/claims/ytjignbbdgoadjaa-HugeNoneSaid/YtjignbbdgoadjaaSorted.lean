/-
  A slice of one's own behind the library's sort.
-/
import Derived.Test.YtjignbbdgoadjaaCnt
import Derived.Shelf.GgSortFunc.Insertion
namespace Go.Proofs.Ytjignbbdgoadjaa
open Go.RowKit Go.Sort

theorem putCells_get {α : Type} [Inhabited α] (enc : α → Value) (off : Nat) (d : Array α) (c : Array Value) {i : Nat} {x : Value} (h : (d.toList.map enc)[i]? = some x) (hc : off + d.size ≤ c.size) : (putCells enc off d c)[off + i]? = some x := by
  rw [List.getElem?_map] at h
  obtain ⟨y, hy, rfl⟩ := Option.map_eq_some_iff.1 h
  have hi : i < d.size := by simpa using (List.getElem?_eq_some_iff.1 hy).1
  unfold putCells
  rw [Array.getElem?_mapIdx, Array.getElem?_eq_getElem (by omega), Option.map_some, if_pos (by omega), Nat.add_sub_cancel_left]
  rw [Array.getElem?_toList] at hy
  rw [getElem!_pos d i hi]
  rw [Array.getElem?_eq_getElem hi] at hy
  injection hy with hy
  rw [hy]
/-- the world that the sort leaves -/
theorem St.sortWorld {α : Type} [Inhabited α] (enc : α → Value) {w0 w : World} {F : List HP} {t : TypeId} {b off n cap : Nat} {xs : List Value}
    (h : St w0 (HP.arr t 1 (.slice (some ⟨b, off, none⟩) n cap) n xs :: F) w) (dk : Array α) (hd : dk.size = n) (m : Nat) (os : Array Obj) :
    St w0 (HP.arr t 1 (.slice (some ⟨b, off, none⟩) n cap) n (dk.toList.map enc) :: F) (Go.Proofs.sortWorld enc w b off m dk os) := by
  obtain ⟨hb, mm, ⟨m1, m2, ap, e, ⟨hl, ⟨hv, h0, _⟩ | ⟨b1, off1, cap1, c, hv, hc, hm, hs, hx, hme⟩⟩, h2⟩, hh⟩ := h
  · cases hv
  · cases hv
    have h3 : St w0 (HP.blk b c t :: F) w := ⟨hb, mm, ⟨m1, m2, ap, e, hme, h2⟩, hh⟩
    have hlt := h3.lt
    have hrow := h3.row
    have hold := h3.old
    have hheap : (Go.Proofs.sortWorld enc w b off m dk os).heap = (w.heap.modify b (onCells (putCells enc off dk))) ++ os := rfl
    have hk : ∀ k, k ≠ b → k < w.heap.size → (Go.Proofs.sortWorld enc w b off m dk os).heap[k]? = w.heap[k]? := by
      intro k hkb hkw
      rw [hheap, Array.getElem?_append_left (by simpa using hkw), Array.getElem?_modify, if_neg fun e => hkb e.symm]
    have h4 : St w0 (HP.at b (.cells (putCells enc off dk c) t (0, 0)) :: F) (Go.Proofs.sortWorld enc w b off m dk os) := by
      refine St.become h3 ⟨rfl, rfl, rfl, ?_, fun k hk0 => ?_⟩ ?_ hk
      · rw [hheap]; simp
      · have := h3.size
        exact hk k (by omega) (by omega)
      · rw [hheap, Array.getElem?_append_left (by simpa using hlt), Array.getElem?_modify, if_pos rfl, hrow]
        rfl
    refine h4.mono (HP.arr_of_blk (by simp [hd]) hc hm (by simp only [putCells, Array.size_mapIdx]; exact hs) fun i x hi => ?_)
    exact putCells_get enc off dk c hi (by omega)
/-- it holds what it reads as -/
theorem St.holds {α : Type} [Inhabited α] (enc : α → Value) {w0 w : World} {F : List HP} {t : TypeId} {b off n cap : Nat}
    (d : Array α) (hd : d.size = n) (h : St w0 (HP.arr t 1 (.slice (some ⟨b, off, none⟩) n cap) n (d.toList.map enc) :: F) w) : Holds enc w b off d := by
  intro j hj
  obtain ⟨hb, mm, ⟨m1, m2, ap, e, ⟨hl, ⟨hv, h0, _⟩ | ⟨b1, off1, cap1, c, hv, hc, hm, hs, hx, hme⟩⟩, h2⟩, hh⟩ := h
  · cases hv
  · cases hv
    have h3 : St w0 (HP.blk b c t :: F) w := ⟨hb, mm, ⟨m1, m2, ap, e, hme, h2⟩, hh⟩
    refine ⟨h3.cell (hx j _ ?_), h3.frozen _⟩
    rw [List.getElem?_map, Array.getElem?_toList, Array.getElem?_eq_getElem hj, getElem!_pos d j hj]
    rfl
end Go.Proofs.Ytjignbbdgoadjaa

/-
  slices.Reverse of a list of ours; the list as the call's own copy.
-/
import Derived.Test.YtaejojbdkgccpaaC9
import Derived.Shelf.Slices.Reverse
import Derived.Ground.NamesProg
import Derived.Shelf.Lay
namespace Go.Proofs
open Go.Shelf
shelf_lay Lays.n112 Nm 112 at Try as Try.revL
end Go.Proofs
namespace Go.Proofs.Ytaejojbdkgccpaa
open Go.RowKit Go.Maps Go.ChangeMaps Go.Shelf Go.Sort

theorem putCells_get' {α : Type} [Inhabited α] (enc : α → Value) (off : Nat) (d : Array α) (c : Array Value) {i : Nat} {x : Value} (h : (d.toList.map enc)[i]? = some x) (hc : off + d.size ≤ c.size) : (putCells enc off d c)[off + i]? = some x := by
  rw [List.getElem?_map] at h
  obtain ⟨y, hy, rfl⟩ := Option.map_eq_some_iff.1 h
  have hi : i < d.size := by simpa using (List.getElem?_eq_some_iff.1 hy).1
  unfold putCells
  rw [Array.getElem?_mapIdx, Array.getElem?_eq_getElem (by omega), Option.map_some, if_pos (by omega), Nat.add_sub_cancel_left]
  rw [Array.getElem?_toList] at hy
  rw [getElem!_pos d i hi]
  rw [Array.getElem?_eq_getElem hi] at hy
  injection hy with hy
  rw [hy]
/-- a row of one's own is written anew -/
theorem St.putRow {α : Type} [Inhabited α] (enc : α → Value) {w0 w : World} {F : List HP} {t : TypeId} {b off n cap : Nat} {xs : List Value}
    (h : St w0 (HP.arr t 1 (.slice (some ⟨b, off, none⟩) n cap) n xs :: F) w) (dk : Array α) (hd : dk.size = n) (m : Nat) :
    St w0 (HP.arr t 1 (.slice (some ⟨b, off, none⟩) n cap) n (dk.toList.map enc) :: F) (Sort.putRow enc (Sort.ahead w m) b off dk) := by
  obtain ⟨hb, mm, ⟨m1, m2, ap, e, ⟨hl, ⟨hv, h0, _⟩ | ⟨b1, off1, cap1, c, hv, hc, hm, hs, hx, hme⟩⟩, h2⟩, hh⟩ := h
  · cases hv
  · cases hv
    have h3 : St w0 (HP.blk b c t :: F) w := ⟨hb, mm, ⟨m1, m2, ap, e, hme, h2⟩, hh⟩
    have hlt := h3.lt
    have hrow := h3.row
    have hold := h3.old
    have hheap : (Sort.putRow enc (Sort.ahead w m) b off dk).heap = (w.heap.modify b (onCells (putCells enc off dk))) := rfl
    have hk : ∀ k, k ≠ b → (Sort.putRow enc (Sort.ahead w m) b off dk).heap[k]? = w.heap[k]? := by
      intro k hkb
      rw [hheap, Array.getElem?_modify, if_neg fun e => hkb e.symm]
    have h4 : St w0 (HP.at b (.cells (putCells enc off dk c) t (0, 0)) :: F) (Sort.putRow enc (Sort.ahead w m) b off dk) := by
      refine St.become h3 ⟨rfl, rfl, rfl, ?_, fun k hk0 => hk k (by omega)⟩ ?_ (fun k hk1 _ => hk k hk1)
      · rw [hheap]; simp
      · rw [hheap, Array.getElem?_modify, if_pos rfl, hrow]
        rfl
    refine h4.mono (HP.arr_of_blk (by simp [hd]) hc hm (by simp only [putCells, Array.size_mapIdx]; exact hs) fun i x hi => ?_)
    exact putCells_get' enc off dk c hi (by omega)
/-- it holds what it reads as -/
theorem St.holds' {α : Type} [Inhabited α] (enc : α → Value) {w0 w : World} {F : List HP} {t : TypeId} {b off n cap : Nat}
    (d : Array α) (_hd : d.size = n) (h : St w0 (HP.arr t 1 (.slice (some ⟨b, off, none⟩) n cap) n (d.toList.map enc) :: F) w) : Holds enc w b off d := by
  intro j hj
  obtain ⟨hb, mm, ⟨m1, m2, ap, e, ⟨hl, ⟨hv, h0, _⟩ | ⟨b1, off1, cap1, c, hv, hc, hm, hs, hx, hme⟩⟩, h2⟩, hh⟩ := h
  · cases hv
  · cases hv
    have h3 : St w0 (HP.blk b c t :: F) w := ⟨hb, mm, ⟨m1, m2, ap, e, hme, h2⟩, hh⟩
    refine ⟨h3.cell (hx j _ ?_), h3.frozen _⟩
    rw [List.getElem?_map, Array.getElem?_toList, Array.getElem?_eq_getElem hj, getElem!_pos d j hj]
    rfl
theorem reverse_any (w0 w : World) (F : List HP) (a : Option Addr) (l : List Int) (cap : Nat) (hl : l.length ≤ 1000) (hs : St w0 (intsP (.slice a l.length cap) l :: F) w) :
    Calls Try.prog 42 #[.slice a l.length cap] w fun e w' => e = .returned (.tuple #[]) ∧ St w0 (intsP (.slice a l.reverse.length cap) l.reverse :: F) w' := by
  rw [List.length_reverse]
  rcases HP.arr_form hs with ⟨hv, h0⟩ | ⟨b1, o1, cap1, hv, hc⟩
  · injection hv with h1 h2 h3
    subst h1 h3
    have e1 : l = [] := List.eq_nil_of_length_eq_zero h2
    subst e1
    have hS := Any.slices_Reverse_int_empty Try.revL none 0 w
    change Calls Try.prog 42 _ _ _ at hS
    refine hS.mono ?_
    rintro e w' ⟨rfl, rfl⟩
    exact ⟨rfl, hs⟩
  · injection hv with h1 h2 h3
    subst h1 h3
    have hH : Holds (Value.int .i64) w b1 o1 l.toArray := St.holds' (n := l.length) (cap := cap) (F := F) (t := 3) (w0 := w0) (Value.int .i64) l.toArray (by simp) (by simpa [intsP, intsC] using hs)
    have hS := Any.slices_Reverse_int Try.revL b1 o1 cap l w hH (by omega)
    change Calls Try.prog 42 _ _ _ at hS
    refine hS.mono ?_
    rintro e w' ⟨rfl, n, rfl⟩
    refine ⟨rfl, ?_⟩
    have h2 := St.putRow (Value.int .i64) hs l.reverse.toArray (by simp) n
    unfold intsP
    rw [List.length_reverse]
    simpa [intsC] using h2
end Go.Proofs.Ytaejojbdkgccpaa

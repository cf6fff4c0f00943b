/-
  The library's sort under Plan's comparison.
-/
import Derived.Test.YtjignbbdgoadjaaH8
import Derived.Test.YtjignbbdgoadjaaSorted
import Derived.Shelf.SlSortCmp.NoneTotal
import Derived.Shelf.Lay
import Derived.Ground.SlsfProg
namespace Go.Proofs
open Go.Shelf
shelf_lay_g SlLaysF.n6 Slsf 6 at Try 43 as Try.sortL
end Go.Proofs
namespace Go.Proofs.Ytjignbbdgoadjaa
open Go.RowKit Go.Sort Go.Shelf

def cfF (s : Nat → Int) (N : Nat) (x y : Fin N) : Int := cfS s x.val y.val
theorem ltF (s : Nat → Int) (N : Nat) (x y : Fin N) : ltOf (cfF s N) x y = bef s x.val y.val := rfl
theorem swoF (s : Nat → Int) (N : Nat) : SWO (ltOf (cfF s N)) where
  irrefl x := bef_irrefl s x.val
  trans x y z h1 h2 := bef_trans h1 h2
  ntrans x y z h1 h2 := by
    rw [ltF] at *
    rw [← Bool.not_eq_true, bef_iff] at *
    omega
theorem totF (s : Nat → Int) (N : Nat) (x y : Fin N) (h1 : ltOf (cfF s N) x y = false) (h2 : ltOf (cfF s N) y x = false) : x = y := Fin.ext (bef_total h1 h2)


/-- a list of huge pages in memory -/
def natsP (v : Value) (l : List Nat) : HP := HP.arr 3 1 v l.length (l.map fun (h : Nat) => Value.int .i64 (h : Int))
def boxP (b c : Nat) : HP := HP.blk b #[.pointer (some ⟨c, 0, none⟩)] 25

theorem backF_cells (s : Nat → Int) (N : Nat) : (backF s N).map (fun x => Value.int .i64 ((x.val : Nat) : Int)) = (backN s N).map fun (h : Nat) => Value.int .i64 (h : Int) := by
  rw [← backF_val s N, List.map_map]
  rfl
theorem sort_any (w0 w : World) (F : List HP) (bx c N : Nat) (s : Nat → Int) (hN : N ≤ 64) (hN0 : 0 < N) (a : Option Addr) (cap : Nat)
    (hs : St w0 (natsP (.slice a (backN s N).length cap) (backN s N) :: boxP bx c :: trk 61 c (16 * N) s :: F) w) :
    Calls Try.prog 43 #[.slice a (backN s N).length cap, .func (.func 44) #[] #[.pointer (some ⟨bx, 0, none⟩)]] w
      fun e w' => e = .returned (.tuple #[]) ∧ St w0 (natsP (.slice a (ordL s N).length cap) (ordL s N) :: boxP bx c :: trk 61 c (16 * N) s :: F) w' := by
  have hlen : (ordL s N).length = (backN s N).length := (ordL_perm s N).length_eq
  by_cases h0 : (backN s N).length = 0
  · have hS := AnyF.slices_SortFunc_none (P := Try.prog) (ρ := Try.sortL_ren) { Try.sortL with } a cap (.func (.func 44) #[] #[.pointer (some ⟨bx, 0, none⟩)]) w
    change Calls Try.prog 43 _ _ _ at hS
    have e1 : backN s N = [] := List.eq_nil_of_length_eq_zero h0
    have e2 : ordL s N = [] := List.eq_nil_of_length_eq_zero (by omega)
    rw [e1] at hs ⊢
    rw [e2]
    refine hS.mono ?_
    rintro e w' ⟨rfl, rfl⟩
    exact ⟨rfl, hs⟩
  · have hs' := hs
    rcases HP.arr_form hs with ⟨_, h⟩ | ⟨b, off, cap', hv, hcap⟩
    · omega
    cases hv
    haveI : Inhabited (Fin N) := ⟨⟨0, hN0⟩⟩
    let enc : Fin N → Value := fun x => .int .i64 ((x.val : Nat) : Int)
    have hd : (backF s N).toArray.size = (backN s N).length := by
      rw [List.size_toArray, ← backF_val s N, List.length_map]
    have hcells : (backF s N).toArray.toList.map enc = (backN s N).map fun (h : Nat) => Value.int .i64 (h : Int) := backF_cells s N
    have hH : Holds enc w b off (backF s N).toArray := St.holds enc (backF s N).toArray hd (by rw [hcells]; exact hs)
    have hblk : b < w.heap.size := by
      obtain ⟨b', off', cap', hv, _, hc⟩ := (HP.arr_reads hs).lies (by omega)
      cases hv
      obtain ⟨x, hx⟩ : ∃ x, ((backN s N).map fun (h : Nat) => Value.int .i64 (h : Int))[0]? = some x := ⟨_, List.getElem?_eq_getElem (by rw [List.length_map]; omega)⟩
      exact World.block_lt_of_cell? w _ (hc 0 x hx)
    have hcmp : CmpReads Try.prog 44 #[.pointer (some ⟨bx, 0, none⟩)] enc (cfF s N) b off (backF s N).toArray.size w := by
      intro m os dk hdk x y
      have h1 := St.sortWorld enc hs dk (by rw [hdk, hd]) m os
      obtain ⟨tb, toff, tcap, ht⟩ := TrAt.of (by omega) (h1.front 2)
      have hbx := (h1.front 1).cells1
      exact plan1_any _ bx c tb toff tcap N s hN hbx ht x.val y.val x.isLt y.isLt
    have eg : ∀ args w, (callFunc 44 args).run Try.prog w = .ok (.enter 44 args) w := enters_of Try.func44 (by kernel_rfl) rfl
    have hS := Any.slices_SortFunc_total Try.sortL enc (fun _ => rfl) (cfF s N) (swoF s N) 44 #[.pointer (some ⟨bx, 0, none⟩)] b off cap (backF s N).toArray w eg hcmp.lays hH hblk (by rw [hd]; have := backN_len s N; omega) (totF s N)
    change Calls Try.prog 43 _ _ _ at hS
    rw [hd] at hS
    refine hS.mono ?_
    rintro e w' ⟨rfl, n, os, rfl⟩
    refine ⟨rfl, ?_⟩
    have hsz : (((backF s N).toArray.toList.mergeSort fun x y => !(ltOf (cfF s N)) y x).toArray).size = (backN s N).length := by
      rw [List.size_toArray, List.length_mergeSort, ← hd]
      simp
    have h2 := St.sortWorld enc hs _ hsz n os
    have e3 : ((((backF s N).toArray.toList.mergeSort fun x y => !(ltOf (cfF s N)) y x).toArray).toList.map enc) = (ordL s N).map fun (h : Nat) => Value.int .i64 (h : Int) := by
      unfold ordL
      rw [List.map_map]
      rfl
    rw [e3] at h2
    unfold natsP
    rw [hlen]
    exact h2
end Go.Proofs.Ytjignbbdgoadjaa

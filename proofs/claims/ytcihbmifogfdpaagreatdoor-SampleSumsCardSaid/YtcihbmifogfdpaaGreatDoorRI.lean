/-
  The keys of a map of rows, sorted.
-/
import Derived.Test.YtcihbmifogfdpaaGreatDoorRH
import Derived.Test.YtcihbmifogfdpaaGreatDoorOA
namespace Go.Proofs
open Go.RowKit Go.Maps Go.Sort Go.Shelf
shelf_lay_g SlLaysZ.n7 Ggz 7 at Tryz 103 as Tryz.keysR
end Go.Proofs
namespace Go.Proofs.YtcihbmifogfdpaaGreatDoor
open Go.RowKit Go.Maps Go.Sort Go.Shelf

def litOf : Value → Lit
  | .string s => .string s.data.toList
  | _ => .bool false
/-- the map is one that the library's contracts know -/
theorem owns_rows {w : World} {b clock : Nat} {es : List (EntG ByteArray)} (ho : OkG strE es clock) (hb : w.heap[b]? = some (.map (entG strE es) clock)) (h1 : es.length ≤ 1000) (h2 : ∀ x ∈ es, x.k.size ≤ 1000) :
    ∃ l : List (Lit × DataW Unit), w.ownsMap Tryz.prog 9 Cl.R1 b es.length (.map l) ∧ (l.map (·.1)).Perm (es.map fun x => Lit.string x.k.data.toList) := by
  have hkey : ∀ x ∈ es, keyOf Tryz.prog 9 (.string x.k) = some (.string x.k.data.toList) := fun x hx => by
    have := Cl.keyOf_str Tryz.underlying9 x.k.data.toList (h2 x hx)
    exact this
  have hrd : ∀ y ∈ (entG strE es).toList, WideElems.rd Tryz.prog 9 Cl.R1 y = some (litOf y.key, .lit (.bool true)) := fun y hy => by
    rw [entG_toList] at hy
    obtain ⟨x, hx, rfl⟩ := List.mem_map.1 hy
    have := hkey x hx
    simp [WideElems.rd, Cl.R1, EntG.raw, strKey, this, litOf]
  refine ⟨_, ⟨entG strE es, clock, hb, ⟨?_, ?_, fun x hx => ⟨_, hrd x hx⟩⟩, ?_, rfl⟩, ?_⟩
  · rw [entG_size]; simp [maxLen]; omega
  · rw [MapKept.stamped_iff]
    refine ⟨fun x hx => ?_, ?_, ?_⟩
    · rw [entG_toList] at hx
      obtain ⟨y, hy, rfl⟩ := List.mem_map.1 hx
      exact ho.past y hy
    · rw [entG_toList, List.map_map]
      exact ho.stamps
    · rw [entG_toList, List.pairwise_map]
      have := ho.once
      unfold List.Nodup at this
      rw [List.pairwise_map] at this
      exact this.imp fun h e => h (strE.inj _ _ e)
  · rw [entG_size]; exact Nat.le_refl _
  · refine ((Cl.foldr_insert_perm _).map _).trans ?_
    rw [List.map_map]
    have : List.map ((fun x => x.1) ∘ WideElems.rg Tryz.prog 9 Cl.R1) (entG strE es).toList = es.map fun x => Lit.string x.k.data.toList := by
      rw [entG_toList, List.map_map]
      refine List.map_congr_left fun x hx => ?_
      have := hrd (x.raw strE) (by rw [entG_toList]; exact List.mem_map_of_mem hx)
      simp [WideElems.rg, this]
      rfl
    rw [this]
theorem reads_own {w : World} {base : Nat} {t : TypeId} {v : Value} {n : Nat} {xs : List Value} (h : w.ownsRow base t 1 v n xs) : Reads w 1 v n xs := by
  obtain ⟨hl, h⟩ := h
  refine ⟨hl, ?_⟩
  rcases h with h | ⟨g, cap, cur, rfl, _, hg, hn, _, hs, hx⟩
  · exact .inl h
  · refine .inr ⟨g, 0, none, cap, rfl, hn, .inl rfl, fun i x hi => ?_⟩
    rw [← hx, Nat.mul_one, List.getElem?_take] at hi
    split at hi
    · unfold World.cell?
      rw [hg]
      simpa using hi
    · cases hi
set_option maxRecDepth 10000 in
/-- slices.Sorted(maps.Keys(m)) -/
theorem sorted_keys (w0 w : World) (F : List HP) (bm c : Nat) (Q : List Rw) (hl : Q.length ≤ 1000) (hs : ∀ r ∈ Q, r.site.size ≤ 1000) (h : St w0 (mapP strE bm (kvs Q) :: F) w) (hc : w.cell? ⟨c, 0, none⟩ = some (.map (some bm))) (hcl : c < w.heap.size) :
    Calls Tryz.prog 102 #[.func (.func 159) #[] #[.pointer (some ⟨c, 0, none⟩)]] w fun e w' =>
      ∃ (v : Value) (KS : List (List UInt8)), e = .returned v ∧ KS.Pairwise (fun a b => leB a b = true) ∧ KS.Perm (Q.map fun r => r.site.data.toList) ∧ Reads w' 1 v KS.length (KS.map encStr) ∧ Below w.heap.size w w' := by
  obtain ⟨es, clock, ho, el, h9⟩ := mapP_open h
  have hlen : es.length = Q.length := by have := congrArg List.length el; simpa [kvs] using this
  have hk : es.map (fun x => x.k) = Q.map Rw.site := by
    have := congrArg (List.map Prod.fst) el
    simpa [kvs, List.map_map, Function.comp_def, EntG.kv] using this
  have hsz : ∀ x ∈ es, x.k.size ≤ 1000 := fun x hx => by
    have : x.k ∈ Q.map Rw.site := hk ▸ List.mem_map_of_mem hx
    obtain ⟨r, hr, e⟩ := List.mem_map.1 this
    rw [← e]; exact hs r hr
  obtain ⟨l, hown, hp⟩ := owns_rows ho h9.block.2 (by omega) hsz
  have hkeys : (strKeys (.map l)).Perm (Q.map fun r => r.site.data.toList) := by
    have h1 := hp.map strOf
    rw [List.map_map, List.map_map] at h1
    have h2 : es.map (strOf ∘ fun x => Lit.string x.k.data.toList) = Q.map fun r => r.site.data.toList := by
      have := congrArg (List.map fun s : ByteArray => s.data.toList) hk
      simpa [List.map_map, Function.comp_def, strOf] using this
    rw [h2] at h1
    simpa [strKeys, List.map_map, Function.comp_def] using h1
  have hseq : SeqGives Fence.wide 2 Tryz.prog 159 #[.pointer (some ⟨c, 0, none⟩)] encStr (fun ss => ss.Perm (strKeys (.map l))) (Maps.size (.map l)) w :=
    AnyZ.keys_gives (ρ := Tryz.keysR_ren) { Tryz.keysR with } Fence.wide _ trivial rfl (by omega) c bm _ _ w hcl hc hown
  have hsz2 : Maps.size (DataW.map l) = es.length := by have := hp.length_eq; simpa [Maps.size_eq] using this
  have hcl2 := AnyZ.sorted_in Tryz.sortedS Fence.wide 5 trivial trivial trivial trivial rfl (by omega) (Tryz.sortsS _) (enters_of Tryz.func158 (by kernel_rfl) rfl) 159 #[.pointer (some ⟨c, 0, none⟩)] trivial (enters_of Tryz.func159 (by kernel_rfl) rfl) _ _ (by rw [hsz2]; simp [maxLen]; omega) (by rw [hsz2]; omega) _ hseq
  refine (callsIn_wide.1 hcl2).mono ?_
  rintro e w' ⟨v, ss, rfl, hS, hrow, _, hbe⟩
  have hso : ss.mergeSort (fun x y => decide (x ≤ y)) = Cl.sortU (strKeys (.map l)) := Cl.sortU_eq hS
  rw [hso] at hrow
  have hln : ss.length = (Cl.sortU (strKeys (.map l))).length := (hS.trans (Cl.sortU_perm _).symm).length_eq
  rw [hln] at hrow
  exact ⟨v, _, rfl, Cl.sortU_sorted _, (Cl.sortU_perm _).trans hkeys, reads_own hrow, hbe⟩
end Go.Proofs.YtcihbmifogfdpaaGreatDoor

/-
  Arguments that came in: a slice of small numbers.
-/
import Derived.Test.YthlmjdkpkikcpaaTOpen
import Derived.Test.YthlmjdkpkikcpaaT22
namespace Go.Proofs.Ythlmjdkpkikcpaa
open Go.ChangeShapes Go.WideShapes Go.ChangeAt Go.RowKit Go.Deep

theorem bytes_open {H : Type} {enc : TypeId × Value → H} {W : World} {base : Nat} {v : Value} {d : DataW H} {p : List MemPlace}
    (h : DataW.Trod enc Try.prog W base (fun _ => true) true 22 v d p) (hv : ∃ a n cap, v = .slice a n cap) :
    ∃ a cap l, v = .slice a (List.length l) cap ∧ BytesAt W v l ∧ l.length ≤ maxLen := by
  obtain ⟨a, n, cap, rfl⟩ := hv
  obtain ⟨fuel, hf⟩ := h
  rcases open_ints Try.underlying22 Try.underlying5 (by kernel_rfl) hf with ⟨hcs, _⟩ | ⟨a', len, cap', zs, hcs, _, hl, hm, hz, hx, hcell, hwz⟩
  · simp [Value.cells] at hcs
    obtain ⟨rfl, rfl, rfl⟩ := hcs
    exact ⟨none, 0, [], rfl, ⟨Reads.nil W 1, fun x hx => by cases hx⟩, Nat.zero_le _⟩
  · simp [Value.cells] at hcs
    obtain ⟨rfl, rfl, rfl⟩ := hcs
    have hlen : (zs.take n).length = n := by rw [List.length_take]; split at hz <;> omega
    refine ⟨some a', cap, zs.take n, by rw [hlen], ⟨?_, fun z hzm => ?_⟩, by omega⟩
    · rw [hlen]
      refine reads_of_cells rfl (by rw [List.length_map, hlen]; omega) hl (by omega) fun i x hx => ?_
      rw [List.getElem?_map] at hx
      obtain ⟨z, hz1, rfl⟩ := Option.map_eq_some_iff.1 hx
      have hil := (List.getElem?_eq_some_iff.1 hz1).1
      rw [List.getElem?_take_of_lt (by omega)] at hz1
      have hi2 := (List.getElem?_eq_some_iff.1 hz1).1
      rw [hcell i hi2, List.getD_eq_getElem?_getD, hz1]
      rfl
    · have h := hwz z (List.mem_of_mem_take hzm)
      simp only [Lit.wf, decide_eq_true_eq, Bool.and_eq_true] at h
      exact h
end Go.Proofs.Ythlmjdkpkikcpaa

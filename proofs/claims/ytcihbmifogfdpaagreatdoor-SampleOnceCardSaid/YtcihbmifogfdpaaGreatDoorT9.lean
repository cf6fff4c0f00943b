/-
  TrimSuffix, Split at a space, Atoi; what Parse makes of a line, and of a text.
-/
import Derived.Test.YtcihbmifogfdpaaGreatDoorT10
namespace Go.Proofs.YtcihbmifogfdpaaGreatDoor
open Go.RowKit Go.Shelf

def trimN (s : ByteArray) : ByteArray := ⟨(Lib.trimSuffix s.data.toList [10]).toArray⟩
theorem trim_any (w : World) (s : ByteArray) (hs : s.size ≤ 9223372036854775807) :
    Calls Tryz.prog 51 #[.string s, .string ⟨#[10]⟩] w fun e w' => e = .returned (.string (trimN s)) ∧ w = w' :=
  (Any.strings_TrimSuffix Tryz.lTrim s ⟨#[10]⟩ w hs).mono fun _ _ ⟨h1, h2⟩ => ⟨h1, h2.symm⟩
theorem trimN_size (s : ByteArray) : (trimN s).size ≤ s.size := by
  have h : (Lib.trimSuffix s.data.toList [10]).length ≤ s.data.toList.length := by
    unfold Lib.trimSuffix
    split
    · simp
    · exact Nat.le_refl _
  exact h

/-- the pieces between spaces -/
def pieces (s : ByteArray) : List ByteArray := Lib.splitB ⟨#[32]⟩ 0 (Lib.countB s ⟨#[32]⟩) s
set_option maxHeartbeats 1000000 in
theorem split_any (w : World) (s : ByteArray) (hs : s.size < 4294967281) :
    Calls Tryz.prog 50 #[.string s, .string ⟨#[32]⟩] w fun e w' =>
      e = .returned (.slice (some ⟨w.heap.size, 0, none⟩) (pieces s).length (pieces s).length) ∧ w' = w.alloc (.cells ((pieces s).map Value.string).toArray 9) := by
  have h1 : 1 ≤ (⟨#[32]⟩ : ByteArray).size := by decide
  have hle := Lib.countB_le ⟨#[32]⟩ h1 s.size s (Nat.le_refl _)
  have hlen := Lib.splitB_all ⟨#[32]⟩ h1 0 _ s rfl
  have c := Any.strings_genSplit_core (ρ := Tryz.lSplit_ren) { Tryz.lSplit with } (by kernel_rfl) s ⟨#[32]⟩ 0 (-1) (Lib.countB s ⟨#[32]⟩ + 1) w hs h1 (Nat.zero_le _)
    (fun x cs _ => (Any.strings_Index_one (ρ := Tryz.lSplit_ren) { Tryz.lSplit with } x 32 _).mono fun e w' ⟨h2, h3⟩ => ⟨by rw [h2]; show _ = Ending.returned (Value.int .i64 (Lib.index x.data.toList [32])); rw [Lib.index_one], h3⟩)
    ((Any.strings_Count_one (ρ := Tryz.lSplit_ren) { Tryz.lSplit with } s 32 w).mono fun e w' ⟨h2, h3⟩ => ⟨by rw [h2]; show _ = Ending.returned (Value.int .i64 ((Lib.count s.data.toList [32] : Nat) : Int)); rw [Lib.count_one]; rfl, h3⟩)
    (by decide) (by decide) (by rw [if_pos (by decide)]; omega)
  rw [Nat.add_sub_cancel, hlen] at c
  have e2 : Lib.cellsOf (Lib.splitB ⟨#[32]⟩ 0 (Lib.countB s ⟨#[32]⟩) s) (Lib.countB s ⟨#[32]⟩ + 1) = ((Lib.splitB ⟨#[32]⟩ 0 (Lib.countB s ⟨#[32]⟩) s).map Value.string).toArray := by rw [← hlen]; exact Lib.cellsOf_full _
  rw [e2, ← hlen] at c
  go_enter Tryz.func50, Tryz.ntmps50
  go_wp2_with (go_at_call 96; refine c.mono ?_; rintro e w' ⟨rfl, hw⟩; rw [hw])
  go_ret
  refine ⟨?_, rfl⟩
  rw [show (pieces s).length = Lib.countB s ⟨#[32]⟩ + 1 from hlen]
  rfl

/-- strconv's two errors are there -/
structure Errs (w : World) : Prop where
  syn : ∃ ev, w.cell? ⟨Tryz.lAtoi_ren.g 15, 0, none⟩ = some ev ∧ (ev = .nilIface ∨ ∃ te pe, ev = .iface te pe)
  rng : ∃ ev, w.cell? ⟨Tryz.lAtoi_ren.g 16, 0, none⟩ = some ev ∧ (ev = .nilIface ∨ ∃ te pe, ev = .iface te pe)
theorem Errs.grow {w w' : World} (h : Errs w) (hb : Below w.heap.size w w') : Errs w' := by
  obtain ⟨⟨e1, h1, h2⟩, ⟨e2, h3, h4⟩⟩ := h
  exact ⟨⟨e1, by rw [hb.cell (World.block_lt_of_cell? _ _ h1)]; exact h1, h2⟩, ⟨e2, by rw [hb.cell (World.block_lt_of_cell? _ _ h3)]; exact h3, h4⟩⟩
/-- a number, if it is one -/
def atoiO (s : ByteArray) : Option Int := match Lib.atoiAll s.data.toList with
  | .ok v => some v
  | _ => none
theorem below_bytesWorld (w : World) (t : TypeId) (s : ByteArray) : Below w.heap.size w (Lib.bytesWorld w t s) :=
  Lib.below_freeze (((Below.refl _ w).drew).alloc (Nat.le_refl _) _) (p := ⟨w.heap.size, _, none⟩) (Nat.le_refl _) 1
theorem atoi_any (w : World) (s : ByteArray) (hs : s.size ≤ 281474976710656) (he : Errs w) :
    Calls Tryz.prog 52 #[.string s] w fun e w' => ∃ v x, e = .returned (.tuple #[.int .i64 v, x]) ∧ Below w.heap.size w w' ∧ ((atoiO s = some v ∧ i64r v ∧ x = .nilIface) ∨ (atoiO s = none ∧ ∃ t p, x = .iface t p)) := by
  rcases h : Lib.atoiAll s.data.toList with v | _ | _
  · refine (Any.strconv_Atoi_ok Tryz.lAtoi s (by omega) v h w).mono ?_
    rintro e w' ⟨rfl, h2⟩
    refine ⟨v, .nilIface, rfl, ?_, .inl ⟨by unfold atoiO; rw [h], ?_, rfl⟩⟩
    · rcases h2 with rfl | ⟨t, rfl⟩
      · exact Below.refl _ _
      · exact below_bytesWorld _ _ _
    · have := Lib.atoiAll_bounds h
      unfold i64r
      omega
  · obtain ⟨ev, h1, h2⟩ := he.syn
    refine (Any.strconv_Atoi_syntax Tryz.lAtoi s hs h ev w h1 h2).mono ?_
    rintro e w' ⟨N, rfl, _, _, hb⟩
    exact ⟨_, _, rfl, hb, .inr ⟨by unfold atoiO; rw [h], _, _, rfl⟩⟩
  · obtain ⟨ev, h1, h2⟩ := he.rng
    refine (Any.strconv_Atoi_range Tryz.lAtoi s hs h ev w h1 h2).mono ?_
    rintro e w' ⟨N, rfl, _, _, hb⟩
    exact ⟨_, _, rfl, hb, .inr ⟨by unfold atoiO; rw [h], _, _, rfl⟩⟩

/-- a row out of a line -/
def rowOf : List ByteArray → Option Rw
  | [s, p, q, t, u] => match atoiO p, atoiO q, atoiO t, atoiO u with
    | some a, some b, some c, some d => some ⟨s, a, b, c, d⟩
    | _, _, _, _ => none
  | _ => none
def lineRow (x : ByteArray) : Option Rw := rowOf (pieces (trimN x))
/-- the rows out of what is left of a text -/
def parseF : Nat → ByteArray → List Rw → Option (List Rw)
  | 0, _, acc => some acc
  | f + 1, r, acc => if r.size = 0 then some acc else match lineRow (cutL r).1 with
    | none => none
    | some x => if acc.length < 200 then parseF f (cutL r).2 (acc ++ [x]) else none
theorem cutL_size (r : ByteArray) (h : 0 < r.size) : (cutL r).2.size < r.size ∧ (cutL r).1.size ≤ r.size := by
  unfold cutL
  simp only
  split
  · simp only [ByteArray.size_extract]; omega
  · exact ⟨h, Nat.le_refl _⟩
theorem parseF_fuel : ∀ (f g : Nat) (r : ByteArray) (acc : List Rw), r.size ≤ f → r.size ≤ g → parseF f r acc = parseF g r acc
  | 0, 0, _, _, _, _ => rfl
  | 0, g + 1, r, acc, h, _ => by simp [parseF, show r.size = 0 by omega]
  | f + 1, 0, r, acc, _, h => by simp [parseF, show r.size = 0 by omega]
  | f + 1, g + 1, r, acc, h1, h2 => by
    unfold parseF
    by_cases hr : r.size = 0
    · simp [hr]
    · have h3 := (cutL_size r (by omega)).1
      simp only [hr, if_false]
      rw [show (fun x => if acc.length < 200 then parseF f (cutL r).2 (acc ++ [x]) else none) = (fun x => if acc.length < 200 then parseF g (cutL r).2 (acc ++ [x]) else none) from funext fun x => by rw [parseF_fuel f g _ _ (by omega) (by omega)]]
def parseL (s : ByteArray) : Option (List Rw) := parseF s.size s []
theorem parseF_step {r : ByteArray} {acc : List Rw} (hr : 0 < r.size) : parseF r.size r acc = match lineRow (cutL r).1 with
    | none => none
    | some x => if acc.length < 200 then parseF (cutL r).2.size (cutL r).2 (acc ++ [x]) else none := by
  obtain ⟨f, hf⟩ : ∃ f, r.size = f + 1 := ⟨r.size - 1, by omega⟩
  have h3 := (cutL_size r hr).1
  rw [hf]
  conv => lhs; unfold parseF
  simp only [show ¬ r.size = 0 by omega, if_false]
  cases lineRow (cutL r).1 with
  | none => rfl
  | some x => simp only; rw [parseF_fuel f (cutL r).2.size _ _ (by omega) (Nat.le_refl _)]
/-- what Parse makes of a text -/
def parseP (s : ByteArray) : Option (List Rw) := match parseL s with
  | some l => if isProfB l = true ∧ textL l = s.data.toList then some l else none
  | none => none
end Go.Proofs.YtcihbmifogfdpaaGreatDoor

/-
  Memory of the call's own, said by assertions that are joined by '*' (each speaks of blocks that no other of them speaks of); for whatever program.
-/
import Derived.WalkKit
import Derived.WalkSpells
import Derived.WalkLawsBesides
import Derived.Laws.CopyOwn
import Derived.Deep.RegionHeld3
import Derived.Deep.QuietTactic
import Derived.BigQuiet
import Derived.Outline
import Derived.StillTailTactics
import Derived.Lib.Hide
namespace Go.Proofs.YtcodjodhacjfeaaGreatDoor
open Go.RowKit

/-- some blocks, and what they hold -/
abbrev HL := Nat → Option Obj
/-- an assertion on some blocks -/
@[ext] structure HP where
  sat : HL → Prop

def HL.none : HL := fun _ => Option.none
def HL.one (b : Nat) (o : Obj) : HL := fun i => if i = b then some o else Option.none
def HL.join (m n : HL) : HL := fun i => match m i with
  | some o => some o
  | Option.none => n i
def HL.apart (m n : HL) : Prop := ∀ i, m i = Option.none ∨ n i = Option.none

theorem HL.apart.symm {m n : HL} (h : m.apart n) : n.apart m := fun i => (h i).symm
theorem HL.join_comm {m n : HL} (h : m.apart n) : m.join n = n.join m := by
  funext i
  unfold HL.join
  rcases h i with h | h <;> simp [h]
  · cases n i <;> rfl
  · cases m i <;> rfl
theorem HL.join_assoc (m n k : HL) : (m.join n).join k = m.join (n.join k) := by
  funext i
  unfold HL.join
  cases m i <;> rfl
theorem HL.join_none (m : HL) : HL.none.join m = m := by funext i; rfl
theorem HL.apart_none (m : HL) : HL.none.apart m := fun _ => .inl rfl
theorem HL.apart_join {m n k : HL} : (m.join n).apart k ↔ m.apart k ∧ n.apart k := by
  constructor
  · intro h
    refine ⟨fun i => ?_, fun i => ?_⟩
    · rcases h i with h | h
      · unfold HL.join at h
        cases hm : m i with
        | none => exact .inl rfl
        | some o => rw [hm] at h; cases h
      · exact .inr h
    · rcases h i with h | h
      · unfold HL.join at h
        cases hm : m i with
        | none => rw [hm] at h; exact .inl h
        | some o => rw [hm] at h; cases h
      · exact .inr h
  · rintro ⟨h1, h2⟩ i
    unfold HL.join
    rcases h1 i with h | h
    · rw [h]; exact h2 i
    · exact .inr h

def HP.emp : HP := ⟨fun m => m = HL.none⟩
def HP.sep (A B : HP) : HP := ⟨fun m => ∃ m1 m2, m1.apart m2 ∧ m = m1.join m2 ∧ A.sat m1 ∧ B.sat m2⟩
instance : Mul HP := ⟨HP.sep⟩
/-- 'p' holds (and no block is spoken of) -/
def HP.pur (p : Prop) : HP := ⟨fun m => m = HL.none ∧ p⟩
def HP.ex {α : Type} (A : α → HP) : HP := ⟨fun m => ∃ x, (A x).sat m⟩
def HP.no : HP := ⟨fun _ => False⟩
/-- block 'b' is this -/
def HP.at (b : Nat) (o : Obj) : HP := ⟨fun m => m = HL.one b o⟩
/-- block 'b' is a row of these cells, none frozen -/
def HP.blk (b : Nat) (c : Array Value) (t : TypeId) : HP := .at b (.cells c t (0, 0))

theorem HP.sep_def (A B : HP) : A * B = HP.sep A B := rfl
theorem HP.sep_comm (A B : HP) : A * B = B * A := by
  ext m
  refine ⟨?_, ?_⟩ <;>
  · rintro ⟨m1, m2, h, e, a, b⟩
    exact ⟨m2, m1, h.symm, e.trans (HL.join_comm h), b, a⟩
theorem HP.sep_assoc (A B C : HP) : A * B * C = A * (B * C) := by
  ext m
  refine ⟨?_, ?_⟩
  · rintro ⟨m12, m3, h, e, ⟨m1, m2, h12, e12, a, b⟩, c⟩
    subst e12
    have h' := HL.apart_join.1 h
    refine ⟨m1, m2.join m3, ?_, e.trans (HL.join_assoc _ _ _), a, ⟨m2, m3, h'.2, rfl, b, c⟩⟩
    exact (HL.apart_join.2 ⟨h12.symm, h'.1.symm⟩).symm
  · rintro ⟨m1, m23, h, e, a, ⟨m2, m3, h23, e23, b, c⟩⟩
    subst e23
    have h' := HL.apart_join.1 h.symm
    refine ⟨m1.join m2, m3, ?_, e.trans (HL.join_assoc _ _ _).symm, ⟨m1, m2, h'.1.symm, rfl, a, b⟩, c⟩
    exact HL.apart_join.2 ⟨h'.2.symm, h23⟩
instance : Std.Associative (α := HP) (· * ·) := ⟨HP.sep_assoc⟩
instance : Std.Commutative (α := HP) (· * ·) := ⟨HP.sep_comm⟩
theorem HP.emp_sep (A : HP) : HP.emp * A = A := by
  ext m
  refine ⟨?_, fun h => ⟨HL.none, m, HL.apart_none _, rfl, rfl, h⟩⟩
  rintro ⟨m1, m2, _, e, h1, h2⟩
  rw [e, show m1 = HL.none from h1, HL.join_none]
  exact h2
theorem HP.sep_emp (A : HP) : A * HP.emp = A := by rw [HP.sep_comm, HP.emp_sep]
instance : Std.LawfulIdentity (α := HP) (· * ·) HP.emp := { left_id := HP.emp_sep, right_id := HP.sep_emp }

theorem HP.sep_mono {A A' B : HP} (h : ∀ m, A.sat m → A'.sat m) (m : HL) : (A * B).sat m → (A' * B).sat m := fun ⟨m1, m2, ha, e, a, b⟩ => ⟨m1, m2, ha, e, h _ a, b⟩
theorem HP.ex_sep {α : Type} (A : α → HP) (B : HP) : HP.ex A * B = HP.ex fun x => A x * B := by
  ext m
  exact ⟨fun ⟨m1, m2, h, e, ⟨x, a⟩, b⟩ => ⟨x, m1, m2, h, e, a, b⟩, fun ⟨x, m1, m2, h, e, a, b⟩ => ⟨m1, m2, h, e, ⟨x, a⟩, b⟩⟩
theorem HP.pur_sep (p : Prop) (B : HP) (m : HL) : (HP.pur p * B).sat m ↔ p ∧ B.sat m := by
  constructor
  · rintro ⟨m1, m2, _, e, ⟨h1, hp⟩, b⟩
    rw [e, h1, HL.join_none]
    exact ⟨hp, b⟩
  · exact fun ⟨hp, b⟩ => ⟨HL.none, m, HL.apart_none _, rfl, ⟨rfl, hp⟩, b⟩

/-- all of these, each of blocks of its own -/
def HP.big : List HP → HP
  | [] => HP.emp
  | A :: L => A * HP.big L

/-- The world 'w' since 'w0' began: what was there is as it was; of the blocks made since, those that these assertions speak of are as they say. -/
def St (w0 : World) (L : List HP) (w : World) : Prop :=
  Below w0.heap.size w0 w ∧ ∃ m, (HP.big L).sat m ∧ ∀ b o, m b = some o → w0.heap.size ≤ b ∧ w.heap[b]? = some o

/-- no number twice, each below n -/
def selOk (n : Nat) : List Nat → Bool
  | [] => true
  | i :: l => decide (i < n) && !l.contains i && selOk n l

theorem HP.big_erase : ∀ (L : List HP) (i : Nat), i < L.length → HP.big L = L.getD i HP.emp * HP.big (L.eraseIdx i)
  | [], _, h => by cases h
  | A :: L, 0, _ => by simp [HP.big]
  | A :: L, i + 1, h => by
    simp only [HP.big, List.eraseIdx_cons_succ, List.getD_cons_succ]
    rw [HP.big_erase L i (by simpa using h), ← HP.sep_assoc, HP.sep_comm A, HP.sep_assoc]
theorem HP.big_sel : ∀ (ix : List Nat) (L : List HP), selOk L.length ix = true → ∃ r : HP, HP.big L = HP.big (ix.map fun i => L.getD i HP.emp) * r := by
  -- over lists in which those that are taken are emptied
  intro ix
  induction ix with
  | nil => intro L _; exact ⟨HP.big L, by simp only [List.map_nil, HP.big]; rw [HP.emp_sep]⟩
  | cons i ix ih =>
    intro L hok
    simp only [selOk, Bool.and_eq_true, decide_eq_true_eq, Bool.not_eq_true', List.contains_eq_mem, decide_eq_false_iff_not] at hok
    obtain ⟨⟨hi, hni⟩, hok⟩ := hok
    have h1 := ih (L.set i HP.emp) (by simpa using hok)
    obtain ⟨r, hr⟩ := h1
    have e1 : (ix.map fun j => (L.set i HP.emp).getD j HP.emp) = ix.map fun j => L.getD j HP.emp := by
      refine List.map_congr_left fun j hj => ?_
      have : i ≠ j := fun e => hni (e ▸ hj)
      simp [this]
    have e2 : HP.big (L.set i HP.emp) = HP.big (L.eraseIdx i) := by
      rw [HP.big_erase (L.set i HP.emp) i (by simpa using hi)]
      have : (L.set i HP.emp).getD i HP.emp = HP.emp := by simp [List.getD, List.getElem?_set]; split <;> rfl
      rw [this, HP.emp_sep, List.eraseIdx_set_eq]
    refine ⟨r, ?_⟩
    rw [e1, e2] at hr
    rw [HP.big_erase L i hi, hr]
    simp only [List.map_cons, HP.big]
    rw [HP.sep_assoc]
theorem HP.big_append : ∀ (L L' : List HP), HP.big (L ++ L') = HP.big L * HP.big L'
  | [], L' => by simp only [List.nil_append, HP.big]; rw [HP.emp_sep]
  | A :: L, L' => by simp only [List.cons_append, HP.big]; rw [HP.big_append L L', HP.sep_assoc]

section
variable {w0 w w' : World} {A B : HP} {L : List HP}

theorem St.below (h : St w0 L w) : Below w0.heap.size w0 w := h.1
theorem St.size (h : St w0 L w) : w0.heap.size ≤ w.heap.size := h.1.size
theorem St.dropSep {C : HP} {m : HL} (h : (C * B).sat m) : ∃ m', C.sat m' ∧ ∀ b o, m' b = some o → m b = some o := by
  obtain ⟨m1, m2, _, e, hC, _⟩ := h
  refine ⟨m1, hC, fun b o hm => ?_⟩
  rw [e]
  simp [HL.join, hm]
/-- of the first n assertions some, by their numbers, in the order of the numbers; the rest -/
theorem St.pick (h : St w0 L w) (n : Nat) (ix : List Nat) (hn : n ≤ L.length := by simp) (hok : selOk n ix = true := by decide) : St w0 ((ix.map fun i => (L.take n).getD i HP.emp) ++ L.drop n) w := by
  obtain ⟨hb, m, hm, hc⟩ := h
  obtain ⟨r, hr⟩ := HP.big_sel ix (L.take n) (by rw [List.length_take, Nat.min_eq_left hn]; exact hok)
  rw [← List.take_append_drop n L, HP.big_append, hr, HP.sep_assoc, HP.sep_comm r, ← HP.sep_assoc, ← HP.big_append] at hm
  obtain ⟨m2, h2, hsub⟩ := St.dropSep hm
  exact ⟨hb, m2, h2, fun b o hbo => hc b o (hsub b o hbo)⟩
theorem St.monol {L' : List HP} (h : St w0 L w) (hm : ∀ m, (HP.big L).sat m → (HP.big L').sat m) : St w0 L' w :=
  let ⟨hb, m, a, hc⟩ := h
  ⟨hb, m, hm m a, hc⟩
theorem St.mono (h : St w0 (A :: L) w) (hm : ∀ m, A.sat m → B.sat m) : St w0 (B :: L) w := h.monol (HP.sep_mono hm)
theorem St.perm {L' : List HP} (h : St w0 L w) (e : HP.big L = HP.big L') : St w0 L' w := h.monol fun _ hm => e ▸ hm
theorem St.eq (h : St w0 (A :: L) w) (e : A = B) : St w0 (B :: L) w := e ▸ h
theorem St.start (w : World) : St w [] w := ⟨Below.refl _ _, HL.none, rfl, fun _ _ h => by cases h⟩
/-- only the heap counts -/
theorem St.to (h : St w0 L w) (hb : Below w0.heap.size w w') (he : w'.heap = w.heap) : St w0 L w' :=
  let ⟨h1, m, a, hc⟩ := h
  ⟨h1.trans hb, m, a, fun b o hb => by rw [he]; exact hc b o hb⟩
theorem St.drew (h : St w0 L w) : St w0 L w.drew := h.to (Below.refl _ _).drew rfl
theorem Below.drewN' {N : Nat} {a w : World} (h : Below N a w) : ∀ n, Below N a (w.drewN n) := fun _ => ⟨h.os, h.tape, h.output, h.size, h.block⟩
theorem St.drewN (h : St w0 L w) (n : Nat) : St w0 L (w.drewN n) := h.to (Below.drewN' (Below.refl _ _) n) rfl
/-- the first one is dropped -/
theorem St.drop (h : St w0 (A :: L) w) : St w0 L w := by
  obtain ⟨hb, m, hm, hc⟩ := h
  obtain ⟨m2, h2, hsub⟩ := St.dropSep (C := HP.big L) (B := A) (by rw [HP.sep_comm]; exact hm)
  exact ⟨hb, m2, h2, fun b o hbo => hc b o (hsub b o hbo)⟩
theorem St.ex {α : Type} {A : α → HP} : St w0 (HP.ex A :: L) w ↔ ∃ x, St w0 (A x :: L) w := by
  constructor
  · rintro ⟨hb, m, hm, hc⟩
    rw [HP.big, HP.ex_sep] at hm
    obtain ⟨x, hm⟩ := hm
    exact ⟨x, hb, m, hm, hc⟩
  · rintro ⟨x, hb, m, hm, hc⟩
    refine ⟨hb, m, ?_, hc⟩
    rw [HP.big, HP.ex_sep]
    exact ⟨x, hm⟩
theorem St.pur {p : Prop} : St w0 (HP.pur p :: L) w ↔ p ∧ St w0 L w :=
  ⟨fun ⟨hb, m, a, hc⟩ => let ⟨hp, f⟩ := (HP.pur_sep p _ m).1 a; ⟨hp, hb, m, f, hc⟩, fun ⟨hp, hb, m, f, hc⟩ => ⟨hb, m, (HP.pur_sep p _ m).2 ⟨hp, f⟩, hc⟩⟩
/-- two that are one are two -/
theorem St.two : St w0 (A * B :: L) w ↔ St w0 (A :: B :: L) w := by
  constructor <;> intro h <;> refine h.perm ?_ <;> simp only [HP.big]
  · exact HP.sep_assoc _ _ _
  · exact (HP.sep_assoc _ _ _).symm
theorem St.emp : St w0 (HP.emp :: L) w ↔ St w0 L w := by
  constructor <;> intro h <;> refine h.perm ?_ <;> simp only [HP.big]
  · exact HP.emp_sep _
  · exact (HP.emp_sep _).symm

theorem St.swap (h : St w0 (A :: B :: L) w) : St w0 (B :: A :: L) w := h.perm (by simp only [HP.big]; rw [← HP.sep_assoc, HP.sep_comm A B, HP.sep_assoc])
theorem St.rot {C : HP} (h : St w0 (A :: B :: C :: L) w) : St w0 (C :: A :: B :: L) w := h.perm (by simp only [HP.big]; ac_rfl)
theorem St.rot' {C : HP} (h : St w0 (A :: B :: C :: L) w) : St w0 (B :: C :: A :: L) w := h.perm (by simp only [HP.big]; ac_rfl)
theorem St.rotl {C D : HP} (h : St w0 (A :: B :: C :: D :: L) w) : St w0 (B :: C :: D :: A :: L) w := h.perm (by simp only [HP.big]; ac_rfl)
/-- the one of this number first -/
theorem St.front (h : St w0 L w) (i : Nat) (hi : i < L.length := by simp) : St w0 (L.getD i HP.emp :: L.eraseIdx i) w := h.perm (HP.big_erase L i hi)
/-- a block that is spoken of -/
theorem St.block {b : Nat} {o : Obj} (h : St w0 (HP.at b o :: L) w) : w0.heap.size ≤ b ∧ w.heap[b]? = some o := by
  obtain ⟨_, m, ⟨m1, m2, _, e, h1, _⟩, hc⟩ := h
  refine hc b o ?_
  rw [e]
  unfold HL.join
  rw [show m1 = HL.one b o from h1]
  simp [HL.one]
theorem St.old {b : Nat} {c : Array Value} {t : TypeId} (h : St w0 (HP.blk b c t :: L) w) : w0.heap.size ≤ b := h.block.1
theorem St.lt {b : Nat} {c : Array Value} {t : TypeId} (h : St w0 (HP.blk b c t :: L) w) : b < w.heap.size := (Array.getElem?_eq_some_iff.1 h.block.2).1
theorem St.row {b : Nat} {c : Array Value} {t : TypeId} (h : St w0 (HP.blk b c t :: L) w) : w.heap[b]? = some (.cells c t (0, 0)) := h.block.2
theorem St.cell {b : Nat} {c : Array Value} {t : TypeId} (h : St w0 (HP.blk b c t :: L) w) {i : Nat} {v : Value} (hi : c[i]? = some v) : w.cell? ⟨b, i, none⟩ = some v := by
  have := h.block.2
  simp [World.cell?, this, hi]
theorem St.frozen {b : Nat} {c : Array Value} {t : TypeId} (h : St w0 (HP.blk b c t :: L) w) (i : Nat) : w.frozen? ⟨b, i, none⟩ = false := by
  have := h.block.2
  simp [World.frozen?, this]
theorem St.cells1 {b : Nat} {a0 : Value} {t : TypeId} (h : St w0 (HP.blk b #[a0] t :: L) w) : w.cell? ⟨b, 0, none⟩ = some a0 := h.cell rfl
theorem St.cells2 {b : Nat} {a0 a1 : Value} {t : TypeId} (h : St w0 (HP.blk b #[a0, a1] t :: L) w) : w.cell? ⟨b, 0, none⟩ = some a0 ∧ w.cell? ⟨b, 1, none⟩ = some a1 := ⟨h.cell rfl, h.cell rfl⟩
theorem St.cells3 {b : Nat} {a0 a1 a2 : Value} {t : TypeId} (h : St w0 (HP.blk b #[a0, a1, a2] t :: L) w) : w.cell? ⟨b, 0, none⟩ = some a0 ∧ w.cell? ⟨b, 1, none⟩ = some a1 ∧ w.cell? ⟨b, 2, none⟩ = some a2 :=
  ⟨h.cell rfl, h.cell rfl, h.cell rfl⟩
theorem St.cells4 {b : Nat} {a0 a1 a2 a3 : Value} {t : TypeId} (h : St w0 (HP.blk b #[a0, a1, a2, a3] t :: L) w) :
    w.cell? ⟨b, 0, none⟩ = some a0 ∧ w.cell? ⟨b, 1, none⟩ = some a1 ∧ w.cell? ⟨b, 2, none⟩ = some a2 ∧ w.cell? ⟨b, 3, none⟩ = some a3 := ⟨h.cell rfl, h.cell rfl, h.cell rfl, h.cell rfl⟩
/-- two blocks are two -/
theorem St.ne {b b' : Nat} {c c' : Array Value} {t t' : TypeId} (h : St w0 (HP.blk b c t :: HP.blk b' c' t' :: L) w) : b ≠ b' := by
  obtain ⟨_, m, ⟨m1, m2, ha, e, h1, ⟨m3, m4, _, e', h3, _⟩⟩, _⟩ := h
  intro hb
  rcases ha b with h | h
  · rw [show m1 = HL.one b _ from h1] at h; simp [HL.one] at h
  · rw [e', show m3 = HL.one b' _ from h3] at h; simp [HL.join, HL.one, hb] at h

/-- a new block -/
theorem St.alloc (h : St w0 L w) (o : Obj) : St w0 (HP.at w.heap.size o :: L) (w.alloc o) := by
  obtain ⟨hb, m, f, hc⟩ := h
  have hlt : ∀ b o', m b = some o' → b < w.heap.size := fun b o' hm => (Array.getElem?_eq_some_iff.1 (hc b o' hm).2).1
  refine ⟨hb.alloc hb.size o, (HL.one w.heap.size o).join m, ⟨_, m, fun i => ?_, rfl, rfl, f⟩, fun b o' hm => ?_⟩
  · by_cases hi : i = w.heap.size
    · refine .inr ?_
      cases hmi : m i with
      | none => rfl
      | some o' => have := hlt i o' hmi; omega
    · simp [HL.one, hi]
  · unfold HL.join at hm
    by_cases hi : b = w.heap.size
    · subst hi
      simp [HL.one] at hm
      subst hm
      exact ⟨hb.size, heap_alloc_new w o⟩
    · simp [HL.one, hi] at hm
      exact ⟨(hc b o' hm).1, (heap_alloc_old w o (hlt b o' hm)).trans (hc b o' hm).2⟩
theorem St.allocRow (h : St w0 L w) (c : Array Value) (t : TypeId) : St w0 (HP.blk w.heap.size c t :: L) (w.alloc (.cells c t)) := h.alloc _
/-- a block that is spoken of becomes another -/
theorem St.become {b : Nat} {o o' : Obj} (h : St w0 (HP.at b o :: L) w) (hb' : Below w0.heap.size w w') (ho : w'.heap[b]? = some o')
    (hk : ∀ k, k ≠ b → k < w.heap.size → w'.heap[k]? = w.heap[k]?) : St w0 (HP.at b o' :: L) w' := by
  have hob := h.block.1
  obtain ⟨hb, m, ⟨m1, m2, ha, e, h1, hF⟩, hc⟩ := h
  refine ⟨hb.trans hb', (HL.one b o').join m2, ⟨_, m2, fun i => ?_, rfl, rfl, hF⟩, fun k p hm => ?_⟩
  · rcases ha i with h | h
    · rw [show m1 = HL.one b o from h1] at h
      refine .inl ?_
      unfold HL.one at *
      split at h
      · cases h
      · rename_i hne; simp [hne]
    · exact .inr h
  · unfold HL.join at hm
    by_cases hi : k = b
    · subst hi
      simp [HL.one] at hm
      subst hm
      exact ⟨hob, ho⟩
    · simp [HL.one, hi] at hm
      have hm' : m k = some p := by
        rw [e, show m1 = HL.one b o from h1]
        simp [HL.join, HL.one, hi, hm]
      have := hc k p hm'
      exact ⟨this.1, (hk k hi (Array.getElem?_eq_some_iff.1 this.2).1).trans this.2⟩
theorem St.set {b : Nat} {c : Array Value} {t : TypeId} (h : St w0 (HP.blk b c t :: L) w) (i : Nat) (v : Value) :
    St w0 (HP.blk b (c.setIfInBounds i v) t :: L) (w.setCell ⟨b, i, none⟩ v) := by
  refine h.become ((Below.refl _ _).setCell h.block.1 v) ?_ (fun k hk _ => Below.heap_setCell _ _ _ _ hk)
  simp [World.setCell, Array.getElem?_modify, h.block.2]
theorem St.setRow {b : Nat} {c c' : Array Value} {t : TypeId} (h : St w0 (HP.blk b c t :: L) w) : St w0 (HP.blk b c' t :: L) (w.setRow b c') := by
  refine h.become (below_setRow (Below.refl _ _) h.block.1 _) ?_ (fun k hk _ => setRow_other w b k c' hk)
  exact setRow_heap w b c c' t (0, 0) h.block.2
/-- what was there when it began reads as it did -/
theorem St.was (h : St w0 L w) {p : Addr} (hp : p.block < w0.heap.size) : w.cell? p = w0.cell? p := h.1.cell hp
end
/-- A region that draws its order: n operations that only read, then the others in one forced order. -/
theorem wp_region_tail_drew {P : Program} {id : Nat} {Q : Exit → Act → World → Prop} {a : Act} {w : World} {l : List Oper} (n : Nat) (hm : P.follows .mixedOrders = true) (hB : Region.lexTailB .any l.toArray n = true)
    (h : wpStill P l.toArray w.drew (fun a' => wpList P l.toArray Q (l.drop n) a' w.drew) (l.take n) a) : (Code.region id l.toArray true).wp P Q a w := wp_region_still_tail n hm hB h
end Go.Proofs.YtcodjodhacjfeaaGreatDoor

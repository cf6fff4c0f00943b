/-
  What the machine's values and memory stand for in a world.
-/
import Derived.Test.YtcihbmifogfdpaaGreatDoorK2
import Derived.Deep.AppendSrc
import Derived.Deep.MidRow
import Derived.LaidEql
namespace Go.Proofs.YtcihbmifogfdpaaGreatDoor
open Go.RowKit
namespace Cl

theorem sRun_run {α : Type} {P : Program} : ∀ {s : Sem α} {a : α}, sRun P s = some a → ∀ w, s.run P w = .ok a w
  | .pure _, _, h, w => by cases h; rfl
  | .program k, _, h, w => sRun_run (s := k P) h w
  | .mark _ k, _, h, w => sRun_run (s := k) h w
  | .load .., _, h, _ => by cases h
  | .store .., _, h, _ => by cases h
  | .new .., _, h, _ => by cases h
  | .shape .., _, h, _ => by cases h
  | .freeze .., _, h, _ => by cases h
  | .frozen .., _, h, _ => by cases h
  | .getObj .., _, h, _ => by cases h
  | .setObj .., _, h, _ => by cases h
  | .choose .., _, h, _ => by cases h
  | .sys .., _, h, _ => by cases h
  | .halt .., _, h, _ => by cases h

/-- where a block of the machine lies: at a place of a block, and how many elements more there are room for than it says -/
structure Pl where
  blk : Nat
  base : Nat
  slack : Nat
abbrev Pm := Nat → Option Pl
def Pm.le (ρ ρ' : Pm) : Prop := ∀ i p, ρ i = some p → ρ' i = some p
theorem Pm.le_refl (ρ : Pm) : ρ.le ρ := fun _ _ h => h
theorem Pm.le_trans {ρ ρ' ρ'' : Pm} (h : ρ.le ρ') (k : ρ'.le ρ'') : ρ.le ρ'' := fun i p e => k i p (h i p e)

inductive G (ρ : Pm) : Value → Value → Prop
  | flat {v : Value} (h : flat v = true) : G ρ v v
  | ptr {b off : Nat} {p : Pl} (h : ρ b = some p) : G ρ (.pointer (some ⟨b, off, none⟩)) (.pointer (some ⟨p.blk, p.base + off, none⟩))
  | slc {b off n c : Nat} {p : Pl} (h : ρ b = some p) : G ρ (.slice (some ⟨b, off, none⟩) n c) (.slice (some ⟨p.blk, p.base + off, none⟩) n (c + p.slack))
  | slx {b off n c : Nat} {p : Pl} (h : ρ b = some p) : G ρ (.slice (some ⟨b, off, some 0⟩) n c) (.slice (some ⟨p.blk, p.base + off, none⟩) n c)
  | map {b : Nat} {p : Pl} (h : ρ b = some p) : G ρ (.map (some b)) (.map (some p.blk))
  | func {f : FuncId} {a a' b b' : Array Value} (ha : a.size = a'.size) (hb : b.size = b'.size) (h1 : ∀ (i : Nat) (u u' : Value), a[i]? = some u → a'[i]? = some u' → G ρ u u')
      (h2 : ∀ (i : Nat) (u u' : Value), b[i]? = some u → b'[i]? = some u' → G ρ u u') : G ρ (.func (.func f) a b) (.func (.func f) a' b')
  | iface {t : TypeId} {v v' : Value} (h : G ρ v v') : G ρ (.iface t v) (.iface t v')
  | agg {a a' : Array Value} (ha : a.size = a'.size) (h1 : ∀ (i : Nat) (u u' : Value), a[i]? = some u → a'[i]? = some u' → G ρ u u') : G ρ (.agg a) (.agg a')
  | tuple {a a' : Array Value} (ha : a.size = a'.size) (h1 : ∀ (i : Nat) (u u' : Value), a[i]? = some u → a'[i]? = some u' → G ρ u u') : G ρ (.tuple a) (.tuple a')

theorem G.mono {ρ ρ' : Pm} (hl : ρ.le ρ') {v v' : Value} (h : G ρ v v') : G ρ' v v' := by
  induction h with
  | flat h => exact .flat h
  | ptr h => exact .ptr (hl _ _ h)
  | slc h => exact .slc (hl _ _ h)
  | slx h => exact .slx (hl _ _ h)
  | map h => exact .map (hl _ _ h)
  | func ha hb _ _ i1 i2 => exact .func ha hb i1 i2
  | iface _ ih => exact .iface ih
  | agg ha _ i1 => exact .agg ha i1
  | tuple ha _ i1 => exact .tuple ha i1

/-- lists, side by side -/
def GL (ρ : Pm) (l l' : List Value) : Prop := l.length = l'.length ∧ ∀ (i : Nat) (u u' : Value), l[i]? = some u → l'[i]? = some u' → G ρ u u'
section
variable {ρ ρ' : Pm} {l l' m m' : List Value} {u u' v v' : Value}
theorem GL.mono (hl : ρ.le ρ') (h : GL ρ l l') : GL ρ' l l' := ⟨h.1, fun i u u' a b => (h.2 i u u' a b).mono hl⟩
theorem GL.nil : GL ρ [] [] := ⟨rfl, fun _ _ _ h => by simp at h⟩
theorem GL.cons (h : G ρ u u') (hl : GL ρ l l') : GL ρ (u :: l) (u' :: l') := by
  refine ⟨by simp [hl.1], fun i a b ha hb => ?_⟩
  cases i with
  | zero => simp at ha hb; subst ha hb; exact h
  | succ i => simp at ha hb; exact hl.2 i a b ha hb
theorem GL.append (h : GL ρ l l') (hm : GL ρ m m') : GL ρ (l ++ m) (l' ++ m') := by
  refine ⟨by simp [h.1, hm.1], fun i a b ha hb => ?_⟩
  rcases Nat.lt_or_ge i l.length with hi | hi
  · rw [List.getElem?_append_left hi] at ha
    rw [List.getElem?_append_left (h.1 ▸ hi)] at hb
    exact h.2 i a b ha hb
  · rw [List.getElem?_append_right hi] at ha
    rw [List.getElem?_append_right (h.1 ▸ hi)] at hb
    exact hm.2 _ a b ha (h.1 ▸ hb)
theorem GL.take (h : GL ρ l l') (n : Nat) : GL ρ (l.take n) (l'.take n) := by
  refine ⟨by simp [h.1], fun i a b ha hb => ?_⟩
  rw [List.getElem?_take] at ha hb
  split at ha
  · rename_i hi; rw [if_pos hi] at hb; exact h.2 i a b ha hb
  · cases ha
theorem GL.drop (h : GL ρ l l') (n : Nat) : GL ρ (l.drop n) (l'.drop n) := by
  refine ⟨by simp [h.1], fun i a b ha hb => ?_⟩
  rw [List.getElem?_drop] at ha hb
  exact h.2 _ a b ha hb
theorem GL.get (h : GL ρ l l') {i : Nat} (hi : l[i]? = some u) : ∃ u', l'[i]? = some u' ∧ G ρ u u' := by
  have hlt : i < l'.length := h.1 ▸ (List.getElem?_eq_some_iff.1 hi).1
  exact ⟨l'[i], List.getElem?_eq_getElem hlt, h.2 i _ _ hi (List.getElem?_eq_getElem hlt)⟩
theorem GL.uncons (h : GL ρ (u :: l) m') : ∃ u' l', m' = u' :: l' ∧ G ρ u u' ∧ GL ρ l l' := by
  cases m' with
  | nil => have := h.1; simp at this
  | cons u' l' => exact ⟨u', l', rfl, h.2 0 u u' rfl rfl, by simpa using h.1, fun i a b ha hb => h.2 (i + 1) a b (by simpa using ha) (by simpa using hb)⟩
theorem GL.nil_eq (h : GL ρ [] m') : m' = [] := List.length_eq_zero_iff.1 h.1.symm
theorem GL.set (h : GL ρ l l') (hv : G ρ v v') (i : Nat) : GL ρ (l.set i v) (l'.set i v') := by
  refine ⟨by simp [h.1], fun j a b ha hb => ?_⟩
  rw [List.getElem?_set] at ha hb
  split at ha
  · rename_i e
    subst e
    split at ha
    · rename_i hi
      rw [if_pos rfl, if_pos (h.1 ▸ hi)] at hb
      cases ha; cases hb; exact hv
    · cases ha
  · rename_i e; rw [if_neg e] at hb; exact h.2 j a b ha hb
theorem GL.of_array {a a' : Array Value} (ha : a.size = a'.size) (h1 : ∀ (i : Nat) (u u' : Value), a[i]? = some u → a'[i]? = some u' → G ρ u u') : GL ρ a.toList a'.toList :=
  ⟨by simpa using ha, fun i u u' h h' => h1 i u u' (by simpa using h) (by simpa using h')⟩
theorem GL.agg (h : GL ρ l l') : G ρ (.agg l.toArray) (.agg l'.toArray) := .agg (by simpa using h.1) fun i u u' a b => h.2 i u u' (by simpa using a) (by simpa using b)
theorem GL.tuple (h : GL ρ l l') : G ρ (.tuple l.toArray) (.tuple l'.toArray) := .tuple (by simpa using h.1) fun i u u' a b => h.2 i u u' (by simpa using a) (by simpa using b)
theorem GL.same (h : ∀ v ∈ l, G ρ v v) : GL ρ l l := ⟨rfl, fun i u u' a b => by rw [a] at b; cases b; exact h u (List.mem_of_getElem? a)⟩
theorem GL.eq_of (h : GL ρ l l') (he : ∀ u ∈ l, ∀ u', G ρ u u' → u' = u) : l' = l := by
  apply List.ext_getElem? 
  intro i
  cases e : l[i]? with
  | none => rw [List.getElem?_eq_none_iff] at e ⊢; rw [← h.1]; exact e
  | some u =>
    obtain ⟨u', e', g⟩ := h.get e
    rw [e', he u (List.mem_of_getElem? e) u' g]
theorem GL.mem (h : GL ρ l l') (hm : v' ∈ l') : ∃ v ∈ l, G ρ v v' := by
  obtain ⟨i, hi, e⟩ := List.getElem_of_mem hm
  have hlt : i < l.length := by rw [h.1]; exact hi
  exact ⟨l[i], List.getElem_mem hlt, h.2 i _ _ (List.getElem?_eq_getElem hlt) (by rw [List.getElem?_eq_getElem hi, e])⟩
end

theorem G.of_closed {ρ : Pm} : ∀ (n : Nat) (v : Value), closedB n v = true → G ρ v v := by
  intro n
  induction n with
  | zero => intro v h; exact .flat (by simpa [closedB] using h)
  | succ n ih =>
    have li : ∀ a : Array Value, a.toList.all (closedB n) = true → ∀ (i : Nat) (u u' : Value), a[i]? = some u → a[i]? = some u' → G ρ u u' := fun a ha i u u' h1 h2 => by
      rw [h1] at h2
      cases h2
      exact ih u (List.all_eq_true.1 ha u (by simpa using Array.mem_of_getElem? h1))
    intro v h
    cases v with
    | iface t v => simp only [closedB] at h; exact .iface (ih v h)
    | agg a => simp only [closedB] at h; exact .agg rfl (li a h)
    | tuple a => simp only [closedB] at h; exact .tuple rfl (li a h)
    | func f a b =>
      simp only [closedB, Bool.and_eq_true] at h
      cases f <;> simp at h
      exact .func rfl rfl (li a (by simpa using h.1)) (li b (by simpa using h.2))
    | _ => exact .flat (by simpa [closedB] using h)
theorem G.closed_eq {ρ : Pm} : ∀ (n : Nat) (v v' : Value), closedB n v = true → G ρ v v' → v' = v := by
  intro n
  induction n with
  | zero =>
    intro v v' h g
    cases g with
    | flat => rfl
    | _ => simp [closedB, Cl.flat] at h
  | succ n ih =>
    have li : ∀ a a' : Array Value, a.toList.all (closedB n) = true → a.size = a'.size → (∀ (i : Nat) (u u' : Value), a[i]? = some u → a'[i]? = some u' → G ρ u u') → a' = a := fun a a' ha hs h1 => by
      apply Array.ext'
      exact (GL.of_array hs h1).eq_of fun u hu u' g => ih u u' (List.all_eq_true.1 ha u hu) g
    intro v v' h g
    cases g with
    | flat => rfl
    | iface g => simp only [closedB] at h; rw [ih _ _ h g]
    | agg hs h1 => simp only [closedB] at h; rw [li _ _ h hs h1]
    | tuple hs h1 => simp only [closedB] at h; rw [li _ _ h hs h1]
    | func ha hb h1 h2 =>
      simp only [closedB, Bool.and_eq_true, true_and] at h
      rw [li _ _ h.1 ha h1, li _ _ h.2 hb h2]
    | _ => simp [closedB, Cl.flat] at h

theorem oneB_G {ρ : Pm} {v v' : Value} (g : G ρ v v') (h : oneB v = true) : v'.oneCell' = true := by
  cases g with
  | flat hf => cases v <;> simp [flat] at hf <;> rfl
  | agg => simp [oneB] at h
  | tuple => simp [oneB] at h
  | _ => rfl
theorem cells_G {ρ : Pm} {v v' : Value} (g : G ρ v v') : GL ρ v.cells.toList v'.cells.toList := by
  cases g with
  | agg ha h1 => exact .of_array ha h1
  | flat h =>
    have k : GL ρ [v] [v] := .cons (.flat h) .nil
    cases v <;> first | exact k | (simp [flat] at h; done)
  | ptr h => exact .cons (.ptr h) .nil
  | slc h => exact .cons (.slc h) .nil
  | slx h => exact .cons (.slx h) .nil
  | map h => exact .cons (.map h) .nil
  | func a b c d => exact .cons (.func a b c d) .nil
  | iface h => exact .cons (.iface h) .nil
  | tuple a b => exact .cons (.tuple a b) .nil

/-- entries, side by side: the keys are closed -/
def GE (ρ : Pm) (es es' : List MapEntry) : Prop := es.length = es'.length ∧ ∀ (i : Nat) (e e' : MapEntry), es[i]? = some e → es'[i]? = some e' → e'.key = e.key ∧ closedB CD e.key = true ∧ e'.born = e.born ∧ G ρ e.val e'.val
theorem GE.mono {ρ ρ' : Pm} {es es' : List MapEntry} (hl : ρ.le ρ') (h : GE ρ es es') : GE ρ' es es' := ⟨h.1, fun i e e' a b => by
  obtain ⟨h1, h2, h3, h4⟩ := h.2 i e e' a b
  exact ⟨h1, h2, h3, h4.mono hl⟩⟩

def AO.live : AO → Bool
  | .gone | .emp | .glob _ _ => false
  | _ => true
noncomputable def szOf (P : Program) (e : TypeId) : Nat := match tk P e with
  | some (_, n) => n
  | none => 0
/-- a block of the world holds this -/
def Holds (P : Program) (w0 : World) (ρ : Pm) (w : World) (p : Pl) : AO → Prop
  | .cells c e v => w0.heap.size ≤ p.blk ∧ (v = false → p.slack = 0 ∧ p.base = 0) ∧ ∃ C : Array Value, w.heap[p.blk]? = some (.cells C e (0, 0)) ∧ C.size = p.base + c.length + p.slack * szOf P e ∧
      ∀ (k : Nat) (u : Value), c[k]? = some u → ∃ u', C[p.base + k]? = some u' ∧ G ρ u u'
  | .map es clock => w0.heap.size ≤ p.blk ∧ ∃ es' : Array MapEntry, w.heap[p.blk]? = some (.map es' clock) ∧ GE ρ es es'.toList
  | .iter m since seen last => w0.heap.size ≤ p.blk ∧ p.base = 0 ∧ ∃ m', w.heap[p.blk]? = some (.mapIter m' since seen.toArray last) ∧ G ρ (.map m) (.map m')
  | .siter s pos => w0.heap.size ≤ p.blk ∧ p.base = 0 ∧ w.heap[p.blk]? = some (.stringIter s pos)
  | .glob k c => p = ⟨k, 0, 0⟩ ∧ k < w0.heap.size ∧ ∀ (i : Nat) (u : Value), c[i]? = some u → ∃ u', w0.cell? ⟨k, i, none⟩ = some u' ∧ G ρ u u'
  | .ro c => w0.heap.size ≤ p.blk ∧ ∃ (C : Array Value) (e : TypeId), w.heap[p.blk]? = some (.cells C e (0, 0)) ∧ ∀ (k : Nat) (u : Value), c[k]? = some u → ∃ u', C[p.base + k]? = some u' ∧ G ρ u u'
  | .emp | .gone => True
theorem Holds.mono {P : Program} {w0 : World} {ρ ρ' : Pm} {w : World} {p : Pl} {o : AO} (hl : ρ.le ρ') (h : Holds P w0 ρ w p o) : Holds P w0 ρ' w p o := by
  cases o with
  | cells c e v =>
    obtain ⟨h1, h2, C, h3, h4, h5⟩ := h
    exact ⟨h1, h2, C, h3, h4, fun k u hk => let ⟨u', a, b⟩ := h5 k u hk; ⟨u', a, b.mono hl⟩⟩
  | map es k =>
    obtain ⟨h1, es', h2, h3⟩ := h
    exact ⟨h1, es', h2, h3.mono hl⟩
  | iter =>
    obtain ⟨h1, h2, m', h3, h4⟩ := h
    exact ⟨h1, h2, m', h3, h4.mono hl⟩
  | siter => exact h
  | glob k c =>
    obtain ⟨h1, h2, h3⟩ := h
    exact ⟨h1, h2, fun i u hk => let ⟨u', a, b⟩ := h3 i u hk; ⟨u', a, b.mono hl⟩⟩
  | ro c =>
    obtain ⟨h1, C, e, h2, h3⟩ := h
    exact ⟨h1, C, e, h2, fun k u hk => let ⟨u', a, b⟩ := h3 k u hk; ⟨u', a, b.mono hl⟩⟩
  | _ => trivial
theorem Holds.world {P : Program} {w0 : World} {ρ : Pm} {w w' : World} {p : Pl} {o : AO} (hw : o.live = true → w'.heap[p.blk]? = w.heap[p.blk]?) (h : Holds P w0 ρ w p o) : Holds P w0 ρ w' p o := by
  cases o with
  | cells c e v => unfold Holds at *; rw [hw rfl]; exact h
  | map es k => unfold Holds at *; rw [hw rfl]; exact h
  | iter => unfold Holds at *; rw [hw rfl]; exact h
  | siter => unfold Holds at *; rw [hw rfl]; exact h
  | ro c => unfold Holds at *; rw [hw rfl]; exact h
  | glob => exact h
  | _ => trivial
theorem Holds.old {P : Program} {w0 : World} {ρ : Pm} {w : World} {p : Pl} {o : AO} (ho : o.live = true) (h : Holds P w0 ρ w p o) : w0.heap.size ≤ p.blk ∧ p.blk < w.heap.size := by
  cases o with
  | cells c e v => obtain ⟨h1, _, C, h3, _⟩ := h; exact ⟨h1, (Array.getElem?_eq_some_iff.1 h3).1⟩
  | map es k => obtain ⟨h1, _, h3, _⟩ := h; exact ⟨h1, (Array.getElem?_eq_some_iff.1 h3).1⟩
  | iter => obtain ⟨h1, _, _, h3, _⟩ := h; exact ⟨h1, (Array.getElem?_eq_some_iff.1 h3).1⟩
  | siter => obtain ⟨h1, _, h3⟩ := h; exact ⟨h1, (Array.getElem?_eq_some_iff.1 h3).1⟩
  | ro c => obtain ⟨h1, C, e, h3, _⟩ := h; exact ⟨h1, (Array.getElem?_eq_some_iff.1 h3).1⟩
  | _ => cases ho

/-- the machine's memory stands for what the world holds -/
structure W (P : Program) (w0 : World) (ρ : Pm) (h : H) (w : World) : Prop where
  below : Below w0.heap.size w0 w
  dom : ∀ i, hget h i = none → ρ i = none
  obj : ∀ i o, hget h i = some o → ∃ p, ρ i = some p ∧ Holds P w0 ρ w p o
  inj : ∀ i j oi oj p q, i ≠ j → hget h i = some oi → hget h j = some oj → ρ i = some p → ρ j = some q → oi.live = true → oj.live = true → p.blk ≠ q.blk

section
variable {P : Program} {w0 w w' : World} {ρ : Pm} {h h' : H}
theorem W.ext (hw : W P w0 ρ h w) (he : ∀ i, hget h' i = hget h i) : W P w0 ρ h' w :=
  ⟨hw.below, fun i e => hw.dom i (he i ▸ e), fun i o e => hw.obj i o (he i ▸ e), fun i j oi oj p q a b c => hw.inj i j oi oj p q a (he i ▸ b) (he j ▸ c)⟩
/-- at the start: variables of packages, and nothing else -/
def ofGlobs (h : H) : Prop := ∀ i o, hget h i = some o → ∃ k c, o = .glob k c
noncomputable def rho0 (h : H) : Pm := fun i => match hget h i with
  | some (.glob k _) => some ⟨k, 0, 0⟩
  | _ => none
theorem W.start (w : World) (hh : ∀ i o, hget h i = some o → ∃ k c, o = .glob k c ∧ k < w.heap.size ∧ ∀ (j : Nat) (u : Value), c[j]? = some u → closedB CD u = true ∧ w.cell? ⟨k, j, none⟩ = some u) : W P w (rho0 h) h w := by
  refine ⟨Below.refl _ _, fun i e => by simp [rho0, e], fun i o e => ?_, fun i j oi oj p q _ e _ _ _ hl _ => ?_⟩
  · obtain ⟨k, c, rfl, h1, h2⟩ := hh i o e
    exact ⟨⟨k, 0, 0⟩, by simp [rho0, e], rfl, h1, fun j u hu => ⟨u, (h2 j u hu).2, G.of_closed _ _ (h2 j u hu).1⟩⟩
  · obtain ⟨k, c, rfl, _⟩ := hh i oi e
    cases hl
/-- the world changes where nothing is spoken of -/
theorem W.world (hw : W P w0 ρ h w) (hb : Below w0.heap.size w w') (hk : ∀ i o p, hget h i = some o → o.live = true → ρ i = some p → w'.heap[p.blk]? = w.heap[p.blk]?) : W P w0 ρ h w' := by
  refine ⟨hw.below.trans hb, hw.dom, fun i o e => ?_, hw.inj⟩
  obtain ⟨p, e1, e2⟩ := hw.obj i o e
  exact ⟨p, e1, e2.world fun hl => hk i o p e hl e1⟩
theorem W.drew (hw : W P w0 ρ h w) : W P w0 ρ h w.drew := hw.world (Below.refl _ _).drew fun _ _ _ _ _ _ => rfl
/-- a block of the world that is new is spoken of by none -/
theorem W.alloc (hw : W P w0 ρ h w) (o : Obj) : W P w0 ρ h (w.alloc o) := by
  refine hw.world ((Below.refl _ _).alloc hw.below.size o) fun i oi p e hl e1 => ?_
  obtain ⟨q, e2, e3⟩ := hw.obj i oi e
  rw [e1] at e2
  cases e2
  exact heap_alloc_old w o (e3.old hl).2
/-- a block changes -/
theorem W.set (hw : W P w0 ρ h w) {b : Nat} {o o' : AO} {p : Pl} (hb : hget h b = some o) (hl : o.live = true) (hp : ρ b = some p) (hbe : Below w0.heap.size w w') (hk : ∀ k, k ≠ p.blk → k < w.heap.size → w'.heap[k]? = w.heap[k]?)
    (ho : Holds P w0 ρ w' p o') : W P w0 ρ (hset h b o') w' := by
  refine ⟨hw.below.trans hbe, fun i e => ?_, fun i oi e => ?_, fun i j oi oj p' q' hij ei ej hp' hq' li lj => ?_⟩
  · rw [hget_set] at e
    split at e
    · cases e
    · exact hw.dom i e
  · rw [hget_set] at e
    split at e
    · rename_i e2; subst e2; cases e; exact ⟨p, hp, ho⟩
    · rename_i hne
      obtain ⟨q, e2, e3⟩ := hw.obj i oi e
      exact ⟨q, e2, e3.world fun hl2 => hk _ (hw.inj i b oi o q p hne e hb e2 hp hl2 hl) (e3.old hl2).2⟩
  · rw [hget_set] at ei ej
    split at ei
    · rename_i e2; subst e2
      rw [if_neg (Ne.symm hij)] at ej
      exact hw.inj i j o oj p' q' hij hb ej hp' hq' hl lj
    · split at ej
      · rename_i e2; subst e2
        exact hw.inj i j oi o p' q' hij ei hb hp' hq' li hl
      · exact hw.inj i j oi oj p' q' hij ei ej hp' hq' li lj
/-- a block is given up -/
theorem W.setGone (hw : W P w0 ρ h w) {b : Nat} {o : AO} (hb : hget h b = some o) : W P w0 ρ (hset h b .gone) w := by
  refine ⟨hw.below, fun i e => ?_, fun i oi e => ?_, fun i j oi oj p' q' hij ei ej hp' hq' li lj => ?_⟩
  · rw [hget_set] at e
    split at e
    · cases e
    · exact hw.dom i e
  · rw [hget_set] at e
    split at e
    · rename_i e2; subst e2; cases e
      obtain ⟨q, e2, _⟩ := hw.obj i o hb
      exact ⟨q, e2, trivial⟩
    · exact hw.obj i oi e
  · rw [hget_set] at ei ej
    split at ei
    · cases ei; cases li
    · split at ej
      · cases ej; cases lj
      · exact hw.inj i j oi oj p' q' hij ei ej hp' hq' li lj
/-- one number more -/
def upP (ρ : Pm) (n : Nat) (p : Pl) : Pm := fun i => if i = n then some p else ρ i
theorem upP_same (ρ : Pm) (n : Nat) (p : Pl) : upP ρ n p n = some p := by simp [upP]
theorem W.le_up (hw : W P w0 ρ h w) {n : Nat} (hn : hget h n = none) (p : Pl) : ρ.le (upP ρ n p) := fun i q e => by
  unfold upP
  split
  · rename_i e2; subst e2; rw [hw.dom i hn] at e; cases e
  · exact e
/-- a number is given to a place that none speaks of -/
theorem W.name (hw : W P w0 ρ h w) {n : Nat} {o : AO} {p : Pl} (hn : hget h n = none) (hap : o.live = true → ∀ i oi q, hget h i = some oi → oi.live = true → ρ i = some q → q.blk ≠ p.blk)
    (ho : Holds P w0 (upP ρ n p) w p o) : W P w0 (upP ρ n p) (hset h n o) w := by
  have hle := hw.le_up hn p
  have hne : ∀ i oi, hget h i = some oi → i ≠ n := fun i oi e e2 => by subst e2; rw [hn] at e; cases e
  refine ⟨hw.below, fun i e => ?_, fun i oi e => ?_, fun i j oi oj p' q' hij ei ej hp' hq' li lj => ?_⟩
  · rw [hget_set] at e
    split at e
    · cases e
    · rename_i e2; unfold upP; rw [if_neg e2]; exact hw.dom i e
  · rw [hget_set] at e
    split at e
    · rename_i e2; subst e2; cases e; exact ⟨p, upP_same _ _ _, ho⟩
    · obtain ⟨q, e2, e3⟩ := hw.obj i oi e
      exact ⟨q, hle i q e2, e3.mono hle⟩
  · rw [hget_set] at ei ej
    unfold upP at hp' hq'
    split at ei
    · rename_i e2; subst e2
      cases ei
      rw [if_pos rfl] at hp'
      cases hp'
      rw [if_neg (Ne.symm hij)] at ej hq'
      exact Ne.symm (hap li j oj q' ej lj hq')
    · rename_i hin
      rw [if_neg hin] at hp'
      split at ej
      · rename_i e2; subst e2
        cases ej
        rw [if_pos rfl] at hq'
        cases hq'
        exact hap lj i oi p' ei li hp'
      · rename_i hjn
        rw [if_neg hjn] at hq'
        exact hw.inj i j oi oj p' q' hij ei ej hp' hq' li lj
/-- a new block of the world gets a number -/
theorem W.new (hw : W P w0 ρ h w) {n : Nat} {o : AO} {ob : Obj} {slack : Nat} (hn : hget h n = none) (ho : Holds P w0 (upP ρ n ⟨w.heap.size, 0, slack⟩) (w.alloc ob) ⟨w.heap.size, 0, slack⟩ o) :
    W P w0 (upP ρ n ⟨w.heap.size, 0, slack⟩) (hset h n o) (w.alloc ob) := by
  refine (hw.alloc ob).name hn (fun _ i oi q e hl e1 => ?_) ho
  obtain ⟨q', e2, e3⟩ := hw.obj i oi e
  rw [e1] at e2
  cases e2
  exact Nat.ne_of_lt (e3.old hl).2
end

/-- the frame's variables stand for what the frame holds -/
structure Reg (ρ : Pm) (nt : Nat) (g : Regs) (a : Act) : Prop where
  size : a.tmps.size = nt
  defers : a.defers = []
  tmp : ∀ t v, rget g t = some v → ∃ v', a.tmps[t]? = some v' ∧ G ρ v v'
theorem Reg.mono {ρ ρ' : Pm} {nt : Nat} {g : Regs} {a : Act} (hl : ρ.le ρ') (h : Reg ρ nt g a) : Reg ρ' nt g a := ⟨h.size, h.defers, fun t v e => let ⟨v', x, y⟩ := h.tmp t v e; ⟨v', x, y.mono hl⟩⟩
theorem rput_iff {nt : Nat} {g g' : Regs} {d : Option Tmp} {v : Value} : rput nt g d v = some g' → (d = none ∧ g' = g) ∨ ∃ t, d = some t ∧ t < nt ∧ ∀ s, rget g' s = if s = t then some v else rget g s := by
  intro e
  unfold rput at e
  cases d with
  | none => cases e; exact .inl ⟨rfl, rfl⟩
  | some t =>
    right
    simp only at e
    split at e
    · rename_i h1
      rw [fV_eq] at e
      cases e
      exact ⟨t, rfl, by rw [Nat.ble_eq] at h1; exact h1, fun s => look_cons t v g s⟩
    · cases e
theorem Reg.put {ρ : Pm} {nt : Nat} {g g' : Regs} {a : Act} {d : Option Tmp} {v v' : Value} (h : Reg ρ nt g a) (e : rput nt g d v = some g') (hv : G ρ v v') : Reg ρ nt g' (a.put d v') := by
  rcases rput_iff e with ⟨rfl, rfl⟩ | ⟨t, rfl, ht, hg⟩
  · exact h
  · refine ⟨by simp [Act.put, h.size], by simp [Act.put, h.defers], fun s u hs => ?_⟩
    rw [hg] at hs
    split at hs
    · rename_i e2; subst e2; cases hs
      exact ⟨v', by simp [Act.put, h.size, ht], hv⟩
    · rename_i hne
      obtain ⟨u', e1, e2⟩ := h.tmp s u hs
      exact ⟨u', by simp [Act.put, Array.getElem?_setIfInBounds_ne (Ne.symm hne), e1], e2⟩
theorem Reg.ev {ρ : Pm} {nt : Nat} {g : Regs} {a : Act} {x : Operand} {v : Value} (h : Reg ρ nt g a) (e : evA g x = some v) : G ρ v (a.eval x) := by
  cases x with
  | tmp t =>
    obtain ⟨v', e1, e2⟩ := h.tmp t v e
    have : a.eval (.tmp t) = v' := by simp [Act.eval, Array.getD_eq_getD_getElem?, e1]
    rw [this]; exact e2
  | const c =>
    simp only [evA] at e
    split at e
    · rename_i hc; cases e; exact G.of_closed _ _ hc
    · cases e
  | global g => cases e
  | func f =>
    simp only [evA] at e; cases e
    exact .func rfl rfl (fun i u u' a => by simp at a) (fun i u u' a => by simp at a)
end Cl
end Go.Proofs.YtcihbmifogfdpaaGreatDoor

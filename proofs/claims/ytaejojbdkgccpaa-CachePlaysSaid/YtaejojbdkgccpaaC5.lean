/-
  The list of a class in memory; oldest.
-/
import Derived.Test.YtaejojbdkgccpaaC4
namespace Go.Proofs.Ytaejojbdkgccpaa
open Go.RowKit Go.Maps Go.ChangeMaps

def intsC (l : List Int) : List Value := l.map (Value.int .i64)
theorem intsC_one (l : List Int) : ∀ u ∈ intsC l, u.oneCell' = true := by
  intro u hu
  obtain ⟨p, _, rfl⟩ := List.mem_map.1 hu
  rfl
def intsP (v : Value) (l : List Int) : HP := HP.arr 3 1 v l.length (intsC l)
/-- a list of objects in memory -/
def lstP (b : Nat) (x : CL) : HP := HP.ex fun v => HP.blk b #[v, .int .i64 x.lim, .int .i64 x.low] 72 * intsP v x.objs
theorem lst_open {w0 w : World} {F : List HP} {b : Nat} {x : CL} (h : St w0 (lstP b x :: F) w) :
    ∃ a cap, St w0 (HP.blk b #[.slice a x.objs.length cap, .int .i64 x.lim, .int .i64 x.low] 72 :: intsP (.slice a x.objs.length cap) x.objs :: F) w := by
  obtain ⟨v, h⟩ := St.ex.1 h
  have h := St.two.1 h
  obtain ⟨a, cap, rfl⟩ := (HP.arr_reads (h.front 1)).form
  exact ⟨a, cap, h⟩
theorem lst_shut {w0 w : World} {F : List HP} {b lim low : Nat} {l : List Int} {v : Value} (h : St w0 (HP.blk b #[v, .int .i64 lim, .int .i64 low] 72 :: intsP v l :: F) w) : St w0 (lstP b ⟨l, lim, low⟩ :: F) w :=
  St.ex.2 ⟨v, St.two.2 h⟩

theorem Reads.take1 {w : World} {a : Option Addr} {n cap : Nat} {xs : List Value} (h : Reads w 1 (.slice a n cap) n xs) {k : Nat} (hk : k ≤ n) : Reads w 1 (.slice a k cap) k (xs.take k) := by
  have hl : xs.length = n := by simpa using h.1
  refine ⟨by rw [List.length_take]; omega, ?_⟩
  rcases h.2 with ⟨hv, hn⟩ | ⟨b1, off1, sp1, cap1, hv, hn, hsp, hc⟩
  · cases hv
    have : k = 0 := by omega
    subst this
    exact .inl ⟨rfl, rfl⟩
  · cases hv
    refine .inr ⟨b1, off1, sp1, cap, rfl, by omega, ?_, fun i x hi => hc i x (by
      rw [List.getElem?_take] at hi
      split at hi
      · exact hi
      · cases hi)⟩
    rcases hsp with h | h
    · exact .inl h
    · exact .inr (by omega)

/-- the list of an entry of the map -/
def entP (s : Nat → CL) (x : Ent) : HP := lstP x.b (s x.k)
theorem big_mid (A : Ent → HP) (l1 l2 : List Ent) (x : Ent) (F : List HP) : HP.big ((l1 ++ x :: l2).map A ++ F) = HP.big (A x :: ((l1 ++ l2).map A ++ F)) := by
  simp only [List.map_append, List.map_cons, HP.big_append, HP.big]
  ac_rfl
/-- one entry is looked at, and may become another -/
theorem St.entry {w0 : World} {l : List Ent} {x : Ent} {s : Nat → CL} (hx : x ∈ l) (hd : (l.map Ent.k).Nodup) : ∃ R : List HP,
    (∀ F w, St w0 (l.map (entP s) ++ F) w → St w0 (lstP x.b (s x.k) :: (R ++ F)) w) ∧ (∀ F w, St w0 (lstP x.b (s x.k) :: (R ++ F)) w → St w0 (l.map (entP s) ++ F) w) ∧
    ∀ y F w, St w0 (lstP x.b y :: (R ++ F)) w → St w0 (l.map (entP (updC s x.k y)) ++ F) w := by
  obtain ⟨l1, l2, rfl⟩ := List.append_of_mem hx
  refine ⟨(l1 ++ l2).map (entP s), fun F w h => h.perm (big_mid (entP s) l1 l2 x F), fun F w h => h.perm (big_mid (entP s) l1 l2 x F).symm, fun y F w h => ?_⟩
  have e : (l1 ++ l2).map (entP (updC s x.k y)) = (l1 ++ l2).map (entP s) := by
    refine List.map_congr_left fun z hz => ?_
    have hne : z.k ≠ x.k := by
      rw [List.map_append, List.map_cons, List.nodup_append] at hd
      obtain ⟨_, h2, h3⟩ := hd
      rw [List.nodup_cons] at h2
      rcases List.mem_append.1 hz with hz | hz
      · exact h3 _ (List.mem_map_of_mem hz) _ (by simp)
      · intro e
        exact h2.1 (e ▸ List.mem_map_of_mem hz)
    unfold entP
    rw [updC_other s y hne]
  refine St.perm ?_ (big_mid (entP (updC s x.k y)) l1 l2 x F).symm
  rw [e]
  show St w0 (lstP x.b (updC s x.k y x.k) :: _) w
  rw [updC_same]
  exact h
/-- a new entry -/
theorem St.entryNew {w0 w : World} {l : List Ent} {s : Nat → CL} {F : List HP} {x : Ent} (h : St w0 (lstP x.b (s x.k) :: (l.map (entP s) ++ F)) w) : St w0 ((l ++ [x]).map (entP s) ++ F) w := by
  refine h.perm ?_
  rw [big_mid (entP s) l [] x F, List.append_nil]
  rfl
end Go.Proofs.Ytaejojbdkgccpaa

/-
  A cache in memory; of at any class.
-/
import Derived.Test.YtaejojbdkgccpaaC5
namespace Go.Proofs.Ytaejojbdkgccpaa
open Go.RowKit Go.Maps Go.ChangeMaps

/-- where a cache lies -/
structure CD where
  bm : Nat
  clock : Nat
  l : List Ent
  ta : Option Addr
  tcap : Nat
def CD.ok (D : CD) (N : Nat) (s : Nat → CL) : Prop := MapOk D.l D.clock ∧ (∀ x ∈ D.l, x.k < N) ∧ ∀ k, k < N → (∀ x ∈ D.l, x.k ≠ k) → s k = CL.new
def clsC (tb : List Cls) : List Value := tb.flatMap fun x => [.int .i64 x.size, .int .i64 x.pages, .int .i64 x.batch]
def headP (c N : Nat) (bud : Int) (D : CD) : HP := HP.blk c #[.slice D.ta N D.tcap, .int .i64 bud, .map (some D.bm)] 65
def cacheP (c : Nat) (tb : List Cls) (bud : Int) (s : Nat → CL) : HP := HP.ex fun D : {D : CD // D.ok tb.length s} =>
  headP c tb.length bud D.1 * (HP.at D.1.bm (.map (entsA D.1.l) D.1.clock) * (HP.arr 43 3 (.slice D.1.ta tb.length D.1.tcap) tb.length (clsC tb) * HP.big (D.1.l.map (entP s))))
theorem cache_open {w0 w : World} {F : List HP} {c : Nat} {tb : List Cls} {bud : Int} {s : Nat → CL} (h : St w0 (cacheP c tb bud s :: F) w) :
    ∃ D : CD, D.ok tb.length s ∧ St w0 (headP c tb.length bud D :: HP.at D.bm (.map (entsA D.l) D.clock) :: HP.arr 43 3 (.slice D.ta tb.length D.tcap) tb.length (clsC tb) :: (D.l.map (entP s) ++ F)) w := by
  obtain ⟨D, h⟩ := St.ex.1 h
  refine ⟨D.1, D.2, h.perm ?_⟩
  simp only [HP.big, HP.big_append]
  ac_rfl
theorem cache_shut {w0 w : World} {F : List HP} {c : Nat} {tb : List Cls} {bud : Int} {s : Nat → CL} {D : CD} (ho : D.ok tb.length s)
    (h : St w0 (headP c tb.length bud D :: HP.at D.bm (.map (entsA D.l) D.clock) :: HP.arr 43 3 (.slice D.ta tb.length D.tcap) tb.length (clsC tb) :: (D.l.map (entP s) ++ F)) w) : St w0 (cacheP c tb bud s :: F) w := by
  refine St.ex.2 ⟨⟨D, ho⟩, h.perm ?_⟩
  simp only [HP.big, HP.big_append]
  ac_rfl
theorem CD.ok_upd {D : CD} {N : Nat} {s : Nat → CL} (h : D.ok N s) {x : Ent} (hx : x ∈ D.l) (y : CL) : D.ok N (updC s x.k y) :=
  ⟨h.1, h.2.1, fun k hk hn => by rw [updC_other s y (fun e => hn x hx e.symm)]; exact h.2.2 k hk hn⟩

/-- of: the list of a class, and the way back -/
theorem of_in (w0 w : World) (F : List HP) (c : Nat) (tb : List Cls) (bud : Int) (s : Nat → CL) (hN : tb.length ≤ 40) (hs : St w0 (cacheP c tb bud s :: F) w) (k : Nat) (hk : k < tb.length) :
    Calls Try.prog 39 #[.pointer (some ⟨c, 0, none⟩), .int .i64 k] w fun e w' => ∃ (b : Nat) (D : CD) (R : List HP), e = .returned (.pointer (some ⟨b, 0, none⟩)) ∧
      St w0 (lstP b (s k) :: headP c tb.length bud D :: HP.arr 43 3 (.slice D.ta tb.length D.tcap) tb.length (clsC tb) :: (R ++ F)) w' ∧
      ∀ y (G : List HP) w2, St w0 (lstP b y :: headP c tb.length bud D :: HP.arr 43 3 (.slice D.ta tb.length D.tcap) tb.length (clsC tb) :: (R ++ G)) w2 → St w0 (cacheP c tb bud (updC s k y) :: G) w2 := by
  obtain ⟨D, ho, h⟩ := cache_open hs
  by_cases hin : ∃ x ∈ D.l, x.k = k
  · obtain ⟨x, hx, rfl⟩ := hin
    obtain ⟨R, e1, e2, e3⟩ := St.entry (w0 := w0) (s := s) hx ho.1.once
    refine (of_there w0 w _ c D.bm D.clock tb.length D.tcap D.ta bud D.l x h ho.1 hx hk).mono ?_
    rintro e w' ⟨rfl, rfl⟩
    refine ⟨x.b, D, HP.at D.bm (.map (entsA D.l) D.clock) :: R, rfl, ?_, fun y G w2 g => ?_⟩
    · have h1 : St w0 (D.l.map (entP s) ++ (headP c tb.length bud D :: HP.arr 43 3 (.slice D.ta tb.length D.tcap) tb.length (clsC tb) :: HP.at D.bm (.map (entsA D.l) D.clock) :: F)) w := h.perm (by simp only [HP.big, HP.big_append]; ac_rfl)
      exact (e1 _ _ h1).perm (by simp only [HP.big, HP.big_append]; ac_rfl)
    · have g1 : St w0 (lstP x.b y :: (R ++ (headP c tb.length bud D :: HP.arr 43 3 (.slice D.ta tb.length D.tcap) tb.length (clsC tb) :: HP.at D.bm (.map (entsA D.l) D.clock) :: G))) w2 := g.perm (by simp only [HP.big, HP.big_append]; ac_rfl)
      exact cache_shut (CD.ok_upd ho hx y) ((e3 _ _ _ g1).perm (by simp only [HP.big, HP.big_append]; ac_rfl))
  · have hn : ∀ x ∈ D.l, x.k ≠ k := fun x hx e => hin ⟨x, hx, e⟩
    refine (of_new w0 w _ c D.bm D.clock tb.length D.tcap D.ta bud D.l k h ho.1 hn hk hN).mono ?_
    rintro e w' ⟨b, rfl, g⟩
    have hnew := ho.2.2 k hk hn
    refine ⟨b, ⟨D.bm, D.clock + 1, D.l ++ [⟨k, b, D.clock⟩], D.ta, D.tcap⟩, HP.at D.bm (.map (entsA (D.l ++ [⟨k, b, D.clock⟩])) (D.clock + 1)) :: (D.l.map (entP s)), rfl, ?_, fun y G w2 g2 => ?_⟩
    · rw [hnew]
      have g1 : St w0 (HP.blk b #[.slice none 0 0, .int .i64 1, .int .i64 0] 72 :: headP c tb.length bud D :: HP.arr 43 3 (.slice D.ta tb.length D.tcap) tb.length (clsC tb) :: HP.at D.bm (.map (entsA (D.l ++ [⟨k, b, D.clock⟩])) (D.clock + 1)) :: (D.l.map (entP s) ++ F)) w' := g.perm (by simp only [HP.big, HP.big_append, headP]; ac_rfl)
      have g2 := g1.arr_nil 3 1
      exact lst_shut (l := []) (lim := 1) (low := 0) g2.swap
    · have e : (D.l).map (entP (updC s k y)) = D.l.map (entP s) := List.map_congr_left fun z hz => by unfold entP; rw [updC_other s y (hn z hz)]
      refine cache_shut (D := ⟨D.bm, D.clock + 1, D.l ++ [⟨k, b, D.clock⟩], D.ta, D.tcap⟩) ⟨ho.1.add (by omega) hn, fun x hx => ?_, fun j hj hnj => ?_⟩ ?_
      · rcases List.mem_append.1 hx with hx | hx
        · exact ho.2.1 x hx
        · rw [List.mem_singleton.1 hx]; exact hk
      · have hjk : j ≠ k := fun e => hnj ⟨k, b, D.clock⟩ (by simp) e.symm
        rw [updC_other s y hjk]
        exact ho.2.2 j hj fun x hx => hnj x (List.mem_append_left _ hx)
      · have g3 : St w0 (lstP b (updC s k y k) :: (D.l.map (entP (updC s k y)) ++ (headP c tb.length bud D :: HP.arr 43 3 (.slice D.ta tb.length D.tcap) tb.length (clsC tb) :: HP.at D.bm (.map (entsA (D.l ++ [⟨k, b, D.clock⟩])) (D.clock + 1)) :: G))) w2 := by
          rw [e, updC_same]
          exact g2.perm (by simp only [HP.big, HP.big_append, headP]; ac_rfl)
        have g4 := St.entryNew (x := ⟨k, b, D.clock⟩) g3
        exact g4.perm (by simp only [HP.big, HP.big_append, headP]; ac_rfl)
end Go.Proofs.Ytaejojbdkgccpaa

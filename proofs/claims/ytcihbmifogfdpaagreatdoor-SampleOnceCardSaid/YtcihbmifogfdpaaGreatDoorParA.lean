/-
  A region that draws its order, walked once, as 'wpAny' (for rounds of a range over a function).
-/
import Derived.Test.YtcihbmifogfdpaaGreatDoorPar
namespace Go.Proofs.YtcihbmifogfdpaaGreatDoor
open Go.RowKit
section
variable {P : Program} {w0 : World}
theorem wpAny_par0 {Q : Exit → Act → World → Prop} {a : Act} {w : World} {l : List Oper} (n0 stop : Nat) (fin : List Nat) (T0 R : List HP) (es : List (Nat × List Nat)) (ph : Nat → Value → Prop) (gv : Nat → Value → HP)
    (hC : parC l es n0 stop = true) (hn : T0.length = n0) (hf : finL es n0 stop = fin)
    (hs : St w0 (T0 ++ R) w)
    (h : wpPar P l.toArray w0 R T0 es ph gv (fun a' vs => ∀ w', St w0 (fin.map (tokA T0 gv vs) ++ R) w' → wpList P l.toArray Q (l.drop stop) a' w') stop 0 a (fun _ => undef)) : wpAny P .any l.toArray Q l.toArray.size (Array.replicate l.toArray.size false) a { w with drawn := w.drawn + 1 } := by
  subst hn
  subst hf
  simp only [parC, Bool.and_eq_true, decide_eq_true_eq] at hC
  obtain ⟨⟨⟨⟨⟨⟨⟨hsel, hlex⟩, hB⟩, hb⟩, hT⟩, hst⟩, hkey⟩, hseq⟩ := hC
  have hst' : stop ≤ l.toArray.size := by simpa using hst
  have hs' : St w0 (T0 ++ R) { w with drawn := w.drawn + 1 } := hs.drew
  have main := wpAnyP_lex (md := .any) (G := T0) hT hst' (hs'.perm (L' := R ++ T0) (by simp only [HP.big_append]; ac_rfl)) hB hsel stop 0 (Array.replicate l.length false) a (fun _ => undef) (by omega) Closed.start hlex h
  have start : St w0 (tokS l.toArray T0 es gv (Array.replicate l.length false) (fun _ => undef) :: R) { w with drawn := w.drawn + 1 } := by
    have e : tokS l.toArray T0 es gv (Array.replicate l.length false) (fun _ => undef) = HP.big T0 := by
      have hl : ∀ t, liveB es T0.length (Array.replicate l.length false) t = decide (t < T0.length) := fun t => by
        unfold liveB
        have hr : ∀ q, (Array.replicate l.length false).getD q false = false := fun q => by
          by_cases hq : q < l.length
          · simp [hq]
          · simp [hq]
        simp [hr]
      unfold tokS
      rw [stars_ext (B := fun t => if decide (t < T0.length) then tokA T0 gv (fun _ => undef) t else HP.emp) (fun t _ => by rw [hl t]), stars_filter]
      have e2 : (List.range (T0.length + l.toArray.size)).filter (fun t => decide (t < T0.length)) = List.range T0.length := by
        rw [List.range_add, List.filter_append]
        rw [List.filter_eq_self.2 (fun t ht => by simpa using ht), List.filter_eq_nil_iff.2 (fun t ht => by
          obtain ⟨x, _, rfl⟩ := List.mem_map.1 ht
          simp), List.append_nil]
      rw [e2]
      congr 1
      refine List.ext_getElem? fun i => ?_
      rw [List.getElem?_map]
      by_cases hi : i < T0.length
      · rw [List.getElem?_range hi, Option.map_some]
        unfold tokA
        rw [if_pos hi, List.getElem?_eq_getElem hi, List.getD_eq_getElem?_getD, List.getElem?_eq_getElem hi]
        rfl
      · rw [List.getElem?_eq_none (by simpa using hi), List.getElem?_eq_none (by simpa using hi)]
        rfl
    rw [e]
    exact hs'.perm (by simp only [HP.big, HP.big_append])
  suffices ∀ (fuel : Nat) (listed : Array Bool) (a : Act) (vs : Nat → Value) (w : World), listed.size = l.length → (∀ j, stop ≤ j → listed.getD j false = false) → Closed .any l.toArray listed → St w0 (tokS l.toArray T0 es gv listed vs :: R) w →
      wpAnyP P l.toArray w0 R T0 es ph gv .any stop (fun a' vs => ∀ w', St w0 ((finL es T0.length stop).map (tokA T0 gv vs) ++ R) w' → wpList P l.toArray Q (l.drop stop) a' w') fuel listed a vs → wpAny P .any l.toArray Q (fuel + (l.length - stop)) listed a w by
    have := this _ _ _ _ _ (by simp) (fun j _ => getD_replicate_false _ _) Closed.start start main
    rw [show stop + (l.length - stop) = l.toArray.size by simp; omega] at this
    simpa using this
  have hkeys := (parB_spec hB).1
  have hks : ∀ i c, eatsOf es i = some c → i < stop := fun i c hc => by
    have := List.all_eq_true.1 hkey _ (mem_of_eats hc)
    simpa using this
  clear main start h hs hs' hlex
  intro fuel
  induction fuel with
  | zero =>
    intro listed a vs w hz hno hcl hst2 h
    have hall := all_listed hb (by simpa using hz) h.1 hst' stop
    have hL : listed = (List.replicate stop true ++ List.replicate (l.length - stop) false).toArray := by
      refine Array.ext (by simp [hz]; omega) fun i h1 h2 => ?_
      by_cases hi : i < stop
      · have := hall i hi hi
        simp [h1] at this
        simp [hi, List.getElem_append, this]
      · have := hno i (by omega)
        simp [h1] at this
        simp [hi, List.getElem_append, this]
    rw [Nat.zero_add]
    rw [← hL] at hseq
    have hw := h.2 w (hst2.perm ?_)
    · have := wpAny_of_seq (md := .any) (Q' := Q) (l.drop stop) stop listed a w (fun j => by simp [List.getElem?_drop]) (by simpa using hseq) hw
      simpa using this
    · have hl : ∀ t, liveB es T0.length listed t = ((decide (t < T0.length) || (eatsOf es (t - T0.length)).isSome) && es.all fun p => !p.2.contains t) := fun t => by
        unfold liveB
        congr 1
        · congr 1
          cases he : eatsOf es (t - T0.length) with
          | none => rfl
          | some c =>
            have h1 := hks _ _ he
            rw [hall _ h1 h1]
            rfl
        · rw [Bool.eq_iff_iff, List.all_eq_true, List.all_eq_true]
          have hp : ∀ p ∈ es, listed.getD p.1 false = true := fun p hp => by
            have h1 : p.1 < stop := by have := List.all_eq_true.1 hkey p hp; simpa using this
            exact hall _ h1 h1
          constructor
          · intro h p h1
            have := h p h1
            rwa [hp p h1, Bool.true_and] at this
          · intro h p h1
            rw [hp p h1, Bool.true_and]
            exact h p h1
      have hcut : (List.range (T0.length + l.toArray.size)).filter (fun t => (decide (t < T0.length) || (eatsOf es (t - T0.length)).isSome) && es.all fun p => !p.2.contains t) = finL es T0.length stop := by
        unfold finL
        rw [show T0.length + l.toArray.size = (T0.length + stop) + (l.length - stop) by simp; omega, List.range_add (n := T0.length + stop), List.filter_append]
        refine (congrArg _ (List.filter_eq_nil_iff.2 fun t ht => ?_)).trans (List.append_nil _)
        obtain ⟨x, _, rfl⟩ := List.mem_map.1 ht
        have h1 : eatsOf es (T0.length + stop + x - T0.length) = none := by
          cases he : eatsOf es (T0.length + stop + x - T0.length) with
          | none => rfl
          | some c => have := hks _ _ he; omega
        have h2 : ¬ (T0.length + stop + x < T0.length) := by omega
        simp [h1, h2]
      unfold tokS
      rw [HP.big, stars_ext (B := fun t => if (decide (t < T0.length) || (eatsOf es (t - T0.length)).isSome) && (es.all fun p => !p.2.contains t) then tokA T0 gv vs t else HP.emp) (fun t _ => by rw [hl t]), stars_filter, hcut, HP.big_append]
  | succ fuel ih =>
    intro listed a vs w hz hno hcl hst2 h
    rw [show fuel + 1 + (l.length - stop) = (fuel + (l.length - stop)) + 1 by omega]
    refine ⟨fun h0 => absurd h0 h.1, fun i hi => ?_⟩
    obtain ⟨his, h2⟩ := h.2 i hi
    have nxt := fun a' vs' w' => ih (listed.setIfInBounds i true) a' vs' w' (by simpa using hz) (fun j hj => by rw [getD_set_ne false (by omega)]; exact hno j hj) (hcl.set hi)
    unfold parOp at h2
    unfold wpOp
    obtain ⟨_, o, ho, _⟩ := mem_ready.1 hi
    simp only [ho] at h2 ⊢
    cases hc : eatsOf es i with
    | some c =>
      simp only [hc] at h2
      obtain ⟨_, hsp, hK⟩ := h2
      obtain ⟨⟨o', ho', hg, _⟩, _⟩ := (parB_spec hB).2 i c (mem_of_eats hc)
      rw [ho] at ho'
      cases ho'
      have hw : Region.wanted o (yielded l.toArray a.tmps) = true := by simp [Region.wanted, hg]
      rw [if_pos hw]
      obtain ⟨r, e1, e2⟩ := tokS_eat (gv := gv) (vs := vs) hB hc hcl hi
      refine .inl (effUpon_wp (fun v w' hp => ?_) (hsp [r] w ?_))
      · refine nxt _ _ _ ?_ (hK v hp.1)
        rw [e2]
        exact hp.2.perm (by simp only [HP.big, HP.big_append]; ac_rfl)
      · rw [e1] at hst2
        exact hst2.perm (by simp only [HP.big, HP.big_append]; ac_rfl)
    | none =>
      simp only [hc] at h2
      by_cases hw : Region.wanted o (yielded l.toArray a.tmps) = true
      · simp only [hw, if_true] at h2 ⊢
        obtain ⟨v, h3, hK⟩ := h2
        refine .inl (pureUpon_wp (nxt _ _ _ ?_ hK) (h3 [tokS l.toArray T0 es gv listed vs] w ?_))
        · rw [tokS_still hc hkeys]; exact hst2
        · exact hst2.perm (by simp only [HP.big, HP.big_append]; ac_rfl)
      · simp only [hw] at h2 ⊢
        exact nxt _ _ _ (by rw [tokS_still hc hkeys]; exact hst2) h2

theorem wpAny_par {Q : Exit → Act → World → Prop} {a : Act} {w : World} {l : List Oper} (n0 stop : Nat) (fin : List Nat) (T0 R : List HP) (es : List (Nat × List Nat)) (ph : Nat → Value → Prop) (gv : Nat → Value → HP)
    (hC : parC l es n0 stop = true) (hn : T0.length = n0) (hf : finL es n0 stop = fin)
    (hs : St w0 (T0 ++ R) w)
    (h : wpParL P l.toArray w0 R T0 es ph gv (fun a' vs => ∀ w', St w0 (fin.map (tokA T0 gv vs) ++ R) w' → wpList P l.toArray Q (l.drop stop) a' w') (l.take stop) 0 a (fun _ => undef)) : wpAny P .any l.toArray Q l.toArray.size (Array.replicate l.toArray.size false) a { w with drawn := w.drawn + 1 } := by
  have hst : stop ≤ l.length := by
    simp only [parC, Bool.and_eq_true, decide_eq_true_eq] at hC
    exact hC.1.1.2
  refine wpAny_par0 n0 stop fin T0 R es ph gv hC hn hf hs ?_
  have := wpPar_of_list (fun j hj => ?_) h
  · rwa [show (l.take stop).length = stop by simp; omega] at this
  · have : j < stop := by simp at hj; omega
    simp [this]
end
end Go.Proofs.YtcihbmifogfdpaaGreatDoor

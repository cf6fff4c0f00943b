/-
  Parse of one text given to the machine.
-/
import Derived.Test.YtcihbmifogfdpaaGreatDoorO7
import Derived.Test.YtcihbmifogfdpaaGreatDoorQ2
import Derived.Test.YtcihbmifogfdpaaGreatDoorT11
namespace Go.Proofs.YtcihbmifogfdpaaGreatDoor
open Go.RowKit
namespace Cl

theorem eqU_eq : ∀ {x y : List UInt8}, eqU x y = true → x = y
  | [], [], _ => rfl
  | [], _ :: _, h => by cases h
  | _ :: _, [], h => by cases h
  | a :: x, b :: y, h => by
    unfold eqU at h
    split at h
    · rename_i h1
      rw [eqU_eq h, UInt8.toNat_inj.1 (Nat.eq_of_beq_eq_true h1)]
    · cases h
section
variable {P : Program} {w0 w w' : World} {ρ : Pm} {h : H} {n : Nat}
/-- a slice of the call's own, of which nothing but its cells is known, gets a number -/
theorem post_ro (hw : W P w0 ρ h w) {t : TypeId} {sz m : Nat} {v : Value} {xs xs0 : List Value} (hn : hget h n = none) (hs : St w [HP.arr t sz v m xs] w') (hm : m ≠ 0) (hg : GL ρ xs0 xs) :
    ∃ ρ' : Pm, ρ.le ρ' ∧ W P w0 ρ' (hset h n (.ro xs0)) w' ∧ G ρ' (.slice (some ⟨n, 0, none⟩) m m) v := by
  obtain ⟨hb, mm, ⟨m1, m2, ha, em, hA, hF⟩, hc⟩ := hs
  rcases hA.2 with ⟨_, h0, _⟩ | ⟨b, off, cap, c, rfl, h1, h2, h3, h4, h5⟩
  · exact absurd h0 hm
  · have hw' := hw.later hb
    have hle := hw'.le_up hn ⟨b, off, cap - m⟩
    have hblk := hc b (.cells c t (0, 0)) (by rw [em]; unfold HL.join; rw [h5]; simp [HL.one])
    refine ⟨upP ρ n ⟨b, off, cap - m⟩, hle, hw'.name hn (fun _ i oi p hi hl hp => ?_) ⟨Nat.le_trans hw.below.size hblk.1, c, t, hblk.2, fun k u hu => ?_⟩, ?_⟩
    · obtain ⟨p', e1, e2⟩ := hw.obj i oi hi
      rw [hp] at e1
      cases e1
      have := (e2.old hl).2
      simp only
      omega
    · obtain ⟨u', f1, f2⟩ := hg.get hu
      exact ⟨u', h4 k u' f1, f2.mono hle⟩
    · have := G.slc (ρ := upP ρ n ⟨b, off, cap - m⟩) (b := n) (off := 0) (n := m) (c := m) (upP_same _ _ _)
      simp only [Nat.add_zero, Nat.add_sub_cancel' h1] at this
      exact this
end
theorem rowsC_flat (l : List Rw) : ∀ u ∈ rowsC l, flat u = true := by
  intro u hu
  obtain ⟨r, _, hr⟩ := List.mem_flatMap.1 hu
  simp only [Rw.cells, List.mem_cons, List.not_mem_nil, or_false] at hr
  rcases hr with rfl | rfl | rfl | rfl | rfl <;> rfl

noncomputable def parseOv (T : List UInt8) (L : List Value) (n : Nat) (args : List Value) : HM Value := match args with
  | [.string s] => match eqU s.data.toList T with
    | true => do
      let b ← fresh (.ro L)
      pure (.tuple #[.slice (some ⟨b, 0, none⟩) n n, .int .i64 0])
    | false => HM.fail
  | _ => HM.fail
set_option maxRecDepth 100000 in
theorem parse_ok (w0 : World) (T : List UInt8) (L : List Rw) (hT : parseP ⟨T.toArray⟩ = some L) (hL : L.length ≠ 0) (hsz : T.length ≤ 4294967280) (hE : Errs w0) (hP : Pow10 w0) :
    OneOk Tryz.prog w0 19 (parseOv T (rowsC L) L.length) := by
  intro args n h x e ρ w args' hw hg
  unfold parseOv at e
  split at e
  · rename_i s
    obtain ⟨v', l', rfl, g1, g2⟩ := hg.uncons
    obtain rfl := g2.nil_eq
    cases g1
    split at e
    · rename_i hs
      have hs := eqU_eq hs
      have es : s = ⟨T.toArray⟩ := by rw [← hs]
      subst es
      obtain ⟨f1, f2, f3⟩ := fresh_then (f := fun b => .tuple #[.slice (some ⟨b, 0, none⟩) L.length L.length, .int .i64 0]) e
      have hc := parse_any w ⟨T.toArray⟩ (by simpa [ByteArray.size] using hsz) (hE.grow hw.below) (hP.grow hw.below)
      rw [Tryz.call19]
      refine hc.mono fun e w' h1 => ?_
      unfold parsePost at h1
      rw [hT] at h1
      obtain ⟨v, rfl, _, _, hs⟩ := h1
      obtain ⟨ρ', k1, k2, k3⟩ := post_ro hw f1 hs hL (GL.same fun u hu => .flat (rowsC_flat L u hu))
      refine ⟨_, rfl, ρ', k1, ?_, ?_⟩
      · rw [f3]; exact k2
      · rw [f2]
        exact GL.tuple (GL.cons k3 (GL.cons (.flat rfl) GL.nil))
    · rw [HM.fail_iff] at e; cases e
  · rw [HM.fail_iff] at e; cases e

noncomputable def noEsc (args : List Value) : HM Value := match args with
  | [v] => pure v
  | _ => HM.fail
set_option maxRecDepth 100000 in
theorem noEsc_ok (w0 : World) : OneOk Tryz.prog w0 212 noEsc := by
  intro args n h x e ρ w args' hw hg
  unfold noEsc at e
  split at e
  · obtain ⟨v', l', rfl, g1, g2⟩ := hg.uncons
    obtain rfl := g2.nil_eq
    have := HM.pure_iff.1 e
    subst this
    have hcall : (callFunc 212 [v'].toArray).run Tryz.prog w = .ok (.value v') w := noEscape_call v' w
    rw [hcall]
    exact ⟨ρ, Pm.le_refl _, hw, g1⟩
  · rw [HM.fail_iff] at e; cases e
/-- some functions are given -/
theorem ovOk_of {P : Program} {w0 : World} {ov : FuncId → Option (List Value → HM Value)} (h : ∀ f m, ov f = some m → OneOk P w0 f m) : OvOk P w0 ov := by
  intro f m hf f' args n hh x e ρ w args' hw hg
  dsimp only at e
  by_cases he : f' = f
  · rw [if_pos he] at e
    subst he
    exact h f' m hf args n hh x e ρ w args' hw hg
  · rw [if_neg he] at e
    rw [HM.fail_iff] at e; cases e
end Cl
end Go.Proofs.YtcihbmifogfdpaaGreatDoor

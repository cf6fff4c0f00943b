/-
  alive: the chapter's examples.
-/
import Derived.Test.YtaejojbdkgccpaaC25
namespace Go.Proofs.Ytaejojbdkgccpaa
open Go.RowKit Go.Maps Go.ChangeMaps

theorem take_is (w0 w : World) (F : List HP) (c : Nat) (tb : List Cls) (bud : Int) (s : Nat → CL) (ht : tbOk tb) (kk : Int) (k : Nat) (hkk : kk = (k : Int)) (hk : k < tb.length) (x y : CL) (hx : s k = x) (hok : x.ok) (B : Nat) (hB : Bt tb k = B) (hs : St w0 (cacheP c tb bud s :: F) w) (v e : Int) (hv : x.takeV = v) (he : x.takeE = e) (hy : x.takeF B = y) :
    Calls Try.prog 18 #[.pointer (some ⟨c, 0, none⟩), .int .i64 kk] w fun r w' => r = .returned (.tuple #[.int .i64 v, .int .i64 e]) ∧ St w0 (cacheP c tb bud (updC s k y) :: F) w' := by
  subst hkk hx hB hv he hy
  exact take_in w0 w F c tb bud s ht hs k hk hok
theorem want_is (w0 w : World) (F : List HP) (c : Nat) (tb : List Cls) (bud : Int) (s : Nat → CL) (ht : tbOk tb) (kk : Int) (k : Nat) (hkk : kk = (k : Int)) (hk : k < tb.length) (x : CL) (hx : s k = x) (_hok : x.ok) (B : Nat) (hB : Bt tb k = B) (hs : St w0 (cacheP c tb bud s :: F) w) (n : Int) (hn : (x.wantV B : Int) = n) :
    Calls Try.prog 37 #[.pointer (some ⟨c, 0, none⟩), .int .i64 kk] w fun r w' => r = .returned (.tuple #[.int .i64 n, .int .i64 0]) ∧ St w0 (cacheP c tb bud s :: F) w' := by
  subst hkk hx hB hn
  exact want_in w0 w F c tb bud s ht hs k hk
theorem limit_is (w0 w : World) (F : List HP) (c : Nat) (tb : List Cls) (bud : Int) (s : Nat → CL) (ht : tbOk tb) (kk : Int) (k : Nat) (hkk : kk = (k : Int)) (hk : k < tb.length) (x : CL) (hx : s k = x) (_hok : x.ok) (B : Nat) (_hB : Bt tb k = B) (hs : St w0 (cacheP c tb bud s :: F) w) (n : Int) (hn : (x.lim : Int) = n) :
    Calls Try.prog 23 #[.pointer (some ⟨c, 0, none⟩), .int .i64 kk] w fun r w' => r = .returned (.int .i64 n) ∧ St w0 (cacheP c tb bud s :: F) w' := by
  subst hkk hx hn
  exact limit_in w0 w F c tb bud s ht.2.1 hs k hk
theorem fill_is (w0 w : World) (F : List HP) (c : Nat) (tb : List Cls) (bud : Int) (s : Nat → CL) (ht : tbOk tb) (kk : Int) (k : Nat) (hkk : kk = (k : Int)) (hk : k < tb.length) (x y : CL) (hx : s k = x) (hok : x.ok) (B : Nat) (_hB : Bt tb k = B) (hs : St w0 (cacheP c tb bud s :: F) w) (a : Option Addr) (cap : Nat) (ys : List Int) (n : Nat) (hn : ys.length = n) (hr : ∀ (G : List HP) w', St w0 (G ++ F) w' → Reads w' 1 (.slice a n cap) n (intsC ys)) (hy : n ≤ 300) (e : Int) (he : x.fillE ys = e) (hyy : x.fillF ys = y) :
    Calls Try.prog 20 #[.pointer (some ⟨c, 0, none⟩), .int .i64 kk, .slice a n cap] w fun r w' => r = .returned (.int .i64 e) ∧ St w0 (cacheP c tb bud (updC s k y) :: F) w' := by
  subst hkk hx hn he hyy
  exact fill_in w0 w F c tb bud s ht.2.1 hs k hk hok a cap ys hr hy
theorem put_is (w0 w : World) (F : List HP) (c : Nat) (tb : List Cls) (bud : Int) (s : Nat → CL) (ht : tbOk tb) (kk : Int) (k : Nat) (hkk : kk = (k : Int)) (hk : k < tb.length) (x y : CL) (hx : s k = x) (hok : x.ok) (B : Nat) (hB : Bt tb k = B) (hs : St w0 (cacheP c tb bud s :: F) w) (o : Int) (l : List Int) (n : Nat) (e : Int) (hl : x.putL B o = l) (hn : l.length = n) (he : x.putE = e) (hyy : x.putF B o = y) :
    Calls Try.prog 38 #[.pointer (some ⟨c, 0, none⟩), .int .i64 kk, .int .i64 o] w fun r w' => ∃ a' c', r = .returned (.tuple #[.slice a' n c', .int .i64 e]) ∧ St w0 (HP.arr 3 1 (.slice a' n c') n (intsC l) :: cacheP c tb bud (updC s k y) :: F) w' := by
  subst hkk hx hB hl hn he hyy
  exact put_in w0 w F c tb bud s ht hs k hk hok o
theorem Ints_is (w : World) (b : Bool) (a1 a2 : Option Addr) (m ca cb : Nat) (xs ys : List Int) (h1 : xs.length = m) (h2 : ys.length = m) (hb : decide (xs = ys) = b) (hx : Reads w 1 (.slice a1 m ca) m (xs.map (Value.int .i64)))
    (hy : Reads w 1 (.slice a2 m cb) m (ys.map (Value.int .i64))) (hn : m ≤ 9223372036854775807) :
    Calls Try.prog 19 #[.slice a1 m ca, .slice a2 m cb] w fun e w' => e = .returned (.bool b) ∧ ∃ n, w' = w.drewN n := by
  subst h1 hb
  have h := Ints_any w a1 a2 ca cb xs ys hx (by unfold IntsAt; rw [h2]; exact hy) hn (by omega)
  rw [h2] at h
  exact h

def tb1 : List Cls := [⟨8, 1, 4⟩]
theorem tab1 : tabOk tb1 := ⟨by decide, by decide, fun i hi => by
  have : i = 0 := by have : tb1.length = 1 := rfl; omega
  subst this
  intro x hx
  have : x = ⟨8, 1, 4⟩ := (Option.some.inj hx).symm
  subst this
  exact ⟨by decide, fun y h _ => absurd h (by omega)⟩⟩
theorem upd0 (s : Nat → CL) (x y : CL) : updC (updC s 0 x) 0 y = updC s 0 y := by
  funext k
  unfold updC
  split <;> rfl
theorem drain1 : drainB (updC newS 0 ⟨[], 3, 0⟩) tb1.length = [] := by
  unfold drainB outB
  rfl
theorem at0 (x : CL) : updC newS 0 x 0 = x := updC_same _ _ _
theorem newS0 (k : Nat) (x : CL) (h : x.ok) : (updC newS 0 x k).ok := by
  unfold updC
  split
  · exact h
  · exact CL.ok_new
set_option maxRecDepth 10000 in
set_option maxHeartbeats 4000000 in
theorem alive_any (w0 w : World) (F : List HP) (hs : St w0 F w) : Calls Try.prog 15 #[] w fun e w' => e = .returned (.bool true) ∧ St w0 F w' := by
  have h0 := hs.newArr 43 3 1 [.int .i64 8, .int .i64 1, .int .i64 4] rfl (by decide)
  have T := tab1.tb
  have hTI : TabIn w0 (HP.arr 43 3 (.slice (some ⟨w.heap.size, 0, none⟩) 1 1) 1 [.int .i64 8, .int .i64 1, .int .i64 4] :: F) (.slice (some ⟨w.heap.size, 0, none⟩) tb1.length 1) tb1 := fun G w' h => by
    have h1 : St w0 (HP.arr 43 3 (.slice (some ⟨w.heap.size, 0, none⟩) 1 1) 1 [.int .i64 8, .int .i64 1, .int .i64 4] :: (G ++ F)) w' := h.perm (by simp only [HP.big, HP.big_append]; ac_rfl)
    exact HP.arr_reads h1
  have NW := new_any w0 _ _ h0 (some ⟨w.heap.size, 0, none⟩) 1 tb1 hTI 100
  have e1 : tb1.length = 1 := rfl
  rw [e1] at NW
  have NW := Lib.hid NW
  clear h0 hTI
  go_enter Try.func15, Try.ntmps15
  go_wp2_with fail
  refine NW.out.mono ?_
  rintro e w1 (⟨hno, _, _⟩ | ⟨_, hb, _, _⟩ | ⟨_, _, c, rfl, h1⟩)
  · exact absurd tab1 hno
  · omega
  have h1 : St w0 (cacheP c tb1 100 newS :: F) w1 := h1.pick 2 [0]
  clear NW hs
  go_wp2_with fail
  refine (take_is w0 w1 F c tb1 100 newS T 0 0 rfl (by decide) CL.new ⟨[], 2, 0⟩ rfl CL.ok_new 4 rfl h1 0 4 rfl rfl rfl).mono ?_
  rintro e w2 ⟨rfl, h2⟩
  clear h1
  go_wp2_with fail
  refine (limit_is w0 w2 F c tb1 100 _ T 0 0 rfl (by decide) ⟨[], 2, 0⟩ (at0 _) ⟨by decide, by decide, by decide, by decide⟩ 4 rfl h2 2 rfl).mono ?_
  rintro e w3 ⟨rfl, h3⟩
  clear h2
  go_wp2_with fail
  refine (want_is w0 w3 F c tb1 100 _ T 0 0 rfl (by decide) ⟨[], 2, 0⟩ (at0 _) ⟨by decide, by decide, by decide, by decide⟩ 4 rfl h3 2 rfl).mono ?_
  rintro e w4 ⟨rfl, h4⟩
  clear h3
  have h5 := (h4.newArr 3 1 2 [.int .i64 8, .int .i64 16] rfl (by decide)).swap
  go_wp2_with fail
  refine (fill_is w0 _ _ c tb1 100 _ T 0 0 rfl (by decide) ⟨[], 2, 0⟩ ⟨[16, 8], 2, 0⟩ (at0 _) ⟨by decide, by decide, by decide, by decide⟩ 4 rfl h5 _ 2 [8, 16] 2 rfl (fun G w' h => HP.arr_reads (h.perm (L' := _ :: (G ++ F)) (by simp only [HP.big, HP.big_append]; ac_rfl))) (by decide) 0 rfl rfl).mono ?_
  rintro e w6 ⟨rfl, h6⟩
  clear h4 h5
  rw [upd0] at h6
  have h6 : St w0 (cacheP c tb1 100 (updC newS 0 ⟨[16, 8], 2, 0⟩) :: F) w6 := h6.pick 2 [0]
  go_wp2_with fail
  refine (take_is w0 w6 F c tb1 100 _ T 0 0 rfl (by decide) ⟨[16, 8], 2, 0⟩ ⟨[16], 2, 0⟩ (at0 _) ⟨by decide, by decide, by decide, by decide⟩ 4 rfl h6 8 0 rfl rfl rfl).mono ?_
  rintro e w7 ⟨rfl, h7⟩
  rw [upd0] at h7
  clear h6
  go_wp2_with fail
  refine (put_is w0 w7 F c tb1 100 _ T 0 0 rfl (by decide) ⟨[16], 2, 0⟩ ⟨[16, 24], 2, 0⟩ (at0 _) ⟨by decide, by decide, by decide, by decide⟩ 4 rfl h7 24 [] 0 0 rfl rfl rfl rfl).mono ?_
  rintro e w8 ⟨a8, c8, rfl, h8⟩
  rw [upd0] at h8
  have h8 : St w0 (cacheP c tb1 100 (updC newS 0 ⟨[16, 24], 2, 0⟩) :: F) w8 := h8.drop
  clear h7
  go_wp2_with fail
  refine (put_is w0 w8 F c tb1 100 _ T 0 0 rfl (by decide) ⟨[16, 24], 2, 0⟩ ⟨[], 3, 0⟩ (at0 _) ⟨by decide, by decide, by decide, by decide⟩ 4 rfl h8 32 [16, 24, 32] 3 0 rfl rfl rfl rfl).mono ?_
  rintro e w9 ⟨a9, c9, rfl, h9⟩
  rw [upd0] at h9
  clear h8
  go_wp2_with fail
  refine (limit_is w0 w9 _ c tb1 100 _ T 0 0 rfl (by decide) ⟨[], 3, 0⟩ (at0 _) ⟨by decide, by decide, by decide, by decide⟩ 4 rfl h9.swap 3 rfl).mono ?_
  rintro e w10 ⟨rfl, h10⟩
  clear h9
  have DR := drain_any w0 w10 _ c tb1 100 (updC newS 0 ⟨[], 3, 0⟩) T (fun k => newS0 k _ ⟨by decide, by decide, by decide, by decide⟩) h10
  rw [drain1] at DR
  go_wp2_with fail
  refine DR.mono ?_
  rintro e w11 ⟨a11, c11, rfl, h11⟩
  have h11 : St w0 (HP.arr 3 1 (.slice a9 3 c9) 3 (intsC [16, 24, 32]) :: F) w11 := h11.pick 3 [2]
  clear h10 DR
  have h12 := h11.newArr 3 1 3 [.int .i64 16, .int .i64 24, .int .i64 32] rfl (by decide)
  have IN := Ints_is _ true a9 _ 3 c9 3 [16, 24, 32] [16, 24, 32] rfl rfl rfl (HP.arr_reads (h12.front 1)) (HP.arr_reads h12) (by decide)
  go_wp2_with fail
  refine IN.mono ?_
  rintro e w13 ⟨rfl, n, rfl⟩
  go_wp2_with fail
  go_ret
  exact ⟨rfl, (h12.drewN n).drop.drop⟩
end Go.Proofs.Ytaejojbdkgccpaa

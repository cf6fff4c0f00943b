/-
  The law CacheNone. (Printed by mkL11.py.)
-/
import Derived.Test.YtaejojbdkgccpaaL1
import Derived.Test.YtaejojbdkgccpaaC29
namespace Go.Proofs.Ytaejojbdkgccpaa
open Go.RowKit Go.Maps Go.ChangeMaps

set_option maxRecDepth 10000 in
set_option maxHeartbeats 4000000 in
theorem none_walk (x : ActV) (w : World) (hx : IntsAt w x.v x.l ∧ x.l.length ≤ 9223372036854775807) :
    Calls Try.prog 13 #[.agg #[.int .i64 x.kind, .int .i64 x.cls, .int .i64 x.o, x.v]] w fun e w' => e = .returned (.bool true) ∧ Below w.heap.size w w' := by
  obtain ⟨kd, cls, o, xa, xc, xl⟩ := x
  have ev : (⟨kd, cls, o, xa, xc, xl⟩ : ActV).v = .slice xa xl.length xc := rfl
  have hx : IntsAt w (.slice xa xl.length xc) xl ∧ xl.length ≤ 9223372036854775807 := hx
  rw [ev]
  dsimp only
  clear ev
  have hbx := (St.start w).allocRow #[.int .i64 kd, .int .i64 cls, .int .i64 o, .slice xa xl.length xc] 37
  obtain ⟨q0, q1, q2, q3⟩ := hbx.cells4
  have hsz : (w.alloc (.cells #[.int .i64 kd, .int .i64 cls, .int .i64 o, .slice xa xl.length xc] 37)).heap.size = w.heap.size + 1 := by simp
  have AL := Lib.hid fun w1 (L : List HP) (h1 : St w L w1) => alive_any w w1 L h1
  have GX : Hid (∀ w1 (L : List HP) (b : Nat), St w (HP.arr 37 4 (.slice (some ⟨b, 0, none⟩) 1 1) 1 [.int .i64 kd, .int .i64 cls, .int .i64 o, .slice xa xl.length xc] :: L) w1 →
      Calls Try.prog 14 #[.slice (some ⟨b, 0, none⟩) 1 1] w1 fun e w' => e = .returned (.bool (greatB [⟨kd, cls, o, xa, xc, xl⟩])) ∧ w1 = w') := Lib.hid fun w1 L b h1 => great_any w1 (some ⟨b, 0, none⟩) 1 [⟨kd, cls, o, xa, xc, xl⟩] ⟨HP.arr_reads h1, fun y hy => by rw [List.mem_singleton.1 hy]; exact ⟨h1.reads0 hx.1, hx.2⟩⟩ (by simp)
  have hbs := (hbx.newArr 37 4 1 [.int .i64 kd, .int .i64 cls, .int .i64 o, .slice xa xl.length xc] rfl (by decide))
  rw [hsz] at hbs
  have HBS := Lib.hid hbs
  clear hbx hbs
  cases hgx : greatB [⟨kd, cls, o, xa, xc, xl⟩] with
  | true =>
    rw [hgx] at GX
    clear hgx hx
    go_enter Try.func13, Try.ntmps13
    go_wp2_with fail
    refine (GX.out _ _ _ HBS.out).mono ?_
    rintro e w' ⟨rfl, rfl⟩
    go_wp2_with fail
    refine (AL.out _ _ HBS.out).mono ?_
    rintro e w1 ⟨rfl, h1⟩
    go_wp2_with fail
    go_ret
    exact ⟨rfl, h1.1⟩
  | false =>
    rw [hgx] at GX
    clear hgx hx
    go_enter Try.func13, Try.ntmps13
    go_wp2_with fail
    refine (GX.out _ _ _ HBS.out).mono ?_
    rintro e w' ⟨rfl, rfl⟩
    clear q0 q1 q2 q3 hsz GX
    generalize (w.alloc (.cells #[.int .i64 kd, .int .i64 cls, .int .i64 o, .slice xa xl.length xc] 37)).alloc (.cells #[.int .i64 kd, .int .i64 cls, .int .i64 o, .slice xa xl.length xc] 37) = w2 at *
    have g3 := HBS.out.drop.allocRow #[.slice none 0 0, .int .i64 0, .map none] 65
    generalize hh : w2.heap.size = h2 at *
    have H3 : Hid (St w (HP.blk h2 #[.slice none 0 0, .int .i64 0, .map none] 65 :: HP.blk w.heap.size #[.int .i64 kd, .int .i64 cls, .int .i64 o, .slice xa xl.length xc] 37 :: []) (w2.alloc (.cells #[.slice none 0 0, .int .i64 0, .map none] 65))) := Lib.hid g3
    clear g3 HBS
    have Z := Lib.hid fun w1 (g : St w (HP.blk h2 #[.slice none 0 0, .int .i64 0, .map none] 65 :: HP.blk w.heap.size #[.int .i64 kd, .int .i64 cls, .int .i64 o, .slice xa xl.length xc] 37 :: []) w1) => (g.front 1).cells4
    have BN : Hid (BareS w (HP.blk h2 #[.slice none 0 0, .int .i64 0, .map none] 65 :: HP.blk w.heap.size #[.int .i64 kd, .int .i64 cls, .int .i64 o, .slice xa xl.length xc] 37 :: []) (.pointer none)) := Lib.hid fun _ _ => .inl rfl
    have BZ : Hid (BareS w (HP.blk h2 #[.slice none 0 0, .int .i64 0, .map none] 65 :: HP.blk w.heap.size #[.int .i64 kd, .int .i64 cls, .int .i64 o, .slice xa xl.length xc] 37 :: []) (.pointer (some ⟨h2, 0, none⟩))) := Lib.hid fun _ g => .inr ⟨h2, rfl, g.cells3.2.2⟩
    obtain ⟨x0, x1, x2, x3⟩ := Z.out _ H3.out
    go_wp2_with fail
    clear hh
    refine (play_bare _ _ _ _ BN.out H3.out kd cls o _).mono ?_
    rintro e w3 ⟨rfl, g⟩
    have H4 := Lib.hid g
    clear g x0 x1 x2 x3 H3
    obtain ⟨x0, x1, x2, x3⟩ := Z.out _ H4.out
    go_wp2_with fail
    refine (play_bare _ _ _ _ BZ.out H4.out kd cls o _).mono ?_
    rintro e w4 ⟨rfl, g⟩
    have H5 := Lib.hid g
    clear g x0 x1 x2 x3 H4
    go_wp2_with fail
    refine (Same_bare _ _ _ _ BN.out H5.out 2 (by decide)).mono ?_
    rintro e w5 ⟨rfl, g⟩
    have H6 := Lib.hid g
    clear g H5
    go_wp2_with fail
    refine (Same_bare _ _ _ _ BZ.out H6.out 2 (by decide)).mono ?_
    rintro e w6 ⟨rfl, g⟩
    have H7 := Lib.hid g
    clear g H6
    go_wp2_with fail
    refine (clone_bare (BN.out _ H7.out)).mono ?_
    rintro e w7 ⟨rfl, rfl⟩
    go_wp2_with fail
    refine (clone_bare (BZ.out _ H7.out)).mono ?_
    rintro e w7 ⟨rfl, rfl⟩
    go_wp2_with fail
    refine (AL.out _ _ H7.out).mono ?_
    rintro e w1 ⟨rfl, h1⟩
    go_wp2_with fail
    go_ret
    exact ⟨rfl, h1.1⟩
end Go.Proofs.Ytaejojbdkgccpaa

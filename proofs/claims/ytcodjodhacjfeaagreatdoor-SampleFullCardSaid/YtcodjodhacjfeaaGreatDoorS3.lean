/-
  A sampler's Free.
-/
import Derived.Test.YtcodjodhacjfeaaGreatDoorS2
namespace Go.Proofs.YtcodjodhacjfeaaGreatDoor
open Go.RowKit
section
variable {w0 w : World} {F : List HP} {b mk mr hp : Nat} {every total : Int} {K : List Smp} {R : List Rw}
set_option maxRecDepth 10000 in
set_option maxHeartbeats 4000000 in
theorem sfree_ok (A A' : HP) (thread ad : Int) (had : i64r ad) (hwf : SmWf K R)
    (hH : ∀ w', St w0 (smpL b mk mr (.pointer (some ⟨hp, 0, none⟩)) every total K R (A :: F)) w' → Calls Tryz.prog 25 #[.pointer (some ⟨hp, 0, none⟩), .int .i64 thread, .int .i64 ad] w' fun e w'' => e = .returned (.int .i64 0) ∧ St w0 (smpL b mk mr (.pointer (some ⟨hp, 0, none⟩)) every total K R (A' :: F)) w'')
    (hs : St w0 (smpL b mk mr (.pointer (some ⟨hp, 0, none⟩)) every total K R (A :: F)) w) :
    Calls Tryz.prog 9 #[.pointer (some ⟨b, 0, none⟩), .int .i64 thread, .int .i64 ad] w fun e w' => e = .returned (.int .i64 0) ∧
      St w0 (smpL b mk mr (.pointer (some ⟨hp, 0, none⟩)) every total (dropK K ad) (forgetR K R ad) (A' :: F)) w' := by
  have cM := Lib.hid (smade_yes w b hp (hs.cell rfl))
  have c0 := hs.cell (i := 0) rfl
  have HS := Lib.hid hs
  have HW := Lib.hid hwf
  have HA := Lib.hid had
  have HH := Lib.hid hH
  clear hs hwf had hH
  go_enter Tryz.func9, Tryz.ntmps9
  go_wp2_with (first
      | (go_at_call 21; refine cM.out.mono ?_; rintro e w1 ⟨rfl, rfl⟩)
      | (go_at_call 25; go_loud (refine (HH.out _ HS.out).mono ?_; rintro e w4 ⟨rfl, h4⟩; have H4 := Lib.hid h4; clear h4))
      | (go_at_call 24; go_loud (refine (forget_any _ _ _ _ _ _ _ _ _ _ _ _ HA.out HW.out H4.out).mono ?_; rintro e w5 ⟨rfl, h5⟩; have H5 := Lib.hid h5; clear h5)))
  go_ret
  exact ⟨rfl, H5.out⟩
end
end Go.Proofs.YtcodjodhacjfeaaGreatDoor

/-
  strings.Builder: WriteString, String.
-/
import Derived.Test.YtcihbmifogfdpaaGreatDoorT5
import Derived.Shelf.Strings.BuilderK
namespace Go.Proofs.YtcihbmifogfdpaaGreatDoor
open Go.RowKit

theorem info_byte : ∃ i : TypeInfo, Tryz.prog.info? 5 = some i ∧ i.zero = some (.int .u8 0) ∧ i.size = 1 ∧ i.bytes = 1 := info_parts (show (Tryz.prog.info? 5).map (fun i => (i.zero, i.size, i.bytes)) = some (some (.int .u8 0), 1, 1) by kernel_rfl)
set_option maxRecDepth 10000 in
set_option maxHeartbeats 1000000 in
theorem write_any (w0 w : World) (F : List HP) (b : Nat) (l : List UInt8) (s : ByteArray) (hl : l.length + s.size ≤ 1099511627776) (hs : St w0 (bldP b l :: F) w) :
    Calls Tryz.prog 91 #[.pointer (some ⟨b, 0, none⟩), .string s] w fun e w' => e = .returned (.tuple #[.int .i64 s.size, .nilIface]) ∧ St w0 (bldP b (l ++ s.data.toList) :: F) w' := by
  obtain ⟨p, v, hp, hv, h⟩ := bld_open hs
  obtain ⟨i, hi, hz, hsi, hby⟩ := info_byte
  obtain ⟨a, cap, rfl⟩ := (HP.arr_reads h.swap).form
  have HI := Lib.hid hi; have HZ := Lib.hid hz; have HS := Lib.hid hsi; have HB := Lib.hid hby
  have HL : Hid (l.length + s.size ≤ maxLen) := Lib.hid (by simp only [maxLen]; omega)
  have HL2 : Hid ((l.length + s.size) * 1 ≤ 140737488355328) := Lib.hid (by omega)
  have HV := Lib.hid hv
  have HH := Lib.hid h
  have HPP := Lib.hid hp
  clear hs hi hz hsi hby hl hv h hp
  go_enter Tryz.func91, Tryz.ntmps91
  go_wp2_with (first
    | (go_at_call 137; refine (copyCheck_any _ _ _ _ _ _ HPP.out HH.out).mono ?_; rintro e w1 ⟨rfl, h1⟩; obtain ⟨c0, c1⟩ := St.cells2 h1; have H1 := Lib.hid h1; clear h1 HH)
    | (at_builtin; refine wpList_append_str rfl _ _ 118 9 Tryz.underlying9 rfl 5 i _ 1 Tryz.underlying118 HI.out HZ.out HS.out HB.out rfl s rfl rfl H1.out.swap HL.out HL2.out ?_; intro v' w2 h2 hlk; obtain ⟨a3, cap3, rfl⟩ := (HP.arr_reads h2).form; have f1 := St.frozen h2.swap 1; obtain ⟨d0, d1⟩ := St.cells2 h2.swap; have HK := Lib.hid hlk; have H2 := Lib.hid h2; clear h2 hlk))
  go_ret2
  refine ⟨rfl, ?_⟩
  have h3 := St.set H2.out.swap 1 (.slice a3 (l.length + s.size) cap3)
  simp at h3
  refine bld_shut (.inr rfl) ⟨HK.out.2.z HV.out.1, fun h => ?_⟩ ?_
  · have h7 := List.append_eq_nil_iff.1 h
    exact HK.out.1.2 ⟨HV.out.2 h7.1, by rw [Lib.size_eq, h7.2]; rfl⟩
  rw [List.length_append, show s.data.toList.length = s.size from rfl]
  rw [bytesC_eq] at h3
  simpa [Lib.byteCells] using h3
end Go.Proofs.YtcihbmifogfdpaaGreatDoor

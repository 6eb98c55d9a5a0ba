/- FrameExact: the document's numbers of two bytes and of four. -/
import Derived.Test.YtjofpjioaiamhaaFxK
import Derived.BigQuiet
namespace Go.Proofs.Ytjofpjioaiamhaa
open Go.RowKit

set_option maxRecDepth 20000 in
set_option maxHeartbeats 1000000 in
theorem two_any (l : List Nat) (i N : Nat) (A : Option Addr) (n c B : Nat) (w : World) (hl : ∀ b ∈ l, b < 256) (hn : l.length = n) (hnm : n ≤ 281474976710656) (hi : i + 1 < n) (h : Byt w B A l) (hN : l[i]?.getD 0 + 256 * l[i + 1]?.getD 0 = N) :
    Calls Try.prog 39 #[.slice A n c, .int .i64 i] w fun e w' => e = .returned (.int .i64 N) ∧ ∃ k, w' = w.drewN k := by
  obtain ⟨b, off, rfl, _, q⟩ := h (by omega)
  have q0 : w.cell? ⟨b, off + i, none⟩ = some (.int .u8 ((l[i]?.getD 0 : Nat) : Int)) := q i (by omega)
  have q1 : w.cell? ⟨b, off + (i + 1), none⟩ = some (.int .u8 ((l[i + 1]?.getD 0 : Nat) : Int)) := q (i + 1) (by omega)
  have b0 := bytes_getD hl i
  have b1 := bytes_getD hl (i + 1)
  have hN' := Lib.hid hN
  clear q hl hn h hN
  generalize l[i]?.getD 0 = x at *
  generalize l[i + 1]?.getD 0 = y at *
  have i1 : (i : Int) + 1 < (n : Int) := by omega
  have i0 : (i : Int) < (n : Int) := by omega
  go_enter Try.func39, Try.ntmps39
  go_wp2_with fail
  go_quiet (fail)
  go_wp2_with fail
  go_ret
  exact ⟨ret_int (by rw [← hN'.out]; omega), _, rfl⟩

set_option maxRecDepth 20000 in
set_option maxHeartbeats 1000000 in
theorem four_any (l : List Nat) (i S : Nat) (A : Option Addr) (n c B : Nat) (w : World) (hl : ∀ b ∈ l, b < 256) (hn : l.length = n) (hnm : n ≤ 281474976710656) (hi : i + 3 < n) (h : Byt w B A l) (hS : l[i]?.getD 0 + 256 * l[i + 1]?.getD 0 + 65536 * l[i + 2]?.getD 0 + 16777216 * l[i + 3]?.getD 0 = S) :
    Calls Try.prog 40 #[.slice A n c, .int .i64 i] w fun e w' => e = .returned (.int .u32 S) ∧ ∃ k, w' = w.drewN k := by
  obtain ⟨b, off, rfl, _, q⟩ := h (by omega)
  have q0 : w.cell? ⟨b, off + i, none⟩ = some (.int .u8 ((l[i]?.getD 0 : Nat) : Int)) := q i (by omega)
  have q1 : w.cell? ⟨b, off + (i + 1), none⟩ = some (.int .u8 ((l[i + 1]?.getD 0 : Nat) : Int)) := q (i + 1) (by omega)
  have q2 : w.cell? ⟨b, off + (i + 2), none⟩ = some (.int .u8 ((l[i + 2]?.getD 0 : Nat) : Int)) := q (i + 2) (by omega)
  have q3 : w.cell? ⟨b, off + (i + 3), none⟩ = some (.int .u8 ((l[i + 3]?.getD 0 : Nat) : Int)) := q (i + 3) (by omega)
  have b0 := bytes_getD hl i
  have b1 := bytes_getD hl (i + 1)
  have b2 := bytes_getD hl (i + 2)
  have b3 := bytes_getD hl (i + 3)
  have hS' := Lib.hid hS
  clear q hl hn h hS
  generalize l[i]?.getD 0 = x6 at *
  generalize l[i + 1]?.getD 0 = x7 at *
  generalize l[i + 2]?.getD 0 = x8 at *
  generalize l[i + 3]?.getD 0 = x9 at *
  have f6 : bits .or .u32 (x6 : Int) ((x7 : Int) * 256) = ((x6 + 256 * x7 : Nat) : Int) := four_or (M := 256) (i := 8) rfl (by omega) b0 b1
  have f7 : bits .or .u32 ((x6 + 256 * x7 : Nat) : Int) ((x8 : Int) * 65536) = ((x6 + 256 * x7 + 65536 * x8 : Nat) : Int) := four_or (a := x6 + 256 * x7) (M := 65536) (i := 16) rfl (by omega) (by omega) b2
  have f8 : bits .or .u32 ((x6 + 256 * x7 + 65536 * x8 : Nat) : Int) ((x9 : Int) * 16777216) = ((x6 + 256 * x7 + 65536 * x8 + 16777216 * x9 : Nat) : Int) := four_or (a := x6 + 256 * x7 + 65536 * x8) (M := 16777216) (i := 24) rfl (by omega) (by omega) b3
  rw [hS'.out] at f8
  generalize hy1 : x6 + 256 * x7 = y1 at f6 f7 f8
  generalize hy2 : y1 + 65536 * x8 = y2 at f7 f8
  clear hy1 hy2
  have i0 : (i : Int) < (n : Int) := by omega
  have i1 : (i : Int) + 1 < (n : Int) := by omega
  have i2 : (i : Int) + 2 < (n : Int) := by omega
  have i3 : (i : Int) + 3 < (n : Int) := by omega
  go_enter Try.func40, Try.ntmps40
  go_wp2_with fail
  go_quiet (fail)
  go_wp2_with fail
  go_ret
  exact ⟨rfl, _, rfl⟩
end Go.Proofs.Ytjofpjioaiamhaa

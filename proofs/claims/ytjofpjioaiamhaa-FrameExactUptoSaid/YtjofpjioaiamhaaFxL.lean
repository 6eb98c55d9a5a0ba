/- FrameExact: the argument opened. -/
import Derived.Test.YtjofpjioaiamhaaFxW
import Derived.Test.YtjofpjioaiamhaaTurnedLaw
import Derived.Test.YtjofpjioaiamhaaBulk
import Derived.ProofKit
import Derived.OpenShut
namespace Go.Proofs.Ytjofpjioaiamhaa
open Go.RowKit

theorem fx_array4 {cs : Array Value} (h : cs.size = 4) : ∃ c0 c1 c2 c3, cs = #[c0, c1, c2, c3] := by
  obtain ⟨l⟩ := cs
  match l, h with
  | [c0, c1, c2, c3], _ => exact ⟨c0, c1, c2, c3, rfl⟩
theorem fx_cell_u32 {H : Type} {enc : TypeId × Value → H} {P : Program} {W : World} {base : Nat} {spare : Nat → Bool} {held : Bool} {t : TypeId} {fuel : Nat} {c0 : Value} {y : DataW H × List MemPlace} (ht : P.underlying t = some (.int .u32)) (h : DataW.trod enc P W base spare held fuel t [c0] = some y) : ∃ b : Nat, c0 = .int .u32 (b : Int) ∧ b < 4294967296 := by
  obtain ⟨b, hb, _, hw⟩ := DataW.trod_int ht h
  have hw2 : 0 ≤ b ∧ b < 4294967296 := by
    simp [Lit.wf, IntKind.min, IntKind.max, IntKind.signed, IntKind.bits] at hw
    omega
  exact ⟨b.toNat, by simp only [List.cons.injEq, and_true] at hb; rw [hb, Int.toNat_of_nonneg hw2.1], by omega⟩

set_option maxRecDepth 100000 in
open Go.ChangeShapes Go.WideShapes in
theorem frameExact_calls {H : Type} {enc : TypeId × Value → H} (W : World) (base : Nat) (v0 : Value) (d0 : DataW H) (p0 : List MemPlace)
    (o0 : Value.okWide Try.prog W .any base 39 v0) (h0 : DataW.Trod enc Try.prog W 0 (fun _ => true) true 39 v0 d0 p0)
    (_hsz : (DataW.weightsEach Try.prog [39] [d0]).all (· ≤ reachBytes) = true) (hup : Rows.uptoSmall H [d0] = true) :
    Calls Try.prog 6 #[v0] W fun e W' => e = .returned (.bool true) ∧ Below W.heap.size W W' := by
  obtain ⟨cs, rfl, hcs⟩ := okWide_struct Try.underlying39 o0
  obtain ⟨c0, c1, c2, c3, rfl⟩ := fx_array4 (hcs.trans (by kernel_rfl))
  obtain ⟨fuel, hf0⟩ := h0
  have ko : Value.cells (.agg #[c0, c1, c2, c3]) = #[c0, c1, c2, c3] := rfl
  obtain ⟨xs, m, _, hx, _, hxl, hg⟩ := DataW.trod_struct Try.underlying39 hf0
  obtain ⟨z0, z1, z2, z3, rfl⟩ := list4 hxl
  have kb : Try.prog.cellsOf 23 = 1 := by kernel_rfl
  have ki : Try.prog.cellsOf 3 = 1 := by kernel_rfl
  have ku : Try.prog.cellsOf 5 = 1 := by kernel_rfl
  have kw : Try.prog.cellsOf 24 = 1 := by kernel_rfl
  have g0 := hg 0 _ rfl
  have g1 := hg 1 _ rfl
  have g2 := hg 2 _ rfl
  have g3 := hg 3 _ rfl
  simp [ko, kb] at g0
  simp [ko, kb] at g1
  simp [ko, ki] at g2
  simp [ko, kw] at g3
  obtain ⟨A1, q1, l, rfl, _, _, r1, hh1, b1⟩ := cell_bytes Try.underlying23 Try.underlying5 ku g0
  obtain ⟨A2, q2, z, rfl, _, _, r2, hh2, b2⟩ := cell_bytes Try.underlying23 Try.underlying5 ku g1
  obtain ⟨At, rfl, _⟩ := cell_i64 Try.underlying3 g2
  obtain ⟨Sm, rfl, hS⟩ := fx_cell_u32 Try.underlying24 g3
  simp only [Prod.mk.injEq] at hx
  obtain ⟨rfl, _⟩ := hx
  have k1 := bulk_held hh1
  have k2 := bulk_held hh2
  have kk : (Rows.uptoBulk z0.1 + (Rows.uptoBulk z1.1 + (Rows.uptoBulk z2.1 + (Rows.uptoBulk z3.1 + 0)))) + 1 + 0 ≤ 1048576 := of_decide_eq_true hup
  exact fxExact_any l z A1 A2 At Sm l.length z.length q1 q2 W b1 b2 rfl rfl (by omega) (by omega) hS r1 r2
end Go.Proofs.Ytjofpjioaiamhaa

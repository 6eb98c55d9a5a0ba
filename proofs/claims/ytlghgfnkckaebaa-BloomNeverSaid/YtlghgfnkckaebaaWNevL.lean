/- BloomNever: the argument opened. -/
import Derived.Test.YtlghgfnkckaebaaWNevW
import Derived.ProofKit
import Derived.OpenShut
namespace Go.Proofs.Ytlghgfnkckaebaa
open Go.RowKit Go.ChangeShapes Go.WideShapes
set_option linter.unusedSimpArgs false

theorem array5 {cs : Array Value} (h : cs.size = 5) : ∃ c0 c1 c2 c3 c4, cs = #[c0, c1, c2, c3, c4] := by
  obtain ⟨l⟩ := cs
  match l, h with
  | [c0, c1, c2, c3, c4], _ => exact ⟨c0, c1, c2, c3, c4, rfl⟩
theorem list5 {α : Type} {l : List α} (h : l.length = 5) : ∃ a b c d e, l = [a, b, c, d, e] := by
  match l, h with
  | [a, b, c, d, e], _ => exact ⟨a, b, c, d, e, rfl⟩
set_option maxRecDepth 100000 in
theorem bloomNever_calls {H : Type} {enc : TypeId × Value → H} (W : World) (base : Nat) (v0 : Value) (d0 : DataW H) (p0 : List MemPlace)
    (o0 : Value.okWide Try.prog W .any base 60 v0) (h0 : DataW.Trod enc Try.prog W 0 (fun _ => true) true 60 v0 d0 p0)
    (hsz : (DataW.weightsEach Try.prog [60] [d0]).all (· ≤ reachBytes) = true) :
    Calls Try.prog 10 #[v0] W fun e W' => e = .returned (.bool true) ∧ Below W.heap.size W W' := by
  obtain ⟨cs, rfl, hcs⟩ := okWide_struct Try.underlying60 o0
  obtain ⟨c0, c1, c2, c3, c4, rfl⟩ := array5 (hcs.trans (by kernel_rfl))
  obtain ⟨fuel, hf0⟩ := h0
  have ko : Value.cells (.agg #[c0, c1, c2, c3, c4]) = #[c0, c1, c2, c3, c4] := rfl
  obtain ⟨xs, m, _, hx, _, hxl, hg⟩ := DataW.trod_struct Try.underlying60 hf0
  obtain ⟨z0, z1, z2, z3, z4, rfl⟩ := list5 hxl
  have kk : Try.prog.cellsOf 47 = 1 := by kernel_rfl
  have ki : Try.prog.cellsOf 3 = 1 := by kernel_rfl
  have k32 : Try.prog.cellsOf 51 = 32 := by kernel_rfl
  have g0 := hg 0 _ rfl
  have g1 := hg 1 _ rfl
  have g2 := hg 2 _ rfl
  have g3 := hg 3 _ rfl
  have g4 := hg 4 _ rfl
  simp [ko, ki] at g0
  simp [ko, ki] at g1
  simp [ko, kk] at g2
  simp [ko, kk] at g3
  simp [ko, kk] at g4
  obtain ⟨bits, rfl, _⟩ := cell_i64 Try.underlying3 g0
  obtain ⟨hashes, rfl, _⟩ := cell_i64 Try.underlying3 g1
  obtain ⟨A1, n1, q1, V1, e1, _, _, r1, hh1, f1, y1⟩ := arg_slice (size := 32) Try.underlying47 k32 (by decide) g2
  obtain ⟨A2, n2, q2, V2, e2, _, _, r2, hh2, f2, y2⟩ := arg_slice (size := 32) Try.underlying47 k32 (by decide) g3
  obtain ⟨A3, n3, q3, V3, e3, _, _, r3, hh3, f3, y3⟩ := arg_slice (size := 32) Try.underlying47 k32 (by decide) g4
  injection e1 with e1 _
  injection e2 with e2 _
  injection e3 with e3 _
  subst e1 e2 e3
  simp only [Prod.mk.injEq] at hx
  obtain ⟨rfl, _⟩ := hx
  have hp := reach_struct (j := 0) hsz rfl rfl Try.underlying60
  have l1 := hh1.reach (j := 2) (size := 32) hp rfl rfl Try.underlying47 (by kernel_rfl)
  have l2 := hh2.reach (j := 3) (size := 32) hp rfl rfl Try.underlying47 (by kernel_rfl)
  have l3 := hh3.reach (j := 4) (size := 32) hp rfl rfl Try.underlying47 (by kernel_rfl)
  obtain ⟨ks1, hk1⟩ := key_row Try.underlying51 Try.underlying5 (by kernel_rfl) k32 r1 y1
  obtain ⟨ks2, hk2⟩ := key_row Try.underlying51 Try.underlying5 (by kernel_rfl) k32 r2 y2
  obtain ⟨ks3, hk3⟩ := key_row Try.underlying51 Try.underlying5 (by kernel_rfl) k32 r3 y3
  by_cases hb : 16384 < bits
  · exact never_far W bits hashes A1 A2 A3 n1 q1 n2 q2 n3 q3 hb
  · by_cases hs : shp bits hashes
    · obtain ⟨n, H, rfl, rfl, h1, h2, h3, _⟩ := shp_nat hs
      exact never_yes W n H A1 A2 A3 n1 q1 n2 q2 n3 q3 ks1 ks2 ks3 h3 (by omega) h1 h2 hk1 hk2 hk3 (by omega) (by omega) (by omega)
    · exact never_no W bits hashes A1 A2 A3 n1 q1 n2 q2 n3 q3 hb hs
end Go.Proofs.Ytlghgfnkckaebaa

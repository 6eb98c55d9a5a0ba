/- FrameRow: the argument opened. -/
import Derived.Test.YtjofpjioaiamhaaRowW
import Derived.Test.YtjofpjioaiamhaaBulk2
import Derived.ProofKit
import Derived.OpenShut
namespace Go.Proofs.Ytjofpjioaiamhaa
open Go.RowKit

theorem array2 {cs : Array Value} (h : cs.size = 2) : ∃ c0 c1, cs = #[c0, c1] := by
  obtain ⟨l⟩ := cs
  match l, h with
  | [c0, c1], _ => exact ⟨c0, c1, rfl⟩
theorem list2 {α : Type} {l : List α} (h : l.length = 2) : ∃ a b, l = [a, b] := by
  match l, h with
  | [a, b], _ => exact ⟨a, b, rfl⟩

set_option maxRecDepth 100000 in
open Go.ChangeShapes Go.WideShapes in
theorem frameRow_calls {H : Type} {enc : TypeId × Value → H} (W : World) (base : Nat) (v0 : Value) (d0 : DataW H) (p0 : List MemPlace)
    (o0 : Value.okWide Try.prog W .any base 45 v0) (h0 : DataW.Trod enc Try.prog W 0 (fun _ => true) true 45 v0 d0 p0)
    (_hsz : (DataW.weightsEach Try.prog [45] [d0]).all (· ≤ reachBytes) = true) (hup : Rows.uptoSmall H [d0] = true) :
    Calls Try.prog 7 #[v0] W fun e W' => e = .returned (.bool true) ∧ Below W.heap.size W W' := by
  obtain ⟨cs, rfl, hcs⟩ := okWide_struct Try.underlying45 o0
  obtain ⟨c0, c1, rfl⟩ := array2 (hcs.trans (by kernel_rfl))
  obtain ⟨fuel, hf0⟩ := h0
  have ko : Value.cells (.agg #[c0, c1]) = #[c0, c1] := rfl
  obtain ⟨xs, m, _, hx, _, hxl, hg⟩ := DataW.trod_struct Try.underlying45 hf0
  obtain ⟨z0, z1, rfl⟩ := list2 hxl
  have kb : Try.prog.cellsOf 23 = 1 := by kernel_rfl
  have kl : Try.prog.cellsOf 43 = 1 := by kernel_rfl
  have ku : Try.prog.cellsOf 5 = 1 := by kernel_rfl
  have g0 := hg 0 _ rfl
  have g1 := hg 1 _ rfl
  simp [ko, kl] at g0
  simp [ko, kb] at g1
  obtain ⟨AH, q1, hz, rfl, _, _, r1, hh1, b1⟩ := cell_bytes Try.underlying23 Try.underlying5 ku g1
  obtain ⟨AB, q0, zs, Ds, hc0, _, _, r0, hDl, hE, hok⟩ := cell_slice_d (fun z : In => [z.v]) (ok := fun z d => Byt W W.heap.size z.A z.l ∧ (∀ b ∈ z.l, b < 256) ∧ Held d z.l.length) Try.underlying43 kb (by omega)
    (fun n c y hy hc => by
      obtain ⟨c0, rfl⟩ : ∃ c0, c = [c0] := by
        match c, hc with
        | [c0], _ => exact ⟨c0, rfl⟩
      obtain ⟨A, q, l, rfl, _, _, r, hh, b⟩ := cell_bytes Try.underlying23 Try.underlying5 ku hy
      exact ⟨⟨A, l, q⟩, rfl, r, b, hh⟩) In.none_ g0
  simp only [List.cons.injEq, and_true] at hc0
  subst hc0
  simp only [Prod.mk.injEq] at hx
  obtain ⟨rfl, _⟩ := hx
  have k1 := bulk_held hh1
  have k2 := bulk_elems hE
  have k3 := bulk_len Ds
  have kb : (Rows.uptoBulk z0.1 + (Rows.uptoBulk z1.1 + 0)) + 1 + 0 ≤ 1048576 := of_decide_eq_true hup
  have hlen : ∀ i : Nat, (zs[i]?.getD In.none_).l.length ≤ 1048576 := fun i => by
    rcases Nat.lt_or_ge i zs.length with h | h
    · have h1 := bulk_held (hok i h).2.2
      have h2 := bulk_mem (l := Ds) (i := i) (by omega)
      omega
    · rw [List.getElem?_eq_none h]
      simp [In.none_]
  have hall : ∀ i : Nat, Byt W W.heap.size (zs[i]?.getD In.none_).A (zs[i]?.getD In.none_).l ∧ ∀ b ∈ (zs[i]?.getD In.none_).l, b < 256 := fun i => by
    rcases Nat.lt_or_ge i zs.length with h | h
    · exact ⟨(hok i h).1, (hok i h).2.1⟩
    · rw [List.getElem?_eq_none h]
      exact ⟨Rd.empty, by simp [In.none_]⟩
  have hr : Rd W W.heap.size AB zs.length (fun j => (zs[j]?.getD In.none_).v) := by
    rw [Nat.mul_one] at r0
    exact r0.congr fun j hj => by rw [Nat.div_one, Nat.mod_one]; rfl
  exact row_any zs hz AB AH zs.length hz.length q0 q1 W rfl (by omega) hr (fun i => (hall i).1) (fun i => (hall i).2) (fun i => by have := hlen i; omega) r1 b1 rfl (by omega)
end Go.Proofs.Ytjofpjioaiamhaa

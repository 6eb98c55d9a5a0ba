/- KeyDigits: the argument opened. -/
import Derived.Test.YtlolnpilpdkbkaaDigW
import Derived.Test.YtlolnpilpdkbkaaArgs
import Derived.ProofKit
import Derived.OpenShut
namespace Go.Proofs.Ytlolnpilpdkbkaa
open Go.RowKit

theorem list4 {α : Type} {l : List α} (h : l.length = 4) : ∃ a b c d, l = [a, b, c, d] := by
  match l, h with
  | [a, b, c, d], _ => exact ⟨a, b, c, d, rfl⟩
theorem split66 {α : Type} (L : List α) (h : L.length = 66) : L = (L.drop 0).take 1 ++ ((L.drop 1).take 1 ++ ((L.drop 2).take 32 ++ (L.drop 34).take 32)) := by
  have e1 : (L.drop 34).take 32 = L.drop 34 := List.take_of_length_le (by simp; omega)
  have e2 : (L.drop 2).take 32 ++ L.drop 34 = L.drop 2 := by
    have := List.take_append_drop 32 (L.drop 2)
    rwa [List.drop_drop] at this
  have e3 : (L.drop 1).take 1 ++ L.drop 2 = L.drop 1 := by
    have := List.take_append_drop 1 (L.drop 1)
    rwa [List.drop_drop] at this
  rw [e1, e2, e3, List.drop_zero, List.take_append_drop]

theorem all_u8 : ∀ cs : List Value, (∀ i, i < cs.length → ∃ b : Nat, cs[i]? = some (.int .u8 (b : Int)) ∧ b < 256) → ∃ l : List Nat, cs = u8s l ∧ ∀ b ∈ l, b < 256
  | [], _ => ⟨[], rfl, by simp⟩
  | c :: cs, h => by
    obtain ⟨b, hb, hlt⟩ := h 0 (by simp)
    obtain ⟨l, rfl, hl⟩ := all_u8 cs fun i hi => by simpa using h (i + 1) (by simpa using hi)
    simp only [List.getElem?_cons_zero, Option.some.injEq] at hb
    refine ⟨b :: l, by rw [hb]; rfl, ?_⟩
    intro x hx
    rcases List.mem_cons.1 hx with rfl | hx
    · exact hlt
    · exact hl x hx

section
open Go.ChangeShapes Go.WideShapes
variable {H : Type} {enc : TypeId × Value → H} {P : Program} {W : World} {base : Nat} {spare : Nat → Bool} {held : Bool}
/-- An array of bytes: its numbers. -/
theorem cells_u8s {t e : TypeId} {n fuel : Nat} {cs : List Value} {x : DataW H × List MemPlace} (ht : P.underlying t = some (.array n e)) (he : P.underlying e = some (.int .u8)) (hc : P.cellsOf e = 1) (hl : P.cellsOf t = n)
    (h : DataW.trod enc P W base spare held fuel t cs = some x) : ∃ l : List Nat, cs = u8s l ∧ l.length = n ∧ ∀ b ∈ l, b < 256 := by
  obtain ⟨xs, m, _, _, hcl, hxl, hg⟩ := DataW.trod_array ht h
  rw [hl] at hcl
  have h1 : ∀ i, i < n → ∃ b : Nat, cs[i]? = some (.int .u8 (b : Int)) ∧ b < 256 := fun i hi => by
    have hg1 := hg i hi
    rw [hc, Nat.mul_one, List.getElem?_eq_getElem (by omega), List.drop_eq_getElem_cons (by omega)] at hg1
    simp only [List.take_succ_cons, List.take_zero] at hg1
    obtain ⟨b, hb, hlt⟩ := cell_u8 he hg1
    exact ⟨b, by rw [List.getElem?_eq_getElem (by omega), hb], hlt⟩
  obtain ⟨l, rfl, hb⟩ := all_u8 cs fun i hi => h1 i (by omega)
  rw [u8s_length] at hcl
  exact ⟨l, rfl, hcl, hb⟩

set_option maxRecDepth 100000 in
theorem keyDigits_calls (W : World) (base : Nat) (v0 : Value) (d0 : DataW H) (p0 : List MemPlace)
    (o0 : Value.okWide Try.prog W .any base 27 v0) (h0 : DataW.Trod enc Try.prog W 0 (fun _ => true) true 27 v0 d0 p0)
    (_hsz : (DataW.weightsEach Try.prog [27] [d0]).all (· ≤ reachBytes) = true) :
    Calls Try.prog 4 #[v0] W fun e W' => e = .returned (.bool true) ∧ Below W.heap.size W W' := by
  obtain ⟨cs, rfl, hcs⟩ := okWide_struct Try.underlying27 o0
  obtain ⟨fuel, hf0⟩ := h0
  have ko : Value.cells (.agg cs) = cs := rfl
  obtain ⟨xs, m, _, hx, _, hxl, hg⟩ := DataW.trod_struct Try.underlying27 hf0
  obtain ⟨z0, z1, z2, z3, rfl⟩ := list4 hxl
  have kb : Try.prog.cellsOf 23 = 1 := by kernel_rfl
  have ks : Try.prog.cellsOf 9 = 1 := by kernel_rfl
  have kk : Try.prog.cellsOf 25 = 32 := by kernel_rfl
  have ku : Try.prog.cellsOf 5 = 1 := by kernel_rfl
  have h66 : cs.toList.length = 66 := by rw [Array.length_toList, hcs]; kernel_rfl
  have g0 : DataW.trod enc Try.prog W 0 (fun _ => true) true m 23 ((cs.toList.drop 0).take (Try.prog.cellsOf 23)) = some z0 := hg 0 _ rfl
  have g1 : DataW.trod enc Try.prog W 0 (fun _ => true) true m 9 ((cs.toList.drop 1).take (Try.prog.cellsOf 9)) = some z1 := hg 1 _ rfl
  have g2 : DataW.trod enc Try.prog W 0 (fun _ => true) true m 25 ((cs.toList.drop 2).take (Try.prog.cellsOf 25)) = some z2 := hg 2 _ rfl
  have g3 : DataW.trod enc Try.prog W 0 (fun _ => true) true m 25 ((cs.toList.drop 34).take (Try.prog.cellsOf 25)) = some z3 := hg 3 _ rfl
  rw [kb] at g0
  rw [ks] at g1
  rw [kk] at g2 g3
  obtain ⟨A, n, c, V, e0, _⟩ := arg_slice Try.underlying23 ku (by omega) g0
  obtain ⟨t, e1, _, ht⟩ := DataW.trod_string Try.underlying9 g1
  obtain ⟨a, e2, hal, ha⟩ := cells_u8s Try.underlying25 Try.underlying5 ku kk g2
  obtain ⟨b, e3, hbl, hb⟩ := cells_u8s Try.underlying25 Try.underlying5 ku kk g3
  have hL := split66 cs.toList h66
  rw [e0, e1, e2, e3] at hL
  have hv : cs = (askL A n c t a b).toArray := by
    apply Array.toList_inj.1
    rw [hL]
    rfl
  rw [hv]
  exact keyDigits_any A n c t a b W hal hbl ha hb (by unfold maxLen at ht; omega)
end
end Go.Proofs.Ytlolnpilpdkbkaa

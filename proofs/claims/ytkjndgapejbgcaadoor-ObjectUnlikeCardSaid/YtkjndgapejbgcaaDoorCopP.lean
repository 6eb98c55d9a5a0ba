/- Copied: an object with lists of its own: the words. -/
import Derived.Test.YtkjndgapejbgcaaDoorSpare
import Derived.Great.Walk
namespace Go.Proofs.YtkjndgapejbgcaaDoor
open Go.RowKit
set_option linter.unusedSimpArgs false

def zK : Key32 := ⟨zeros 32, by simp [zeros]⟩
def mkP : PartT := (zK, 92)
def mkI : ItemT := (⟨#[]⟩, 0, 92, zK)
def mkK : Key32 := ⟨zeros 9 ++ [92] ++ zeros 22, by simp [zeros]⟩
theorem run_bslice {P : Program} (w : World) (t e : TypeId) (len : Nat) (parts : Array (Nat × Value)) (cells : Array Value) (hu : P.underlying t = some (.slice e))
    (hf : P.builtSlice e len parts.toList = some cells) : (Instr.buildSlice t len parts).run P w = .ok (.slice (some ⟨w.heap.size, 0, none⟩) len len) (w.alloc (.cells cells e)) := by
  unfold Program.builtSlice at hf
  cases hie : P.info? e with
  | none => simp [hie] at hf
  | some ie =>
    simp only [hie] at hf
    cases hz : ie.zero with
    | none => simp [hz] at hf
    | some z =>
      simp only [hz] at hf
      by_cases hc : len * ie.size > 2 ^ 24 ∨ len * ie.size = 0
      · simp [hc] at hf
      · rw [if_neg hc] at hf
        exact run_buildSlice w t e len parts cells ie z hu hie hz (fun h' => hc (Or.inl h')) (fun h' => hc (Or.inr h')) hf
theorem buildP (w : World) : (Instr.build 47 #[(1, .int .u64 92)]).run Tryd.prog w = .ok (.agg (encP mkP).toArray) w := run_build w _ _ _ (by kernel_rfl)
theorem buildI (w : World) : (Instr.build 50 #[(2, .int .u64 92)]).run Tryd.prog w = .ok (.agg (encI mkI).toArray) w := run_build w _ _ _ (by kernel_rfl)
theorem buildK (w : World) : (Instr.build 28 #[(9, .int .u8 92)]).run Tryd.prog w = .ok (.agg (encK mkK).toArray) w := run_build w _ _ _ (by kernel_rfl)
theorem bslP (w : World) : (Instr.buildSlice 25 2 #[(0, .agg (encP mkP).toArray), (1, .agg (encP mkP).toArray)]).run Tryd.prog w = .ok (.slice (some ⟨w.heap.size, 0, none⟩) 2 2) (w.alloc (.cells (flat encP [mkP, mkP]).toArray 47)) :=
  run_bslice w _ _ _ _ _ Tryd.underlying25 (by kernel_rfl)
theorem bslI (w : World) : (Instr.buildSlice 26 2 #[(0, .agg (encI mkI).toArray), (1, .agg (encI mkI).toArray)]).run Tryd.prog w = .ok (.slice (some ⟨w.heap.size, 0, none⟩) 2 2) (w.alloc (.cells (flat encI [mkI, mkI]).toArray 50)) :=
  run_bslice w _ _ _ _ _ Tryd.underlying26 (by kernel_rfl)
theorem bslK (w : World) : (Instr.buildSlice 29 2 #[(0, .agg (encK mkK).toArray), (1, .agg (encK mkK).toArray)]).run Tryd.prog w = .ok (.slice (some ⟨w.heap.size, 0, none⟩) 2 2) (w.alloc (.cells (flat encK [mkK, mkK]).toArray 28)) :=
  run_bslice w _ _ _ _ _ Tryd.underlying29 (by kernel_rfl)

section
variable {α : Type} {enc : α → List Value} {k : Nat}
theorem flat_one (h1 : ∀ x, ∀ v ∈ enc x, v.oneCell' = true) (l : List α) : ∀ u ∈ flat enc l, u.oneCell' = true := fun u hu => by
  obtain ⟨x, _, hx⟩ := List.mem_flatMap.1 hu
  exact h1 x u hx
theorem range_flat (hk : ∀ x, (enc x).length = k) (l : List α) : (List.range (l.length * k)).map (fun j => (flat enc l)[j]?.getD undef) = flat enc l := by
  have hl := flat_length hk l
  apply List.ext_getElem
  · simp [hl]
  · intro j h1 h2
    simp [List.getElem?_eq_getElem h2]
theorem getD_one (h1 : ∀ x, ∀ v ∈ enc x, v.oneCell' = true) (hk : ∀ x, (enc x).length = k) (l : List α) : ∀ j, j < l.length * k → ((flat enc l)[j]?.getD undef).oneCell' = true := fun j hj => by
  have hl : j < (flat enc l).length := by rw [flat_length hk]; exact hj
  rw [List.getElem?_eq_getElem hl, Option.getD_some]
  exact flat_one h1 l _ (List.getElem_mem hl)
/-- A row of the call's own, as a row to be read. -/
theorem Own.row (hk : ∀ x, (enc x).length = k) {w : World} {B : Nat} {e : TypeId} {c : Nat} {A : Option Addr} {l m : List α} {n : Nat} (h : Own w B e k A n c (flat enc (l ++ m))) (hn : n = l.length + m.length) : Row enc k w w.heap.size A l := by
  subst hn
  have := (Rd.take h.rd (m := l.length * k) (by rw [Nat.add_mul]; omega))
  refine Rd.congr this fun j hj => ?_
  rw [flat_append, List.getElem?_append_left (by rw [flat_length hk]; exact hj)]
end
theorem Row.at {α : Type} {enc : α → List Value} {k : Nat} {w : World} {B : Nat} {A : Option Addr} {l : List α} (h : Row enc k w B A l) {n : Nat} (hn : l.length = n) : Rd w B A (n * k) (fun j => (flat enc l)[j]?.getD undef) := by
  subst hn
  exact h
theorem encP_one (x : PartT) : ∀ v ∈ encP x, v.oneCell' = true := fun v hv => by
  simp only [encP, List.mem_append, List.mem_singleton] at hv
  rcases hv with hv | rfl
  · exact u8s_one v hv
  · rfl
theorem encI_one (x : ItemT) : ∀ v ∈ encI x, v.oneCell' = true := fun v hv => by
  simp only [encI, List.mem_append, List.mem_cons, List.not_mem_nil, or_false] at hv
  rcases hv with (rfl | rfl | rfl) | hv
  · rfl
  · rfl
  · rfl
  · exact u8s_one v hv
theorem encK_one (x : Key32) : ∀ v ∈ encK x, v.oneCell' = true := fun v hv => u8s_one v hv
theorem ocells_one (o : ObjT) (p : Lay) : ∀ v ∈ ocells o p, v.oneCell' = true := fun v hv => by
  simp only [ocells, List.mem_append, List.mem_cons, List.not_mem_nil, or_false] at hv
  rcases hv with rfl | rfl | rfl | rfl | hv | rfl | rfl | rfl
  · rfl
  · rfl
  · rfl
  · rfl
  · exact u8s_one v hv
  · rfl
  · rfl
  · rfl
end Go.Proofs.YtkjndgapejbgcaaDoor

/- Appends and slice literals inside a fence. No program is named here. (Out of XRtZ.) -/
import Derived.Test.YtgjokkjmljdmbaaRtY
import Derived.Test.YtgjokkjmljdmbaaOwn2
import Derived.Great.Walk
namespace Go.Proofs.Ytgjokkjmljdmbaa
open Go.RowKit Go.Shelf
set_option linter.unusedSimpArgs false
set_option linter.unusedVariables false
attribute [local go_sem] Oper.semAt_some

section
variable {F : Fence} {fn : Nat} {P : Program} {ops : Array Oper} {rest : List Oper} {o : Oper} {a : Act} {Q : Exit → Act → World → Prop}
theorem wpListIn_app {t e : TypeId} {z : Value} {size bytes : Nat} (E : ElemOk P t e z size bytes) (w : World) (hgd : o.guard = none) (s x : Operand)
    (ho : o.op = .call { callee := .builtin .append, args := #[s, x], argTypes := #[t, t] })
    {B : Nat} {A : Option Addr} {n c : Nat} {xs : List Value} (hs : a.eval s = .slice A n c) (hown : Own w B e size A n c xs)
    {B2 : Nat} {A2 : Option Addr} {m c2 : Nat} {g : Nat → Value} (hx : a.eval x = .slice A2 m c2) (hr : Rd w B2 A2 (m * size) g) (h1 : ∀ j, j < m * size → (g j).oneCell' = true)
    (hn : n + m ≤ maxLen) (hb : (n + m + (n + m) / 4 + 192) * bytes ≤ 281474976710656) (hB : B ≤ w.heap.size) (N : Nat) (hN : n + m = N) (ys : List Value) (hys : xs ++ (List.range (m * size)).map g = ys)
    (h : ∀ A' c' w', Own w' B e size A' N c' ys → AppAt w w' A A' → Below B w w' →
      wpListIn F fn P ops Q rest (a.put o.dst (.slice A' N c')) w') : wpListIn F fn P ops Q (o :: rest) a w := by
  subst hN hys
  refine wpListIn_plain hgd fun K hK => ?_
  obtain ⟨A', c', w', hrun, h2, h3⟩ := run_app (P := P) E o.type w hown hr h1 hn hb hB (c2 := c2)
  unfold Oper.wpIn
  refine ⟨?_, ?_⟩
  · simp [Oper.about, ho, resolve, Target.leads, Sem.run_pure]
  · rw [Oper.semAt_plain F _ _ (by rw [ho]; intro c hc'; cases hc')]
    simp only [execOp, ho, resolve, invoke, builtin, Sem.run_bind, Sem.run_pure, Result.andThen_ok, List.map_toArray, List.map_cons, List.map_nil, hs, hx, hrun]
    exact hK _ _ (h A' c' w' h2 h3 (h3.below hown hB))
theorem wpListIn_app1 {t e : TypeId} {z : Value} {size bytes : Nat} (E : ElemOk P t e z size bytes) (w : World) (cs : Array Value) (hcs : cs.size = size) (hgd : o.guard = none) (s x : Operand)
    (ho : o.op = .call { callee := .builtin .append, args := #[s, x], argTypes := #[t, t] })
    {B : Nat} {A : Option Addr} {n c : Nat} {xs : List Value} (hs : a.eval s = .slice A n c) (hown : Own w B e size A n c xs)
    (hx : a.eval x = .slice (some ⟨w.heap.size, 0, none⟩) 1 1) (h1 : ∀ u ∈ cs.toList, u.oneCell' = true)
    (hn : n + 1 ≤ maxLen) (hb : (n + 1 + (n + 1) / 4 + 192) * bytes ≤ 281474976710656) (hB : B ≤ w.heap.size) (N : Nat) (hN : n + 1 = N) (ys : List Value) (hys : xs ++ cs.toList = ys)
    (h : ∀ A' c' w', Own w' B e size A' N c' ys → AppAt w w' A A' → Below B w w' →
      wpListIn F fn P ops Q rest (a.put o.dst (.slice A' N c')) w') : wpListIn F fn P ops Q (o :: rest) a (w.alloc (.cells cs e)) := by
  subst hN hys
  have hrd : Rd (w.alloc (.cells cs e)) (w.heap.size + 1) (some ⟨w.heap.size, 0, none⟩) (1 * size) (fun j => cs.toList[j]?.getD undef) := fun _ => by
    refine ⟨w.heap.size, 0, rfl, by omega, fun j hj => ?_⟩
    rw [cell_of_row (w.alloc (.cells cs e)) w.heap.size (0 + j) cs e (0, 0) (heap_alloc_new w _)]
    simp [show j < cs.size by omega]
  refine wpListIn_app E (w.alloc (.cells cs e)) hgd s x ho hs (hown.alloc _) hx hrd ?_ hn hb (by simp; omega) (n + 1) rfl _ rfl ?_
  · intro j hj
    have hj' : j < cs.toList.length := by simp; omega
    simp only [List.getElem?_eq_getElem hj', Option.getD_some]
    exact h1 _ (List.getElem_mem hj')
  · intro A' c' w' h2 h3 h5
    have hl : (List.range (1 * size)).map (fun j => cs.toList[j]?.getD undef) = cs.toList := by
      apply List.ext_getElem
      · simp [hcs]
      · intro j hj _
        have hj' : j < cs.toList.length := by simp at hj ⊢; omega
        simp [show j < cs.size by simpa using hj']
    rw [hl] at h2
    have back : ∀ row, (w.alloc (.cells cs e)).grownBy w' row → w.grownBy w' row := fun row hg =>
      ⟨hg.os, hg.tape, hg.output, by have := hg.size; simp at this; omega, fun k hk hne => (hg.block k (by simp; omega) hne).trans (Below.heap_alloc w _ k hk)⟩
    refine h A' c' w' h2 ?_ (((Below.refl B w).alloc hB _).trans h5)
    rcases h3 with ⟨h6, h7⟩ | ⟨k, h6, h7, h8⟩
    · exact .inl ⟨h6, back _ h7⟩
    · exact .inr ⟨k, h6, by simp at h7; omega, back _ h8⟩
end
theorem run_bslice {P : Program} (w : World) (t e : TypeId) (len : Nat) (parts : Array (Nat × Value)) (cells : Array Value) (hu : P.underlying t = some (.slice e))
    (hf : P.builtSlice e len parts.toList = some cells) : (Instr.buildSlice t len parts).run P w = .ok (.slice (some ⟨w.heap.size, 0, none⟩) len len) (w.alloc (.cells cells e)) := by
  unfold Program.builtSlice at hf
  cases hie : P.info? e with
  | none => simp [hie] at hf
  | some ie =>
    simp only [hie] at hf
    cases hz : ie.zero with
    | none => simp [hz] at hf
    | some z =>
      simp only [hz] at hf
      by_cases hc : len * ie.size > 2 ^ 24 ∨ len * ie.size = 0
      · simp [hc] at hf
      · rw [if_neg hc] at hf
        exact run_buildSlice w t e len parts cells ie z hu hie hz (fun h' => hc (Or.inl h')) (fun h' => hc (Or.inr h')) hf
/-- What an append keeps that is no cells. -/
theorem AppAt.keeps {w w' : World} {A A' : Option Addr} {B : Nat} {e : TypeId} {size n c : Nat} {xs : List Value} (h : AppAt w w' A A') (ho : Own w B e size A n c xs) : KeepsOthers w w' :=
  KeepsOthers.of_grownBy h.grown fun j o hj hk => by
    rcases ho.2 with ⟨hv, _⟩ | ⟨g, cap, cur, hv, _, hg, _⟩
    · injection hv with hA
      rw [hA] at hj
      cases hj
    · injection hv with hA
      rw [hA] at hj
      cases hj
      rw [hg] at hk
      cases hk
      rfl
end Go.Proofs.Ytgjokkjmljdmbaa

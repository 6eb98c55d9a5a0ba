/- Kids of an object: the program's, of a snapshot; and of any object. -/
import Derived.Test.YtkjndgapejbgcaaKidsB
namespace Go.Proofs.Ytkjndgapejbgcaa
open Go.RowKit
set_option linter.unusedSimpArgs false

section
variable {o : Oper} {a : Act} {w : World} {K : Act → World → Prop} {Q : Exit → Act → World → Prop}
theorem wp_bsl1 (x : Key32) (t1 : Operand) (ho : o.op = .buildSlice 29 1 #[(0, t1)]) (hx : a.eval t1 = .agg (encK x).toArray)
    (h : K (a.put o.dst (.slice (some ⟨w.heap.size, 0, none⟩) 1 1)) (w.alloc (.cells (encK x).toArray 28))) : o.wp Try.prog a w K Q := by
  have hr := run_bslice (P := Try.prog) w 29 28 1 #[(0, .agg (encK x).toArray)] (encK x).toArray Try.underlying29 (built1 x)
  unfold Oper.wp execOp
  simp only [ho, List.map_toArray, List.map_cons, List.map_nil, hx, Sem.run_bind, hr, Result.andThen_ok]
  exact h
/-- append, as an operation. -/
theorem wp_app {P : Program} {t e : TypeId} {z : Value} {size bytes : Nat} (E : ElemOk P t e z size bytes) (s x : Operand)
    (ho : o.op = .call { callee := .builtin .append, args := #[s, x], argTypes := #[t, t] })
    {B : Nat} {A : Option Addr} {n c : Nat} {xs : List Value} (hs : a.eval s = .slice A n c) (hown : Own w B e size A n c xs)
    {B2 : Nat} {A2 : Option Addr} {m c2 : Nat} {g : Nat → Value} (hx : a.eval x = .slice A2 m c2) (hr : Rd w B2 A2 (m * size) g) (h1 : ∀ j, j < m * size → (g j).oneCell' = true)
    (hn : n + m ≤ maxLen) (hb : (n + m + (n + m) / 4 + 192) * bytes ≤ 281474976710656) (hB : B ≤ w.heap.size) (N : Nat) (hN : n + m = N) (ys : List Value) (hys : xs ++ (List.range (m * size)).map g = ys)
    (h : ∀ A' c' w', Own w' B e size A' N c' ys → AppAt w w' A A' → Below B w w' → K (a.put o.dst (.slice A' N c')) w') : o.wp P a w K Q := by
  subst hN hys
  obtain ⟨A', c', w', hrun, h2, h3⟩ := run_app (P := P) E o.type w hown hr h1 hn hb hB (c2 := c2)
  unfold Oper.wp execOp
  simp only [ho, resolve, invoke, builtin, Sem.run_bind, Sem.run_pure, Result.andThen_ok, List.map_toArray, List.map_cons, List.map_nil, hs, hx, hrun]
  exact h A' c' w' h2 h3 (h3.below hown hB)
end

set_option maxRecDepth 100000 in
set_option maxHeartbeats 4000000 in
theorem kids_snap (w : World) (o : ObjT) (p : Lay) (ha : ObjIn w w.heap.size o p) (hf : Fit o) (hk : o.kind = 4) :
    Calls Try.prog 10 #[.agg (ocells o p).toArray] w fun e w' => (∃ A c, e = .returned (.slice A (o.parents.length + 1) c) ∧ Own w' w.heap.size 28 32 A (o.parents.length + 1) c (flat encK (o.tree :: o.parents))) ∧ Below w.heap.size w w' := by
  have hi32 : (Try.prog.info? 28).map (·.size) = some 32 := by kernel_rfl
  have hi32' := Lib.hid hi32
  have ha' := Lib.hid ha
  have hS0' := Lib.hid (KSt.start (w := w) (o := o) (p := p))
  obtain ⟨n, hn⟩ : ∃ n, Hid (∀ _ : Unit, o.parents.length = n) := ⟨_, Lib.hid fun _ => rfl⟩
  have ln : n * 32 ≤ 140737488355328 := by rw [← hn.out ()]; exact hf.ks
  rw [hn.out ()]
  have c0 := hS0'.out.blk.c0
  rw [hk] at c0
  have hA1' := Lib.hid (show (0 + 1 : Nat) ≤ maxLen ∧ (0 + 1 + (0 + 1) / 4 + 192) * 32 ≤ 281474976710656 from elemK_ok 0 (by omega))
  have hA2' := Lib.hid (show (1 + n : Nat) ≤ maxLen ∧ (1 + n + (1 + n) / 4 + 192) * 32 ≤ 281474976710656 by unfold maxLen; constructor <;> omega)
  have c36S : Hid (∀ W, KSt w W o p → W.cell? ⟨w.heap.size, 36, none⟩ = some (.slice p.Ak n p.ck)) := Lib.hid fun W h => by
    have := h.blk.c36
    rwa [hn.out ()] at this
  clear ha hf hi32 hk
  go_enter Try.func10, Try.ntmps10
  go_wp2_with fail
  generalize (w.alloc (.cells (ocells o p).toArray 31)) = w1 at hS0' c0 ⊢
  refine wp_region_held (S := fun W => KSt w W o p) (by kernel_rfl) ?_
  change wpAnyH _ _ _ _ _ _ _ _ (World.drew _)
  have hd : Hid (KSt w w1.drew o p) := Lib.hid (hS0'.out.below (below_drewN (Below.refl _ _) 1))
  refine wpAnyH_take (i := 0) (v := .slice none 0 0) rfl (by kernel_rfl) (by kernel_rfl) (by kernel_rfl) (fun _ _ _ h => h) (Or.inl ⟨by rfl, by intro W _; go_simp⟩) hd.out ?_
  simp only [Act.put, List.setIfInBounds_toArray, List.set_cons_zero, List.set_cons_succ]
  refine wpAnyH_take (i := 1) (v := .pointer (some ⟨w.heap.size, 4, none⟩)) rfl (by kernel_rfl) (by kernel_rfl) (by kernel_rfl) (fun _ _ _ h => h) (Or.inl ⟨by rfl, by intro W _; go_simp⟩) hd.out ?_
  simp only [Act.put, List.setIfInBounds_toArray, List.set_cons_zero, List.set_cons_succ]
  refine wpAnyH_take (i := 2) rfl (by kernel_rfl) (by kernel_rfl) (by kernel_rfl) (fun _ _ _ h => h) (yieldsIf_load_mid (by rfl) 28 _ rfl w.heap.size 4 rfl (encK o.tree) _ (fun _ h => h.blk.tree) Try.underlying28 rfl (by rw [encK_length]; exact hi32'.out)) hd.out ?_
  simp only [Act.put, List.setIfInBounds_toArray, List.set_cons_zero, List.set_cons_succ]
  refine wpAnyH_take (i := 5) (v := .pointer (some ⟨w.heap.size, 36, none⟩)) rfl (by kernel_rfl) (by kernel_rfl) (by kernel_rfl) (fun _ _ _ h => h) (Or.inl ⟨by rfl, by intro W _; go_simp⟩) hd.out ?_
  simp only [Act.put, List.setIfInBounds_toArray, List.set_cons_zero, List.set_cons_succ]
  refine wpAnyH_take (i := 6) (v := .slice p.Ak n p.ck) rfl (by kernel_rfl) (by kernel_rfl) (by kernel_rfl) (fun _ _ _ h => h) (Or.inl ⟨by rfl, by intro W hW; have ct := c36S.out W hW; clear hW; go_simp⟩) hd.out ?_
  simp only [Act.put, List.setIfInBounds_toArray, List.set_cons_zero, List.set_cons_succ]
  refine wpAnyH_ready (rs := [3]) (by kernel_rfl) (by simp) ?_
  refine AllReadyH.cons rfl (fun K hK => ?_) AllReadyH.nil
  rw [if_pos (by rfl)]
  refine wp_bsl1 o.tree _ rfl rfl ?_
  have hd1 : Hid (KSt w (w1.drew.alloc (.cells (encK o.tree).toArray 28)) o p) := Lib.hid (hd.out.below ((Below.refl _ _).alloc hd.out.le _))
  have hr1 : Hid (Rd (w1.drew.alloc (.cells (encK o.tree).toArray 28)) (w1.drew.heap.size + 1) (some ⟨w1.drew.heap.size, 0, none⟩) (1 * 32) (fun j => (flat encK [o.tree])[j]?.getD undef)) := Lib.hid fun _ => by
    refine ⟨w1.drew.heap.size, 0, rfl, by omega, fun j hj => ?_⟩
    rw [cell_of_row (w1.drew.alloc (.cells (encK o.tree).toArray 28)) w1.drew.heap.size (0 + j) _ _ (0, 0) (heap_alloc_new _ _)]
    have hj2 : j < (encK o.tree).length := by rw [encK_length]; omega
    simp [flat, List.getElem?_eq_getElem hj2]
  generalize (w1.drew.alloc (.cells (encK o.tree).toArray 28)) = w2 at hd1 hr1 ⊢
  refine hK.out _ _ hd1.out (fun _ => ?_)
  clear hK K hd
  simp only [Act.put, List.setIfInBounds_toArray, List.set_cons_zero, List.set_cons_succ]
  refine wpAnyH_ready (rs := [4]) (by kernel_rfl) (by simp) ?_
  refine AllReadyH.cons rfl (fun K hK => ?_) AllReadyH.nil
  rw [if_pos (by rfl)]
  refine wp_app elK _ _ rfl rfl (Own.nil _ (w.heap.size + 1) _ _) rfl hr1.out (getD_oneK (l := [o.tree]) rfl) hA1'.out.1 hA1'.out.2 hd1.out.le 1 rfl (flat encK [o.tree]) (by rw [List.nil_append]; exact Row.flat_range (l := [o.tree]) rfl) ?_
  intro A1 x1 w3 o1 at1 b1
  have hd3 := Lib.hid (hd1.out.below b1)
  refine hK.out _ _ hd3.out (fun _ => ?_)
  clear hK K hd1 hr1 at1 b1
  simp only [Act.put, List.setIfInBounds_toArray, List.set_cons_zero, List.set_cons_succ]
  refine wpAnyH_ready (rs := [7]) (by kernel_rfl) (by simp) ?_
  refine AllReadyH.cons rfl (fun K hK => ?_) AllReadyH.nil
  rw [if_pos (by rfl)]
  refine wp_app elK _ _ rfl rfl o1 rfl (m := n) (g := fun j => (flat encK o.parents)[j]?.getD undef) (B2 := w.heap.size) (Row.at (ha'.out.below hd3.out.bel).ks (hn.out ())) (getD_oneK (hn.out ())) hA2'.out.1 hA2'.out.2 hd3.out.le (n + 1) (by omega) (flat encK (o.tree :: o.parents)) (by rw [Row.flat_range (hn.out ()), ← flat_append]; rfl) ?_
  intro A2 x2 w4 o2 at2 b2
  have hd4 := Lib.hid (hd3.out.below b2)
  have o2' := Lib.hid o2
  refine hK.out _ _ hd4.out (fun _ => ?_)
  clear hK K hd3 at2 b2 o1 o2
  simp only [Act.put, List.setIfInBounds_toArray, List.set_cons_zero, List.set_cons_succ]
  refine wpAnyH_ready (rs := [8]) (by kernel_rfl) (by simp) ?_
  refine AllReadyH.cons rfl (fun K hK => ?_) AllReadyH.nil
  go_simp
  refine hK.out _ _ hd4.out (fun _ => ?_)
  clear hK K
  refine wpAnyH_done (by kernel_rfl) ?_ _
  go_wp2_with fail
  go_ret
  exact ⟨⟨A2, x2, rfl, o2'.out.base (by omega)⟩, hd4.out.bel⟩

theorem kidsL_length (o : ObjT) : (kidsL o).length = if o.kind = 2 then o.parts.length else if o.kind = 3 then o.items.length else if o.kind = 4 then o.parents.length + 1 else 0 := by
  unfold kidsL
  repeat' split
  all_goals simp
theorem kids_any (w : World) (o : ObjT) (p : Lay) (ha : ObjIn w w.heap.size o p) (hf : Fit o) :
    Calls Try.prog 10 #[.agg (ocells o p).toArray] w fun e w' => (∃ A c, e = .returned (.slice A (kidsL o).length c) ∧ Own w' w.heap.size 28 32 A (kidsL o).length c (flat encK (kidsL o))) ∧ Below w.heap.size w w' := by
  by_cases h2 : o.kind = 2
  · have := kids_parts w o p ha hf h2
    simpa [kidsL, h2] using this
  · by_cases h3 : o.kind = 3
    · have := kids_items w o p ha hf h3
      simpa [kidsL, h2, h3] using this
    · by_cases h4 : o.kind = 4
      · have := kids_snap w o p ha hf h4
        simpa [kidsL, h2, h3, h4] using this
      · refine (kids_none w o p h2 h3 h4).mono ?_
        rintro e w' ⟨rfl, hb⟩
        rw [none_of h2 h3 h4]
        exact ⟨⟨none, 0, rfl, Own.nil _ _ _ _⟩, hb⟩
theorem refKids_any (w : World) (o : ObjT) (p : Lay) (ha : ObjIn w w.heap.size o p) (hf : Fit o) :
    Calls Try.prog 9 #[.agg (ocells o p).toArray] w fun e w' => (∃ A c, e = .returned (.slice A (kidsL o).length c) ∧ Own w' w.heap.size 28 32 A (kidsL o).length c (flat encK (kidsL o))) ∧ Below w.heap.size w w' := by
  by_cases h2 : o.kind = 2
  · have := refKids_parts w o p ha hf h2
    simpa [kidsL, h2] using this
  · by_cases h3 : o.kind = 3
    · have := refKids_items w o p ha hf h3
      simpa [kidsL, h2, h3] using this
    · by_cases h4 : o.kind = 4
      · have := refKids_snap w o p ha hf h4
        simpa [kidsL, h2, h3, h4] using this
      · refine (refKids_none w o p h2 h3 h4).mono ?_
        rintro e w' ⟨rfl, hb⟩
        rw [none_of h2 h3 h4]
        exact ⟨⟨none, 0, rfl, Own.nil _ _ _ _⟩, hb⟩
end Go.Proofs.Ytkjndgapejbgcaa

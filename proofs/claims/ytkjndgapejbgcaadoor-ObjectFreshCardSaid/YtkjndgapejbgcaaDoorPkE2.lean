/- Kids of an object: the program's (for a seat without the document's; cut out of Kids, KidsB, KidsC). spare and clean, the length as a letter. What ObjectBack's walk leans on. -/
import Derived.Test.YtkjndgapejbgcaaDoorPkD6
import Derived.Test.YtkjndgapejbgcaaDoorPkD7
import Derived.Test.YtkjndgapejbgcaaDoorPkE1
import Derived.Test.YtkjndgapejbgcaaDoorPkD26
import Derived.Test.YtkjndgapejbgcaaDoorPkD35
import Derived.Test.YtkjndgapejbgcaaDoorPkD36
import Derived.Lib.SmallJoins

namespace Go.Proofs.YtkjndgapejbgcaaDoor
open Go.RowKit
set_option linter.unusedSimpArgs false

set_option maxRecDepth 100000 in
set_option maxHeartbeats 4000000 in
theorem kids_parts (w : World) (o : ObjT) (p : Lay) (ha : ObjIn w w.heap.size o p) (hf : Fit o) (hk : o.kind = 2) :
    Calls Tryd.prog 28 #[.agg (ocells o p).toArray] w fun e w' => (∃ A c, e = .returned (.slice A o.parts.length c) ∧ Own w' w.heap.size 28 32 A o.parts.length c (flat encK (o.parts.map (·.1)))) ∧ Below w.heap.size w w' := by
  have hi32 : (Tryd.prog.info? 28).map (·.size) = some 32 := by kernel_rfl
  have hi33 : (Tryd.prog.info? 47).map (·.size) = some 33 := by kernel_rfl
  have hi35 : (Tryd.prog.info? 50).map (·.size) = some 35 := by kernel_rfl
  have hi32' := Lib.hid hi32
  have hi33' := Lib.hid hi33
  have hi35' := Lib.hid hi35
  have zP := zeroP; have zI := zeroI
  have ha' := Lib.hid ha
  have hS0' := Lib.hid (KSt.start (w := w) (o := o) (p := p))

  obtain ⟨n, hn⟩ : ∃ n, Hid (∀ _ : Unit, o.parts.length = n) := ⟨_, Lib.hid fun _ => rfl⟩
  have ln : n * 40 ≤ 140737488355328 := by rw [← hn.out ()]; exact hf.ps
  rw [hn.out ()]
  obtain ⟨Ap, hAp⟩ : ∃ A, Hid (∀ _ : Unit, p.Ap = A) := ⟨_, Lib.hid fun _ => rfl⟩
  have c0 := hS0'.out.blk.c0
  have c2 := hS0'.out.blk.c2
  rw [hk] at c0
  rw [hn.out (), hAp.out ()] at c2
  clear ha hf hi32 hi33 hi35 hk
  go_enter Tryd.func28, Tryd.ntmps28
  go_wp2_with fail
  generalize (w.alloc (.cells (ocells o p).toArray 31)) = w1 at hS0' c0 c2 ⊢
  have hw1 : Hid (w.heap.size + 1 ≤ w1.heap.size) := Lib.hid hS0'.out.le
  go_loopw [3, 15] (fun s i wr => ∃ (k : Nat) (A : Option Addr) (c : Nat), k ≤ n ∧ i = .int .i64 k ∧ s = .slice A k c ∧ Hid (Own wr (w.heap.size + 1) 28 32 A k c (flat encK ((o.parts.take k).map (·.1)))) ∧ Hid (KSt w wr o p)) (fun _ i _ => n - (intOf i).toNat)
  case atStart => exact ⟨0, none, 0, by omega, rfl, rfl, Lib.hid (Own.nil _ _ _ _), hS0'⟩
  case round =>
    clear c0 c2
    obtain ⟨k, A, c, hk, rfl, rfl, hown, hS⟩ := hrel
    have c2 := hS.out.blk.c2
    rw [hn.out (), hAp.out ()] at c2
    by_cases hlt : k < n
    · have hkx : k < o.parts.length := by rw [hn.out ()]; exact hlt
      obtain ⟨b, off, hA, _, hc⟩ := Row.elem (Rd.below ha'.out.ps hS.out.bel) encP_length (by decide) hkx
      obtain ⟨x, hx⟩ : ∃ x, o.parts[k] = x := ⟨_, rfl⟩
      rw [hx] at hc
      have hm := Lib.hid (take_map (·.1) hkx hx)
      have hle := Lib.hid hS.out.le
      rw [hAp.out ()] at hA
      subst hA
      have hel : (k + 1 : Nat) ≤ maxLen ∧ (k + 1 + (k + 1) / 4 + 192) * 32 ≤ 281474976710656 := elemK_ok k (by omega)
      have hel' := Lib.hid hel
      clear hel hx hkx
      have hrg := Lib.hid (show wr.rangeAt b (off + k * 33) (encP x) from fun j v hv => hc j v hv)
      have hnw := row_new wr 47 (encP (zK, 0)).toArray (encP x).toArray
      have hN := Lib.hid hnw.1
      have hNb := Lib.hid (hnw.2 _ hle.out)
      have hNc := Lib.hid (hnw.2 _ (Nat.le_refl _))
      have hxs : (encP x).toArray.size = 33 := by simp [encP_length]
      have hzs : (encP (zK, 0)).toArray.size = 33 := by simp [encP_length]
      have hxs' := Lib.hid hxs
      have hzs' := Lib.hid hzs
      have hone' := Lib.hid (show (encP x).toArray.all (·.oneCell') = true from all_oneCell_toArray (encP_one x))
      clear hc hnw hxs hzs
      go_wp2_with (first
        | (refine wpList_load_mid rfl 47 _ rfl b (off + k * 33) rfl (encP x) _ hrg.out Tryd.underlying47 rfl (by rw [encP_length]; exact hi33'.out) ?_)
        | (refine wpList_store_row rfl 47 _ _ rfl wr.heap.size (encP x).toArray rfl rfl 47 _ (heap_alloc_new wr _) (by rw [hxs'.out]; exact hi33'.out) (by rw [hxs'.out, hzs'.out]) hone'.out ?_
           generalize ((wr.alloc (.cells (encP (zK, 0)).toArray 47)).setRow wr.heap.size (encP x).toArray) = w2 at hN hNb hNc ⊢
           have hS2 := Lib.hid (hS.out.below hNb.out)
           have ho2 := Lib.hid (hown.out.below hNc.out (fun j hj => (hown.out.lt j hj).2))
           have hle2 := Lib.hid hS2.out.le
           have hrg2 := Lib.hid (range_of hN.out (k := 0) (ks := encK x.1) (fun j v hv => by rw [Nat.zero_add]; exact encP_key x j v hv)))
        | (refine wpList_load_mid rfl 28 _ rfl wr.heap.size 0 rfl (encK x.1) _ hrg2.out Tryd.underlying28 rfl (by rw [encK_length]; exact hi32'.out) ?_)
        | (refine Great.wpList_buildSliceTo rfl 29 28 1 _ rfl _ rfl _ rfl Tryd.underlying29 (encK x.1).toArray (by rw [List.map_toArray]; exact built1 x.1) ?_)
        | (at_builtin; refine wpList_app1 elK _ (encK x.1).toArray (by simp [encK_length]) rfl _ _ rfl rfl ho2.out rfl (by intro u hu; exact encK_one _ u (by simpa using hu)) hel'.out.1 hel'.out.2 hle2.out (k + 1) rfl (flat encK ((o.parts.take (k + 1)).map (·.1))) (by rw [hm.out, flat_append]; simp [flat]) ?_
           intro A' c' w' hown' _ hb'))
      go_roundw
      case rel => exact ⟨k + 1, A', c', by omega, by go_num, rfl, Lib.hid hown', Lib.hid (hS2.out.below hb')⟩
      case measure => simp [intOf]; omega
    · obtain rfl : k = n := by omega
      have hfull : o.parts.take k = o.parts := List.take_of_length_le (by rw [hn.out ()]; exact Nat.le_refl _)
      rw [hfull] at hown
      go_wp2_with fail
      go_ret
      exact ⟨⟨A, c, rfl, hown.out.base (by omega)⟩, hS.out.bel⟩

set_option maxRecDepth 100000 in
set_option maxHeartbeats 4000000 in
theorem kids_items (w : World) (o : ObjT) (p : Lay) (ha : ObjIn w w.heap.size o p) (hf : Fit o) (hk : o.kind = 3) :
    Calls Tryd.prog 28 #[.agg (ocells o p).toArray] w fun e w' => (∃ A c, e = .returned (.slice A o.items.length c) ∧ Own w' w.heap.size 28 32 A o.items.length c (flat encK (o.items.map (·.2.2.2)))) ∧ Below w.heap.size w w' := by
  have hi32 : (Tryd.prog.info? 28).map (·.size) = some 32 := by kernel_rfl
  have hi33 : (Tryd.prog.info? 47).map (·.size) = some 33 := by kernel_rfl
  have hi35 : (Tryd.prog.info? 50).map (·.size) = some 35 := by kernel_rfl
  have hi32' := Lib.hid hi32
  have hi33' := Lib.hid hi33
  have hi35' := Lib.hid hi35
  have zP := zeroP; have zI := zeroI
  have ha' := Lib.hid ha
  have hS0' := Lib.hid (KSt.start (w := w) (o := o) (p := p))

  obtain ⟨n, hn⟩ : ∃ n, Hid (∀ _ : Unit, o.items.length = n) := ⟨_, Lib.hid fun _ => rfl⟩
  have ln : n * 64 ≤ 140737488355328 := by rw [← hn.out ()]; exact hf.xs
  rw [hn.out ()]
  obtain ⟨Ap, hAp⟩ : ∃ A, Hid (∀ _ : Unit, p.Ai = A) := ⟨_, Lib.hid fun _ => rfl⟩
  have c0 := hS0'.out.blk.c0
  have c3 := hS0'.out.blk.c3
  rw [hk] at c0
  rw [hn.out (), hAp.out ()] at c3
  clear ha hf hi32 hi33 hi35 hk
  go_enter Tryd.func28, Tryd.ntmps28
  go_wp2_with fail
  generalize (w.alloc (.cells (ocells o p).toArray 31)) = w1 at hS0' c0 c3 ⊢
  have hw1 : Hid (w.heap.size + 1 ≤ w1.heap.size) := Lib.hid hS0'.out.le
  go_loopw [3, 30] (fun s i wr => ∃ (k : Nat) (A : Option Addr) (c : Nat), k ≤ n ∧ i = .int .i64 k ∧ s = .slice A k c ∧ Hid (Own wr (w.heap.size + 1) 28 32 A k c (flat encK ((o.items.take k).map (·.2.2.2)))) ∧ Hid (KSt w wr o p)) (fun _ i _ => n - (intOf i).toNat)
  case atStart => exact ⟨0, none, 0, by omega, rfl, rfl, Lib.hid (Own.nil _ _ _ _), hS0'⟩
  case round =>
    clear c0 c3
    obtain ⟨k, A, c, hk, rfl, rfl, hown, hS⟩ := hrel
    have c3 := hS.out.blk.c3
    rw [hn.out (), hAp.out ()] at c3
    by_cases hlt : k < n
    · have hkx : k < o.items.length := by rw [hn.out ()]; exact hlt
      obtain ⟨b, off, hA, _, hc⟩ := Row.elem (Rd.below ha'.out.xs hS.out.bel) encI_length (by decide) hkx
      obtain ⟨x, hx⟩ : ∃ x, o.items[k] = x := ⟨_, rfl⟩
      rw [hx] at hc
      have hm := Lib.hid (take_map (·.2.2.2) hkx hx)
      have hle := Lib.hid hS.out.le
      rw [hAp.out ()] at hA
      subst hA
      have hel : (k + 1 : Nat) ≤ maxLen ∧ (k + 1 + (k + 1) / 4 + 192) * 32 ≤ 281474976710656 := elemK_ok k (by omega)
      have hel' := Lib.hid hel
      clear hel hx hkx
      have hrg := Lib.hid (show wr.rangeAt b (off + k * 35) (encI x) from fun j v hv => hc j v hv)
      have hnw := row_new wr 50 (encI (⟨#[]⟩, 0, 0, zK)).toArray (encI x).toArray
      have hN := Lib.hid hnw.1
      have hNb := Lib.hid (hnw.2 _ hle.out)
      have hNc := Lib.hid (hnw.2 _ (Nat.le_refl _))
      have hxs : (encI x).toArray.size = 35 := by simp [encI_length]
      have hzs : (encI (⟨#[]⟩, 0, 0, zK)).toArray.size = 35 := by simp [encI_length]
      have hxs' := Lib.hid hxs
      have hzs' := Lib.hid hzs
      have hone' := Lib.hid (show (encI x).toArray.all (·.oneCell') = true from all_oneCell_toArray (encI_one x))
      clear hc hnw hxs hzs
      go_wp2_with (first
        | (refine wpList_load_mid rfl 50 _ rfl b (off + k * 35) rfl (encI x) _ hrg.out Tryd.underlying50 rfl (by rw [encI_length]; exact hi35'.out) ?_)
        | (refine wpList_store_row rfl 50 _ _ rfl wr.heap.size (encI x).toArray rfl rfl 50 _ (heap_alloc_new wr _) (by rw [hxs'.out]; exact hi35'.out) (by rw [hxs'.out, hzs'.out]) hone'.out ?_
           generalize ((wr.alloc (.cells (encI (⟨#[]⟩, 0, 0, zK)).toArray 50)).setRow wr.heap.size (encI x).toArray) = w2 at hN hNb hNc ⊢
           have hS2 := Lib.hid (hS.out.below hNb.out)
           have ho2 := Lib.hid (hown.out.below hNc.out (fun j hj => (hown.out.lt j hj).2))
           have hle2 := Lib.hid hS2.out.le
           have hrg2 := Lib.hid (range_of hN.out (k := 3) (ks := encK x.2.2.2) (encI_key x)))
        | (refine wpList_load_mid rfl 28 _ rfl wr.heap.size 3 rfl (encK x.2.2.2) _ hrg2.out Tryd.underlying28 rfl (by rw [encK_length]; exact hi32'.out) ?_)
        | (refine Great.wpList_buildSliceTo rfl 29 28 1 _ rfl _ rfl _ rfl Tryd.underlying29 (encK x.2.2.2).toArray (by rw [List.map_toArray]; exact built1 x.2.2.2) ?_)
        | (at_builtin; refine wpList_app1 elK _ (encK x.2.2.2).toArray (by simp [encK_length]) rfl _ _ rfl rfl ho2.out rfl (by intro u hu; exact encK_one _ u (by simpa using hu)) hel'.out.1 hel'.out.2 hle2.out (k + 1) rfl (flat encK ((o.items.take (k + 1)).map (·.2.2.2))) (by rw [hm.out, flat_append]; simp [flat]) ?_
           intro A' c' w' hown' _ hb'))
      go_roundw
      case rel => exact ⟨k + 1, A', c', by omega, by go_num, rfl, Lib.hid hown', Lib.hid (hS2.out.below hb')⟩
      case measure => simp [intOf]; omega
    · obtain rfl : k = n := by omega
      have hfull : o.items.take k = o.items := List.take_of_length_le (by rw [hn.out ()]; exact Nat.le_refl _)
      rw [hfull] at hown
      go_wp2_with fail
      go_ret
      exact ⟨⟨A, c, rfl, hown.out.base (by omega)⟩, hS.out.bel⟩

theorem Row.flat_range {l : List Key32} {n : Nat} (hn : l.length = n) : (List.range (n * 32)).map (fun j => (flat encK l)[j]?.getD undef) = flat encK l := by
  subst hn
  exact range_flat encK_length l
theorem getD_oneK {l : List Key32} {n : Nat} (hn : l.length = n) : ∀ j, j < n * 32 → ((flat encK l)[j]?.getD undef).oneCell' = true := by
  subst hn
  exact getD_one encK_one encK_length l

theorem none_of {o : ObjT} (h2 : ¬ o.kind = 2) (h3 : ¬ o.kind = 3) (h4 : ¬ o.kind = 4) : kidsL o = [] := by simp [kidsL, h2, h3, h4]

set_option maxRecDepth 100000 in
set_option maxHeartbeats 4000000 in
theorem kids_none (w : World) (o : ObjT) (p : Lay) (h2 : ¬ o.kind = 2) (h3 : ¬ o.kind = 3) (h4 : ¬ o.kind = 4) :
    Calls Tryd.prog 28 #[.agg (ocells o p).toArray] w fun e w' => e = .returned (.slice none 0 0) ∧ Below w.heap.size w w' := by
  have hS0' := Lib.hid (KSt.start (w := w) (o := o) (p := p))
  have c0 := hS0'.out.blk.c0
  have k2 : ((o.kind : Int) == 2) = false := by rw [beq_eq_false_iff_ne]; omega
  have k3 : ((o.kind : Int) == 3) = false := by rw [beq_eq_false_iff_ne]; omega
  have k4 : ((o.kind : Int) == 4) = false := by rw [beq_eq_false_iff_ne]; omega
  clear h2 h3 h4
  go_enter Tryd.func28, Tryd.ntmps28
  go_wp2_with fail
  go_ret
  exact ⟨rfl, hS0'.out.bel⟩
section
variable {o : Oper} {a : Act} {w : World} {K : Act → World → Prop} {Q : Exit → Act → World → Prop}
theorem wp_bsl1 (x : Key32) (t1 : Operand) (ho : o.op = .buildSlice 29 1 #[(0, t1)]) (hx : a.eval t1 = .agg (encK x).toArray)
    (h : K (a.put o.dst (.slice (some ⟨w.heap.size, 0, none⟩) 1 1)) (w.alloc (.cells (encK x).toArray 28))) : o.wp Tryd.prog a w K Q := by
  have hr := run_bslice (P := Tryd.prog) w 29 28 1 #[(0, .agg (encK x).toArray)] (encK x).toArray Tryd.underlying29 (built1 x)
  unfold Oper.wp execOp
  simp only [ho, List.map_toArray, List.map_cons, List.map_nil, hx, Sem.run_bind, hr, Result.andThen_ok]
  exact h
/-- append, as an operation. -/
theorem wp_app {P : Program} {t e : TypeId} {z : Value} {size bytes : Nat} (E : ElemOk P t e z size bytes) (s x : Operand)
    (ho : o.op = .call { callee := .builtin .append, args := #[s, x], argTypes := #[t, t] })
    {B : Nat} {A : Option Addr} {n c : Nat} {xs : List Value} (hs : a.eval s = .slice A n c) (hown : Own w B e size A n c xs)
    {B2 : Nat} {A2 : Option Addr} {m c2 : Nat} {g : Nat → Value} (hx : a.eval x = .slice A2 m c2) (hr : Rd w B2 A2 (m * size) g) (h1 : ∀ j, j < m * size → (g j).oneCell' = true)
    (hn : n + m ≤ maxLen) (hb : (n + m + (n + m) / 4 + 192) * bytes ≤ 281474976710656) (hB : B ≤ w.heap.size) (N : Nat) (hN : n + m = N) (ys : List Value) (hys : xs ++ (List.range (m * size)).map g = ys)
    (h : ∀ A' c' w', Own w' B e size A' N c' ys → AppAt w w' A A' → Below B w w' → K (a.put o.dst (.slice A' N c')) w') : o.wp P a w K Q := by
  subst hN hys
  obtain ⟨A', c', w', hrun, h2, h3⟩ := run_app (P := P) E o.type w hown hr h1 hn hb hB (c2 := c2)
  unfold Oper.wp execOp
  simp only [ho, resolve, invoke, builtin, Sem.run_bind, Sem.run_pure, Result.andThen_ok, List.map_toArray, List.map_cons, List.map_nil, hs, hx, hrun]
  exact h A' c' w' h2 h3 (h3.below hown hB)
end

set_option maxRecDepth 100000 in
set_option maxHeartbeats 4000000 in
theorem kids_snap (w : World) (o : ObjT) (p : Lay) (ha : ObjIn w w.heap.size o p) (hf : Fit o) (hk : o.kind = 4) :
    Calls Tryd.prog 28 #[.agg (ocells o p).toArray] w fun e w' => (∃ A c, e = .returned (.slice A (o.parents.length + 1) c) ∧ Own w' w.heap.size 28 32 A (o.parents.length + 1) c (flat encK (o.tree :: o.parents))) ∧ Below w.heap.size w w' := by
  have hi32 : (Tryd.prog.info? 28).map (·.size) = some 32 := by kernel_rfl
  have hi32' := Lib.hid hi32
  have ha' := Lib.hid ha
  have hS0' := Lib.hid (KSt.start (w := w) (o := o) (p := p))
  obtain ⟨n, hn⟩ : ∃ n, Hid (∀ _ : Unit, o.parents.length = n) := ⟨_, Lib.hid fun _ => rfl⟩
  have ln : n * 32 ≤ 140737488355328 := by rw [← hn.out ()]; exact hf.ks
  rw [hn.out ()]
  have c0 := hS0'.out.blk.c0
  rw [hk] at c0
  have hA1' := Lib.hid (show (0 + 1 : Nat) ≤ maxLen ∧ (0 + 1 + (0 + 1) / 4 + 192) * 32 ≤ 281474976710656 from elemK_ok 0 (by omega))
  have hA2' := Lib.hid (show (1 + n : Nat) ≤ maxLen ∧ (1 + n + (1 + n) / 4 + 192) * 32 ≤ 281474976710656 by unfold maxLen; constructor <;> omega)
  have c36S : Hid (∀ W, KSt w W o p → W.cell? ⟨w.heap.size, 36, none⟩ = some (.slice p.Ak n p.ck)) := Lib.hid fun W h => by
    have := h.blk.c36
    rwa [hn.out ()] at this
  clear ha hf hi32 hk
  go_enter Tryd.func28, Tryd.ntmps28
  go_wp2_with fail
  generalize (w.alloc (.cells (ocells o p).toArray 31)) = w1 at hS0' c0 ⊢
  refine wp_region_held (S := fun W => KSt w W o p) (by kernel_rfl) ?_
  change wpAnyH _ _ _ _ _ _ _ _ (World.drew _)
  have hd : Hid (KSt w w1.drew o p) := Lib.hid (hS0'.out.below (below_drewN (Below.refl _ _) 1))
  refine wpAnyH_take (i := 0) (v := .slice none 0 0) rfl (by kernel_rfl) (by kernel_rfl) (by kernel_rfl) (fun _ _ _ h => h) (Or.inl ⟨by rfl, by intro W _; go_simp⟩) hd.out ?_
  simp only [Act.put, List.setIfInBounds_toArray, List.set_cons_zero, List.set_cons_succ]
  refine wpAnyH_take (i := 1) (v := .pointer (some ⟨w.heap.size, 4, none⟩)) rfl (by kernel_rfl) (by kernel_rfl) (by kernel_rfl) (fun _ _ _ h => h) (Or.inl ⟨by rfl, by intro W _; go_simp⟩) hd.out ?_
  simp only [Act.put, List.setIfInBounds_toArray, List.set_cons_zero, List.set_cons_succ]
  refine wpAnyH_take (i := 2) rfl (by kernel_rfl) (by kernel_rfl) (by kernel_rfl) (fun _ _ _ h => h) (yieldsIf_load_mid (by rfl) 28 _ rfl w.heap.size 4 rfl (encK o.tree) _ (fun _ h => h.blk.tree) Tryd.underlying28 rfl (by rw [encK_length]; exact hi32'.out)) hd.out ?_
  simp only [Act.put, List.setIfInBounds_toArray, List.set_cons_zero, List.set_cons_succ]
  refine wpAnyH_take (i := 5) (v := .pointer (some ⟨w.heap.size, 36, none⟩)) rfl (by kernel_rfl) (by kernel_rfl) (by kernel_rfl) (fun _ _ _ h => h) (Or.inl ⟨by rfl, by intro W _; go_simp⟩) hd.out ?_
  simp only [Act.put, List.setIfInBounds_toArray, List.set_cons_zero, List.set_cons_succ]
  refine wpAnyH_take (i := 6) (v := .slice p.Ak n p.ck) rfl (by kernel_rfl) (by kernel_rfl) (by kernel_rfl) (fun _ _ _ h => h) (Or.inl ⟨by rfl, by intro W hW; have ct := c36S.out W hW; clear hW; go_simp⟩) hd.out ?_
  simp only [Act.put, List.setIfInBounds_toArray, List.set_cons_zero, List.set_cons_succ]
  refine wpAnyH_ready (rs := [3]) (by kernel_rfl) (by simp) ?_
  refine AllReadyH.cons rfl (fun K hK => ?_) AllReadyH.nil
  rw [if_pos (by rfl)]
  refine wp_bsl1 o.tree _ rfl rfl ?_
  have hd1 : Hid (KSt w (w1.drew.alloc (.cells (encK o.tree).toArray 28)) o p) := Lib.hid (hd.out.below ((Below.refl _ _).alloc hd.out.le _))
  have hr1 : Hid (Rd (w1.drew.alloc (.cells (encK o.tree).toArray 28)) (w1.drew.heap.size + 1) (some ⟨w1.drew.heap.size, 0, none⟩) (1 * 32) (fun j => (flat encK [o.tree])[j]?.getD undef)) := Lib.hid fun _ => by
    refine ⟨w1.drew.heap.size, 0, rfl, by omega, fun j hj => ?_⟩
    rw [cell_of_row (w1.drew.alloc (.cells (encK o.tree).toArray 28)) w1.drew.heap.size (0 + j) _ _ (0, 0) (heap_alloc_new _ _)]
    have hj2 : j < (encK o.tree).length := by rw [encK_length]; omega
    simp [flat, List.getElem?_eq_getElem hj2]
  generalize (w1.drew.alloc (.cells (encK o.tree).toArray 28)) = w2 at hd1 hr1 ⊢
  refine hK.out _ _ hd1.out (fun _ => ?_)
  clear hK K hd
  simp only [Act.put, List.setIfInBounds_toArray, List.set_cons_zero, List.set_cons_succ]
  refine wpAnyH_ready (rs := [4]) (by kernel_rfl) (by simp) ?_
  refine AllReadyH.cons rfl (fun K hK => ?_) AllReadyH.nil
  rw [if_pos (by rfl)]
  refine wp_app elK _ _ rfl rfl (Own.nil _ (w.heap.size + 1) _ _) rfl hr1.out (getD_oneK (l := [o.tree]) rfl) hA1'.out.1 hA1'.out.2 hd1.out.le 1 rfl (flat encK [o.tree]) (by rw [List.nil_append]; exact Row.flat_range (l := [o.tree]) rfl) ?_
  intro A1 x1 w3 o1 at1 b1
  have hd3 := Lib.hid (hd1.out.below b1)
  refine hK.out _ _ hd3.out (fun _ => ?_)
  clear hK K hd1 hr1 at1 b1
  simp only [Act.put, List.setIfInBounds_toArray, List.set_cons_zero, List.set_cons_succ]
  refine wpAnyH_ready (rs := [7]) (by kernel_rfl) (by simp) ?_
  refine AllReadyH.cons rfl (fun K hK => ?_) AllReadyH.nil
  rw [if_pos (by rfl)]
  refine wp_app elK _ _ rfl rfl o1 rfl (m := n) (g := fun j => (flat encK o.parents)[j]?.getD undef) (B2 := w.heap.size) (Row.at (ha'.out.below hd3.out.bel).ks (hn.out ())) (getD_oneK (hn.out ())) hA2'.out.1 hA2'.out.2 hd3.out.le (n + 1) (by omega) (flat encK (o.tree :: o.parents)) (by rw [Row.flat_range (hn.out ()), ← flat_append]; rfl) ?_
  intro A2 x2 w4 o2 at2 b2
  have hd4 := Lib.hid (hd3.out.below b2)
  have o2' := Lib.hid o2
  refine hK.out _ _ hd4.out (fun _ => ?_)
  clear hK K hd3 at2 b2 o1 o2
  simp only [Act.put, List.setIfInBounds_toArray, List.set_cons_zero, List.set_cons_succ]
  refine wpAnyH_ready (rs := [8]) (by kernel_rfl) (by simp) ?_
  refine AllReadyH.cons rfl (fun K hK => ?_) AllReadyH.nil
  go_simp
  refine hK.out _ _ hd4.out (fun _ => ?_)
  clear hK K
  refine wpAnyH_done (by kernel_rfl) ?_ _
  go_wp2_with fail
  go_ret
  exact ⟨⟨A2, x2, rfl, o2'.out.base (by omega)⟩, hd4.out.bel⟩

theorem kidsL_length (o : ObjT) : (kidsL o).length = if o.kind = 2 then o.parts.length else if o.kind = 3 then o.items.length else if o.kind = 4 then o.parents.length + 1 else 0 := by
  unfold kidsL
  repeat' split
  all_goals simp
theorem kids_any (w : World) (o : ObjT) (p : Lay) (ha : ObjIn w w.heap.size o p) (hf : Fit o) :
    Calls Tryd.prog 28 #[.agg (ocells o p).toArray] w fun e w' => (∃ A c, e = .returned (.slice A (kidsL o).length c) ∧ Own w' w.heap.size 28 32 A (kidsL o).length c (flat encK (kidsL o))) ∧ Below w.heap.size w w' := by
  by_cases h2 : o.kind = 2
  · have := kids_parts w o p ha hf h2
    simpa [kidsL, h2] using this
  · by_cases h3 : o.kind = 3
    · have := kids_items w o p ha hf h3
      simpa [kidsL, h2, h3] using this
    · by_cases h4 : o.kind = 4
      · have := kids_snap w o p ha hf h4
        simpa [kidsL, h2, h3, h4] using this
      · refine (kids_none w o p h2 h3 h4).mono ?_
        rintro e w' ⟨rfl, hb⟩
        rw [none_of h2 h3 h4]
        exact ⟨⟨none, 0, rfl, Own.nil _ _ _ _⟩, hb⟩
end Go.Proofs.YtkjndgapejbgcaaDoor

namespace Go.Proofs.YtkjndgapejbgcaaDoor
open Go.RowKit
set_option linter.unusedSimpArgs false
set_option linter.unusedVariables false

theorem spare_byt {w : World} {B cc : Nat} {A : Option Addr} {b : List Nat} (ho : Own w B 5 1 A (b.length + 70) cc (u8s (marked b 70))) : Byt w w.heap.size A b := by
  have h1 := ho.byt
  have := Rd.take h1 (m := b.length) (by rw [marked_length]; omega)
  refine this.congr fun j hj => ?_
  rw [marked, List.getElem?_append_left hj]
theorem spare_to (w : World) (b : List Nat) {L : Nat} (hb : b.length = L) (A : Option Addr) (c : Nat) (hA : Byt w w.heap.size A b) (hL : L ≤ 140737488355328) :
    Calls Tryd.prog 18 #[.slice A L c] w fun e w' => (∃ ga cc, e = .returned (.slice (some ⟨ga, 0, none⟩) L cc) ∧ Own w' w.heap.size 5 1 (some ⟨ga, 0, none⟩) (b.length + 70) cc (u8s (marked b 70))) ∧ Below w.heap.size w w' := by
  subst hb
  exact spare_any w b A c hA hL
theorem clean_to (w : World) (b : List Nat) {L : Nat} (hb : b.length = L) (A : Option Addr) (B cc : Nat) (ho : Own w B 5 1 A (b.length + 70) cc (u8s (marked b 70))) (hL : L ≤ 140737488355328) :
    Calls Tryd.prog 21 #[.slice A L cc] w fun e w' => e = .returned (.bool true) ∧ w = w' := by
  subst hb
  exact clean_any w b A B cc ho hL
end Go.Proofs.YtkjndgapejbgcaaDoor

namespace Go.Proofs.YtkjndgapejbgcaaDoor
open Go.RowKit
set_option linter.unusedSimpArgs false
set_option linter.unusedVariables false

/-- Fewer of a slice's elements. -/
theorem Own.short {w : World} {B : Nat} {e : TypeId} {size n c m k : Nat} {A : Option Addr} {xs : List Value} (h : Own w B e size A n c xs) (hm : m ≤ n) (hk : m * size = k) : Own w B e size A m c (xs.take k) := by
  subst hk
  have hle : m * size ≤ n * size := Nat.mul_le_mul_right _ hm
  refine ⟨by rw [List.length_take, h.1]; omega, ?_⟩
  rcases h.2 with ⟨hv, hn⟩ | ⟨g, cap, cur, hv, hg, hh, h1, h2, h3, h4⟩
  · injection hv with ha hb hc
    subst ha hb hc
    exact .inl ⟨by rw [show m = 0 by omega], by omega⟩
  · injection hv with ha hb hc
    subst ha hc
    exact .inr ⟨g, c, cur, rfl, hg, hh, by omega, h2, h3, by rw [← h4, List.take_take, Nat.min_eq_left hle]⟩
theorem Own.none {w : World} {B : Nat} {e : TypeId} {size n c : Nat} {A : Option Addr} {xs : List Value} (h : Own w B e size A n c xs) : A = none → n = 0 ∧ c = 0 := by
  rintro rfl
  rcases h.2 with ⟨hv, hn⟩ | ⟨g, cap, cur, hv, _⟩
  · injection hv with _ _ hc
    exact ⟨hn, hc⟩
  · cases hv
/-- The marked copy, without its marks. -/
theorem spare_own {w : World} {B cc L : Nat} {A : Option Addr} {b : List Nat} (hL : b.length = L) (ho : Own w B 5 1 A (b.length + 70) cc (u8s (marked b 70))) : Own w B 5 1 A L cc (u8s b) := by
  subst hL
  have := ho.short (m := b.length) (k := b.length) (by omega) (by omega)
  rw [show (u8s (marked b 70)).take b.length = u8s b by
    unfold marked
    rw [u8s_append, List.take_left']
    exact u8s_length b] at this
  exact this

/-- Decode of bytes that a call owns. -/
theorem dec_own (w : World) (hT : U8T w) (l : List Nat) {n c B : Nat} {A : Option Addr} (hn : l.length = n) (ho : Own w B 5 1 A n c (u8s l)) (hs : n ≤ 140737488355328) (h256 : ∀ x ∈ l, x < 256) {E : Nat} {O : ObjT} (hE : decM l = (E, O)) :
    Calls Tryd.prog 19 #[.slice A n c] w fun e w' => (∃ p, e = .returned (.tuple #[.agg (ocells O p).toArray, .int .i64 (E : Int)]) ∧ OOwn w' w.heap.size O p) ∧ Below w.heap.size w w' := by
  have := decode_any w hT A l n c hn ho.none ho.byt hs h256
  rw [hE] at this
  exact this
/-- Decode of bytes that are handed in. -/
theorem dec_in (w : World) (hT : U8T w) (l : List Nat) {n c : Nat} {A : Option Addr} (hn : l.length = n) (hA : A = none → n = 0 ∧ c = 0) (hb : Byt w w.heap.size A l) (hs : n ≤ 140737488355328) (h256 : ∀ x ∈ l, x < 256) {E : Nat} {O : ObjT} (hE : decM l = (E, O)) :
    Calls Tryd.prog 19 #[.slice A n c] w fun e w' => (∃ p, e = .returned (.tuple #[.agg (ocells O p).toArray, .int .i64 (E : Int)]) ∧ OOwn w' w.heap.size O p) ∧ Below w.heap.size w w' := by
  have := decode_any w hT A l n c hn hA hb hs h256
  rw [hE] at this
  exact this
theorem decM_read {l : List Nat} (hl : ∀ x ∈ l, x < 256) : Read (decM l).2 := by
  have hz : Read oZ := ⟨⟨by simp [oZ], by simp [oZ], by simp [oZ], by simp [oZ], zk_ok, by simp [oZ], by simp [oZ]; decide⟩, ⟨by simp [oZ], by simp [oZ], by simp [oZ], by simp [oZ], by simp [oZ]⟩, by simp [oZ], by simp [oZ]; decide⟩
  unfold decM
  split
  · exact hz
  · split
    · exact hz
    · split
      · exact readM_ok hl (by omega) _ _
      · exact hz
theorem enc_of {w : World} {o : ObjT} {p : Lay} {B : Nat} (hT : U8T w) (ho : OOwn w B o p) (hf : Fit o) (hg : Good o) : EncIn w o p :=
  ⟨⟨hT, ho.objIn, hf, fun x hx => (hg.ps x hx).2, hg.note⟩, hg⟩
theorem sameKids (W : World) (ks : List Key32) (n : Nat) (hn : ks.length = n) (A A' : Option Addr) (c c' B B' : Nat) (h1 : Row encK 32 W B A ks) (h2 : Row encK 32 W B' A' ks) (hs : n ≤ 9223372036854775807) :
    Calls Tryd.prog 27 #[.slice A n c, .slice A' n c'] W fun e w' => e = .returned (.bool true) ∧ ∃ q, w' = W.drewN q := by
  subst hn
  have := lawKeys_any W ks ks A A' c c' B B' h1 h2 hs
  simpa using this
theorem Own.rowK {w : World} {B : Nat} {e : TypeId} {c n : Nat} {A : Option Addr} {l : List Key32} (h : Own w B e 32 A n c (flat encK l)) (hn : l.length = n) : Row encK 32 w w.heap.size A l := by
  subst hn
  exact h.rd

theorem check_to (w : World) (o : ObjT) (p : Lay) (hm : EncIn w o p) (h : encE o = 0) : Calls Tryd.prog 16 #[.agg (ocells o p).toArray] w fun e w' => e = .returned (.int .i64 0) ∧ Below w.heap.size w w' := by
  have := check_any w o p hm
  rw [h] at this
  exact this
theorem row_range {w : World} {g : Nat} {x : Key32} (h : w.heap[g]? = some (.cells (encK x).toArray 28 (0, 0))) : w.rangeAt g 0 (encK x) := range_of (k := 0) h fun j v hv => by rw [Nat.zero_add]; exact hv

/-- The blob "hi". -/
def hiO : ObjT := { oZ with kind := 1, data := [104, 105] }
def hiP (S : Nat) : Lay := { pZ with Ad := some ⟨S, 0, none⟩, cd := 2 }
theorem hi_enc : encE hiO = 0 := by decide
theorem hi_lay : layL hiO = [1, 104, 105] := rfl
theorem hi_good : Good hiO := ⟨by decide, by simp [hiO, oZ], by simp [hiO, oZ], by simp [hiO, oZ], zk_ok, by simp [hiO, oZ], by simp [hiO, oZ]; decide⟩
theorem hi_fit : Fit hiO := ⟨by simp [hiO, oZ], by simp [hiO, oZ], by simp [hiO, oZ], by simp [hiO, oZ], by simp [hiO, oZ]⟩
theorem hi_dec : decM [1, 104, 105] = (0, hiO) := by rw [← hi_lay]; exact decM_back hi_enc hi_good hi_fit.b
theorem buildHi (S : Nat) (w : World) : (Instr.build 31 #[(0, .int .u8 1), (1, .slice (some ⟨S, 0, none⟩) 2 2)]).run Tryd.prog w = .ok (.agg (ocells hiO (hiP S)).toArray) w := run_build w _ _ _ (by kernel_rfl)
theorem hi_conv_o (w : World) (o : ObjT) (p : Lay) : (convert 24 24 (.slice (some ⟨w.heap.size + 1, 0, none⟩) 2 2)).run Tryd.prog ((w.alloc (.cells (ocells o p).toArray 31)).alloc (.cells #[.int .u8 104, .int .u8 105] 5)) = .ok (.slice (some ⟨w.heap.size + 1, 0, none⟩) 2 2) ((w.alloc (.cells (ocells o p).toArray 31)).alloc (.cells #[.int .u8 104, .int .u8 105] 5 (2, 3))) :=
  Go.Joins.run_convert_bytes_const_at _ _ 5 #[.int .u8 104, .int .u8 105] 2 2 _ (by simp) Tryd.underlying24 Tryd.underlying5
theorem hi_in {w : World} (hT : U8T w) {S : Nat} (hS : w.heap[S]? = some (.cells #[.int .u8 104, .int .u8 105] 5 (2, 3))) : EncIn w hiO (hiP S) := by
  have hd : Byt w w.heap.size (some ⟨S, 0, none⟩) [104, 105] := fun _ => ⟨S, 0, rfl, lt_of_block hS, fun j hj => by
    have hj2 : j < 2 := hj
    rcases (by omega : j = 0 ∨ j = 1) with rfl | rfl <;> simp [World.cell?, hS]⟩
  exact ⟨⟨hT, ⟨hd, (Own.nil w 0 47 33).rd, (Own.nil w 0 50 35).rd, (Own.nil w 0 28 32).rd⟩, hi_fit, fun x hx => (hi_good.ps x hx).2, hi_good.note⟩, hi_good⟩
end Go.Proofs.YtkjndgapejbgcaaDoor

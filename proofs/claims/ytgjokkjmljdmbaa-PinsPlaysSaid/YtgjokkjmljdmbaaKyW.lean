/- Next of a set of keys: the walk. -/
import Derived.Test.YtgjokkjmljdmbaaKyP
namespace Go.Proofs.Ytgjokkjmljdmbaa
open Go.RowKit Go.Maps
set_option linter.unusedSimpArgs false
set_option linter.unusedVariables false

theorem res_row_tmp {P : Program} {fn : Func} {p u : Tmp} {ty : TypeId} (h : fn.results = #[.cell p ty, .tmp u]) (tmps : Array Value) (w : World) (g : Nat) (t : TypeId) (cs : Array Value) (fr : Nat × Nat) (d : TypeDesc) (x : Value)
    (hp : tmps.getD p undef = .pointer (some ⟨g, 0, none⟩)) (hx : tmps.getD u undef = x) (hg : w.heap[g]? = some (.cells cs t fr))
    (hu : P.underlying ty = some d) (hd : (match d with | .struct _ | .array _ _ => true | _ => false) = true) (hi : (P.info? ty).map (·.size) = some cs.size) :
    (results fn tmps).run P w = .ok (.tuple #[.agg cs, x]) w := by
  rw [results_cell_tmp h, hp, hx]
  simp [asAddr, run_loadVar_row w g t ty cs fr d hg hu hd hi]
theorem cmpK_trans (a b c : List Nat) (_ : a.length = 32) (_ : b.length = 32) (_ : c.length = 32) (h1 : cmpK a b < 0) (h2 : cmpK b c < 0) : cmpK a c < 0 := cmp_trans _ _ _ h1 h2
/-- What stands in memory while Next goes over the map. -/
structure NxM (w wr : World) (m n r g4 g6 g8 : Nat) (D : DataW Unit) (af : List Nat) (left : Lit → Bool) (cnt : Nat) (L : List Nat) : Prop where
  rg : wr.ranges Try.prog 29 (unitElem (H := Unit)) m r n D left cnt
  bel : Below w.heap.size w wr
  b4 : BlkY wr g4 af
  b6 : BlkY wr g6 (zeros 32)
  b8 : BlkY wr g8 L
  lo : w.heap.size ≤ g8 ∧ g8 < r ∧ g4 < g8 ∧ g6 < g8 ∧ w.heap.size ≤ g6 ∧ m < w.heap.size ∧ r < wr.heap.size
section
variable {w wr w' : World} {m n r g4 g6 g8 cnt cnt' : Nat} {D : DataW Unit} {af L : List Nat} {left left' : Lit → Bool}
theorem NxM.next (h : NxM w wr m n r g4 g6 g8 D af left cnt L) (hr : w'.ranges Try.prog 29 (unitElem (H := Unit)) m r n D left' cnt') (hg : wr.grownBy w' (some r)) : NxM w w' m n r g4 g6 g8 D af left' cnt' L := by
  obtain ⟨l1, l2, l3, l4, l5, l6, l7⟩ := h.lo
  exact ⟨hr, h.bel.grown hg h.bel.size (fun j hj => by cases hj; omega), (hg.block _ (by omega) (by simp; omega)).trans h.b4, (hg.block _ (by omega) (by simp; omega)).trans h.b6, (hg.block _ (by omega) (by simp; omega)).trans h.b8, l1, l2, l3, l4, l5, l6, by have := hg.size; omega⟩
theorem NxM.below (h : NxM w wr m n r g4 g6 g8 D af left cnt L) (hb : Below wr.heap.size wr w') : NxM w w' m n r g4 g6 g8 D af left cnt L := by
  obtain ⟨l1, l2, l3, l4, l5, l6, l7⟩ := h.lo
  exact ⟨h.rg.kept (grown_of_below hb none) (by simp) (by simp), h.bel.trans (hb.mono h.bel.size), h.b4.below hb, h.b6.below hb, h.b8.below hb, l1, l2, l3, l4, l5, l6, by have := hb.size; omega⟩
theorem NxM.set (h : NxM w wr m n r g4 g6 g8 D af left cnt L) (x : List Nat) : NxM w (wr.setRow g8 (u8s x).toArray) m n r g4 g6 g8 D af left cnt x := by
  obtain ⟨l1, l2, l3, l4, l5, l6, l7⟩ := h.lo
  have hg : wr.grownBy (wr.setRow g8 (u8s x).toArray) (some g8) := ⟨rfl, rfl, rfl, by simp, fun i _ hi => setRow_other _ _ _ _ (by intro e; exact hi (by rw [e]))⟩
  exact ⟨h.rg.kept hg (by simp; omega) (by simp; omega), setRow_below h.bel l1 _, (setRow_other _ _ _ _ (by omega)).trans h.b4, (setRow_other _ _ _ _ (by omega)).trans h.b6, setRow_heap wr g8 _ (u8s x).toArray 29 _ h.b8, l1, l2, l3, l4, l5, l6, by rw [Go.size_setRow]; exact l7⟩
end
def NextP (w : World) (D : DataW Unit) (any : Bool) (af : List Nat) (e : Ending) (w' : World) : Prop :=
  ∃ F L, e = .returned (.tuple #[.agg (u8s L).toArray, .bool F]) ∧ NxL D any af (fun _ => false) F L ∧ Below w.heap.size w w'
set_option maxRecDepth 100000 in
set_option maxHeartbeats 4000000 in
theorem next_any (w : World) (s m n : Nat) (D : DataW Unit) (h : SetAt w s m n D) (any : Bool) (af : List Nat) (haf : af.length = 32) (haf2 : ∀ b ∈ af, b < 256) :
    Calls Try.prog 21 #[.pointer (some ⟨s, 0, none⟩), .agg (u8s af).toArray, .bool any] w (NextP w D any af) := by
  have hzk := zeroKy
  have hi32 : Hid ((Try.prog.info? 29).map (·.size) = some 32) := Lib.hid (by kernel_rfl)
  obtain ⟨w1, hw1⟩ : ∃ w1, w1 = ((w.alloc (.cells (u8s af).toArray 29)).alloc (.cells (u8s (zeros 32)).toArray 29)).alloc (.cells (u8s (zeros 32)).toArray 29) := ⟨_, rfl⟩
  have hB1 : Hid (Below w.heap.size w w1) := Lib.hid (by rw [hw1]; exact (((Below.refl _ _).alloc (Nat.le_refl _) _).alloc (by simp) _).alloc (by simp; omega) _)
  have k4 : Hid (BlkY w1 w.heap.size af) := Lib.hid (by
    unfold BlkY
    rw [hw1, heap_alloc_old _ _ (by simp; omega), heap_alloc_old _ _ (by simp)]
    exact heap_alloc_new w _)
  have k6 : Hid (BlkY w1 (w.heap.size + 1) (zeros 32)) := Lib.hid (by
    unfold BlkY
    rw [hw1, heap_alloc_old _ _ (by simp)]
    have := heap_alloc_new (w.alloc (.cells (u8s af).toArray 29)) (.cells (u8s (zeros 32)).toArray 29)
    simpa using this)
  have k8 : Hid (BlkY w1 (w.heap.size + 1 + 1) (zeros 32)) := Lib.hid (by
    unfold BlkY
    rw [hw1]
    have := heap_alloc_new ((w.alloc (.cells (u8s af).toArray 29)).alloc (.cells (u8s (zeros 32)).toArray 29)) (.cells (u8s (zeros 32)).toArray 29)
    simpa using this)
  have hsz1 : Hid (w1.heap.size = w.heap.size + 3) := Lib.hid (by rw [hw1]; simp)
  have h1 : SetAt w1 s m n D := h.below hB1.out (Nat.le_refl _)
  have hm : Hid (m < w.heap.size) := Lib.hid h.2.lt
  have hS1 := Lib.hid h1
  have hT := Lib.hid (there_any w1 s m n D h1)
  have c1 : w1.cell? ⟨s, 0, none⟩ = some (.map (some m)) := by unfold World.cell?; simp [h1.1]
  have haf' := Lib.hid haf
  have haf2' := Lib.hid haf2
  have hw1' := Lib.hid hw1
  rw [hw1] at c1
  clear h h1 haf haf2 hw1
  go_enter Try.func21, Try.ntmps21
  go_wp2_with (first
    | (go_at_call 35; rw [← hw1'.out]; refine hT.out.mono ?_; rintro e w5 ⟨rfl, h5⟩; have h6 := h5.symm; clear h5; subst h6; rw [← hw1'.out] at c1; clear hT)
    | (at_range; refine wpList_range_own _ rfl _ 72 rfl 29 75 lawK mapK (unitElem (H := Unit)) m n D rfl hS1.out.2 ?_; intro w0 hrg0 hg0 hs0; have hrg0' := Lib.hid hrg0; have hg0' := Lib.hid hg0; have hs0' := Lib.hid hs0; clear hrg0 hg0 hs0; go_frame))
  have hR : Hid (w1.heap.size = w.heap.size + 1 + 1 + 1) := Lib.hid (by have := hsz1.out; omega)
  obtain ⟨R, hRR⟩ : ∃ R, w1.heap.size = R := ⟨_, rfl⟩
  have h0 : Hid (NxM w w0 m n R w.heap.size (w.heap.size + 1) (w.heap.size + 1 + 1) D af (Maps.has D) (Maps.size D) (zeros 32)) := Lib.hid (by
    have hb0 : Below w1.heap.size w1 w0 := ⟨hg0'.out.os, hg0'.out.tape, hg0'.out.output, hg0'.out.size, fun i hi => hg0'.out.block i hi (by simp)⟩
    refine ⟨by rw [← hRR]; exact hrg0'.out, hB1.out.trans (hb0.mono hB1.out.size), k4.out.below hb0, k6.out.below hb0, k8.out.below hb0, ?_⟩
    have := hR.out
    have := hm.out
    have := hs0'.out
    omega)
  have hL0 := Lib.hid (NxL.start D any af)
  rw [hRR]
  clear hrg0' hg0' hs0' hRR
  go_loopw [9] (fun f wr => ∃ left cnt F L, f = .bool F ∧ Hid (NxM w wr m n R w.heap.size (w.heap.size + 1) (w.heap.size + 1 + 1) D af left cnt L) ∧ Hid (NxL D any af left F L)) (fun _ wr => wr.rangeLeft m R)
  case atStart => exact ⟨_, _, _, _, rfl, h0, hL0⟩
  case round =>
    clear h0 hL0 k4 k6 k8 c1
    obtain ⟨left, cnt, F, L, rfl, hM, hL⟩ := hrel
    go_wp2_with (at_next; refine wpList_next_ranges _ rfl _ rfl 29 lawK (unitElem (H := Unit)) kv32 (fun _ : Unit => Value.agg #[]) kv32_inv unit_inv m R n D left cnt rfl hM.out.rg ?_ ?_)
    · intro hc0 hl0
      have hLs : Hid ((u8s L).toArray.size = 32) := Lib.hid (by simp [u8s, hL.out.len])
      have hz32 : Hid ((u8s (zeros 32)).toArray.size = (u8s L).toArray.size) := Lib.hid (by simp [u8s, zeros, hL.out.len])
      go_wp2_with (first
        | (refine wpList_load_row rfl 29 _ rfl (w.heap.size + 1 + 1) rfl 29 (u8s L).toArray (0, 0) _ hM.out.b8 Try.underlying29 rfl (by rw [hLs.out]; exact hi32.out) ?_)
        | (refine wpList_store_row rfl 29 _ _ rfl (w.heap.size + 1) (u8s L).toArray rfl rfl 29 _ hM.out.b6 (by rw [hLs.out]; exact hi32.out) hz32.out (all_oneCell_toArray u8s_one) ?_))
      have hres := setRow_heap wr (w.heap.size + 1) _ (u8s L).toArray 29 _ hM.out.b6
      refine bodyPost_ret (res_row_tmp rfl _ _ (w.heap.size + 1) 29 _ (0, 0) _ (.bool F) rfl rfl hres Try.underlying29 rfl (by rw [hLs.out]; exact hi32.out)) rfl ?_
      have hlf : left = fun _ => false := funext hl0
      rw [hlf] at hL
      exact ⟨F, L, rfl, hL.out, setRow_below hM.out.bel (by omega) _⟩
    · intro x kl ya yb wn cnt1 hkey hlk hv hat hrg1 hlt hg1 hs1 hen
      obtain ⟨xs, hx1, hx2⟩ := x
      have hk : Hid (keyOf Try.prog 29 (.agg (u8s xs).toArray) = some kl) := Lib.hid hkey
      have hD : Hid (Maps.has D kl = true) := Lib.hid (Maps.has_true_of_atKey hat)
      have hx1' := Lib.hid hx1
      have hx2' := Lib.hid hx2
      have hM1 := Lib.hid (hM.out.next hrg1 hg1)
      have hlt' : Hid (wn.rangeLeft m R < wr.rangeLeft m R) := Lib.hid (by rw [hrg1.left_eq, hM.out.rg.left_eq]; exact hlt)
      have hrl := Lib.hid hM.out.rg.left_eq
      have hcn := Lib.hid hlt
      have hxs : Hid ((u8s xs).toArray.size = 32) := Lib.hid (by simp [u8s, hx1])
      have hLs : Hid ((u8s L).toArray.size = 32) := Lib.hid (by simp [u8s, hL.out.len])
      have has : Hid ((u8s af).toArray.size = 32) := Lib.hid (by simp [u8s, haf'.out])
      have hzs : Hid ((u8s (zeros 32)).toArray.size = 32) := Lib.hid (by simp [u8s, zeros])
      have hen2 : (Instr.entry (.pointer (some ⟨R, 0, none⟩))).run Try.prog wn = .ok (.tuple #[.agg (u8s xs).toArray, .agg #[]]) wn := hen
      simp only [kv32]
      have hkn := key_new wn xs
      have hkc := Lib.hid hkn.1
      have hMc : Hid (NxM w _ m n R w.heap.size (w.heap.size + 1) (w.heap.size + 1 + 1) D af (fun z => left z && !z.sameKey kl) cnt1 L) := Lib.hid (hM1.out.below hkn.2)
      obtain ⟨C1, hC1⟩ : ∃ C1, cmpK xs af = C1 := ⟨_, rfl⟩
      obtain ⟨C2, hC2⟩ : ∃ C2, cmpK xs L = C2 := ⟨_, rfl⟩
      have q1 : Hid (∀ W, Calls Try.prog 36 #[.agg (u8s xs).toArray, .agg (u8s af).toArray] W fun e w' => e = .returned (.int .i64 C1) ∧ Below W.heap.size W w') := Lib.hid fun W => by
        rw [← hC1]; exact compare_any W xs af hx1 haf'.out hx2 haf2'.out
      have q2 : Hid (∀ W, Calls Try.prog 36 #[.agg (u8s xs).toArray, .agg (u8s L).toArray] W fun e w' => e = .returned (.int .i64 C2) ∧ Below W.heap.size W w') := Lib.hid fun W => by
        rw [← hC2]; exact compare_any W xs L hx1 hL.out.len hx2 hL.out.lt
      have hC1' := Lib.hid hC1
      have hC2' := Lib.hid hC2
      clear hkey hlk hv hat hrg1 hlt hg1 hs1 hen hx1 hx2 hkn hC1 hC2
      cases any
      · by_cases h1 : 0 < C1
        · cases F
          · skip
            go_wp2_with (first
              | (refine wpList_store_row rfl 29 _ _ rfl wn.heap.size (u8s xs).toArray rfl rfl 29 _ (heap_alloc_new wn _) (by rw [hxs.out]; exact hi32.out) (by rw [hxs.out, hzs.out]) (all_oneCell_toArray u8s_one) ?_; generalize ((wn.alloc (.cells (u8s (zeros 32)).toArray 29)).setRow wn.heap.size (u8s xs).toArray) = w5 at hkc hMc ⊢; generalize wn.heap.size = gk at hkc ⊢)
              | (refine wpList_load_row_g rfl 29 _ rfl gk rfl 29 (u8s xs).toArray (0, 0) _ hkc.out Try.underlying29 rfl (by rw [hxs.out]; exact hi32.out) ?_)
              | (refine wpList_load_row_g rfl 29 _ rfl w.heap.size rfl 29 (u8s af).toArray (0, 0) _ hMc.out.b4 Try.underlying29 rfl (by rw [has.out]; exact hi32.out) ?_)
              | (refine wpList_load_row_g rfl 29 _ rfl (w.heap.size + 1 + 1) rfl 29 (u8s L).toArray (0, 0) _ hMc.out.b8 Try.underlying29 rfl (by rw [hLs.out]; exact hi32.out) ?_)
              | (refine wpList_load_row rfl 29 _ rfl gk rfl 29 (u8s xs).toArray (0, 0) _ hkc.out Try.underlying29 rfl (by rw [hxs.out]; exact hi32.out) ?_)
              | (go_at_call 36; refine (q1.out _).mono ?_; rintro e w6 ⟨rfl, b6⟩; have hkc := Lib.hid (hkc.out.below b6); have hMc := Lib.hid (hMc.out.below b6); clear q1 b6)
              | (go_at_call 36; refine (q2.out _).mono ?_; rintro e w7 ⟨rfl, b7⟩; have hkc := Lib.hid (hkc.out.below b7); have hMc := Lib.hid (hMc.out.below b7); clear q2 b7)
              | (refine wpList_store_row rfl 29 _ _ rfl (w.heap.size + 1 + 1) (u8s xs).toArray rfl rfl 29 _ hMc.out.b8 (by rw [hxs.out]; exact hi32.out) (by rw [hLs.out, hxs.out]) (all_oneCell_toArray u8s_one) ?_; have hM9 := Lib.hid (hMc.out.set xs)))
            go_roundw
            case rel => exact ⟨_, _, true, xs, rfl, hM9, Lib.hid (hL.out.take cmpK_trans hx1'.out hx2'.out hk.out hD.out (by simp only [passK, hC1'.out, Bool.false_or]; exact decide_eq_true h1) (Or.inl rfl))⟩
            case measure => rw [hM9.out.rg.left_eq, hrl.out]; exact hcn.out
          · by_cases h2 : C2 < 0
            · skip
              go_wp2_with (first
                | (refine wpList_store_row rfl 29 _ _ rfl wn.heap.size (u8s xs).toArray rfl rfl 29 _ (heap_alloc_new wn _) (by rw [hxs.out]; exact hi32.out) (by rw [hxs.out, hzs.out]) (all_oneCell_toArray u8s_one) ?_; generalize ((wn.alloc (.cells (u8s (zeros 32)).toArray 29)).setRow wn.heap.size (u8s xs).toArray) = w5 at hkc hMc ⊢; generalize wn.heap.size = gk at hkc ⊢)
                | (refine wpList_load_row_g rfl 29 _ rfl gk rfl 29 (u8s xs).toArray (0, 0) _ hkc.out Try.underlying29 rfl (by rw [hxs.out]; exact hi32.out) ?_)
                | (refine wpList_load_row_g rfl 29 _ rfl w.heap.size rfl 29 (u8s af).toArray (0, 0) _ hMc.out.b4 Try.underlying29 rfl (by rw [has.out]; exact hi32.out) ?_)
                | (refine wpList_load_row_g rfl 29 _ rfl (w.heap.size + 1 + 1) rfl 29 (u8s L).toArray (0, 0) _ hMc.out.b8 Try.underlying29 rfl (by rw [hLs.out]; exact hi32.out) ?_)
                | (refine wpList_load_row rfl 29 _ rfl gk rfl 29 (u8s xs).toArray (0, 0) _ hkc.out Try.underlying29 rfl (by rw [hxs.out]; exact hi32.out) ?_)
                | (go_at_call 36; refine (q1.out _).mono ?_; rintro e w6 ⟨rfl, b6⟩; have hkc := Lib.hid (hkc.out.below b6); have hMc := Lib.hid (hMc.out.below b6); clear q1 b6)
                | (go_at_call 36; refine (q2.out _).mono ?_; rintro e w7 ⟨rfl, b7⟩; have hkc := Lib.hid (hkc.out.below b7); have hMc := Lib.hid (hMc.out.below b7); clear q2 b7)
                | (refine wpList_store_row rfl 29 _ _ rfl (w.heap.size + 1 + 1) (u8s xs).toArray rfl rfl 29 _ hMc.out.b8 (by rw [hxs.out]; exact hi32.out) (by rw [hLs.out, hxs.out]) (all_oneCell_toArray u8s_one) ?_; have hM9 := Lib.hid (hMc.out.set xs)))
              go_roundw
              case rel => exact ⟨_, _, true, xs, rfl, hM9, Lib.hid (hL.out.take cmpK_trans hx1'.out hx2'.out hk.out hD.out (by simp only [passK, hC1'.out, Bool.false_or]; exact decide_eq_true h1) (Or.inr (by rw [hC2'.out]; exact h2)))⟩
              case measure => rw [hM9.out.rg.left_eq, hrl.out]; exact hcn.out
            · skip
              go_wp2_with (first
                | (refine wpList_store_row rfl 29 _ _ rfl wn.heap.size (u8s xs).toArray rfl rfl 29 _ (heap_alloc_new wn _) (by rw [hxs.out]; exact hi32.out) (by rw [hxs.out, hzs.out]) (all_oneCell_toArray u8s_one) ?_; generalize ((wn.alloc (.cells (u8s (zeros 32)).toArray 29)).setRow wn.heap.size (u8s xs).toArray) = w5 at hkc hMc ⊢; generalize wn.heap.size = gk at hkc ⊢)
                | (refine wpList_load_row_g rfl 29 _ rfl gk rfl 29 (u8s xs).toArray (0, 0) _ hkc.out Try.underlying29 rfl (by rw [hxs.out]; exact hi32.out) ?_)
                | (refine wpList_load_row_g rfl 29 _ rfl w.heap.size rfl 29 (u8s af).toArray (0, 0) _ hMc.out.b4 Try.underlying29 rfl (by rw [has.out]; exact hi32.out) ?_)
                | (refine wpList_load_row_g rfl 29 _ rfl (w.heap.size + 1 + 1) rfl 29 (u8s L).toArray (0, 0) _ hMc.out.b8 Try.underlying29 rfl (by rw [hLs.out]; exact hi32.out) ?_)
                | (refine wpList_load_row rfl 29 _ rfl gk rfl 29 (u8s xs).toArray (0, 0) _ hkc.out Try.underlying29 rfl (by rw [hxs.out]; exact hi32.out) ?_)
                | (go_at_call 36; refine (q1.out _).mono ?_; rintro e w6 ⟨rfl, b6⟩; have hkc := Lib.hid (hkc.out.below b6); have hMc := Lib.hid (hMc.out.below b6); clear q1 b6)
                | (go_at_call 36; refine (q2.out _).mono ?_; rintro e w7 ⟨rfl, b7⟩; have hkc := Lib.hid (hkc.out.below b7); have hMc := Lib.hid (hMc.out.below b7); clear q2 b7)
                | (refine wpList_store_row rfl 29 _ _ rfl (w.heap.size + 1 + 1) (u8s xs).toArray rfl rfl 29 _ hMc.out.b8 (by rw [hxs.out]; exact hi32.out) (by rw [hLs.out, hxs.out]) (all_oneCell_toArray u8s_one) ?_; have hM9 := Lib.hid (hMc.out.set xs)))
              go_roundw
              case rel => exact ⟨_, _, true, L, rfl, hMc, Lib.hid (hL.out.skip hk.out (Or.inr ⟨rfl, by rw [hC2'.out]; omega⟩))⟩
              case measure => rw [hMc.out.rg.left_eq, hrl.out]; exact hcn.out
        · skip
          have h1d : decide (0 < C1) = false := decide_eq_false h1
          have h1b : C1 ≤ 0 := by omega
          clear q2 h1
          go_wp2_with (first
            | (refine wpList_store_row rfl 29 _ _ rfl wn.heap.size (u8s xs).toArray rfl rfl 29 _ (heap_alloc_new wn _) (by rw [hxs.out]; exact hi32.out) (by rw [hxs.out, hzs.out]) (all_oneCell_toArray u8s_one) ?_; generalize ((wn.alloc (.cells (u8s (zeros 32)).toArray 29)).setRow wn.heap.size (u8s xs).toArray) = w5 at hkc hMc ⊢; generalize wn.heap.size = gk at hkc ⊢)
            | (refine wpList_load_row_g rfl 29 _ rfl gk rfl 29 (u8s xs).toArray (0, 0) _ hkc.out Try.underlying29 rfl (by rw [hxs.out]; exact hi32.out) ?_)
            | (refine wpList_load_row_g rfl 29 _ rfl w.heap.size rfl 29 (u8s af).toArray (0, 0) _ hMc.out.b4 Try.underlying29 rfl (by rw [has.out]; exact hi32.out) ?_)
            | (refine wpList_load_row_g rfl 29 _ rfl (w.heap.size + 1 + 1) rfl 29 (u8s L).toArray (0, 0) _ hMc.out.b8 Try.underlying29 rfl (by rw [hLs.out]; exact hi32.out) ?_)
            | (refine wpList_load_row rfl 29 _ rfl gk rfl 29 (u8s xs).toArray (0, 0) _ hkc.out Try.underlying29 rfl (by rw [hxs.out]; exact hi32.out) ?_)
            | (go_at_call 36; refine (q1.out _).mono ?_; rintro e w6 ⟨rfl, b6⟩; have hkc := Lib.hid (hkc.out.below b6); have hMc := Lib.hid (hMc.out.below b6); clear q1 b6)
            | (go_at_call 36; refine (q2.out _).mono ?_; rintro e w7 ⟨rfl, b7⟩; have hkc := Lib.hid (hkc.out.below b7); have hMc := Lib.hid (hMc.out.below b7); clear q2 b7)
            | (refine wpList_store_row rfl 29 _ _ rfl (w.heap.size + 1 + 1) (u8s xs).toArray rfl rfl 29 _ hMc.out.b8 (by rw [hxs.out]; exact hi32.out) (by rw [hLs.out, hxs.out]) (all_oneCell_toArray u8s_one) ?_; have hM9 := Lib.hid (hMc.out.set xs)))
          go_roundw
          case rel => exact ⟨_, _, F, L, rfl, hMc, Lib.hid (hL.out.skip hk.out (Or.inl (by simp only [passK, hC1'.out, Bool.false_or]; exact decide_eq_false (by omega))))⟩
          case measure => rw [hMc.out.rg.left_eq, hrl.out]; exact hcn.out
      · clear q1
        cases F
        · skip
          go_wp2_with (first
            | (refine wpList_store_row rfl 29 _ _ rfl wn.heap.size (u8s xs).toArray rfl rfl 29 _ (heap_alloc_new wn _) (by rw [hxs.out]; exact hi32.out) (by rw [hxs.out, hzs.out]) (all_oneCell_toArray u8s_one) ?_; generalize ((wn.alloc (.cells (u8s (zeros 32)).toArray 29)).setRow wn.heap.size (u8s xs).toArray) = w5 at hkc hMc ⊢; generalize wn.heap.size = gk at hkc ⊢)
            | (refine wpList_load_row_g rfl 29 _ rfl gk rfl 29 (u8s xs).toArray (0, 0) _ hkc.out Try.underlying29 rfl (by rw [hxs.out]; exact hi32.out) ?_)
            | (refine wpList_load_row_g rfl 29 _ rfl w.heap.size rfl 29 (u8s af).toArray (0, 0) _ hMc.out.b4 Try.underlying29 rfl (by rw [has.out]; exact hi32.out) ?_)
            | (refine wpList_load_row_g rfl 29 _ rfl (w.heap.size + 1 + 1) rfl 29 (u8s L).toArray (0, 0) _ hMc.out.b8 Try.underlying29 rfl (by rw [hLs.out]; exact hi32.out) ?_)
            | (refine wpList_load_row rfl 29 _ rfl gk rfl 29 (u8s xs).toArray (0, 0) _ hkc.out Try.underlying29 rfl (by rw [hxs.out]; exact hi32.out) ?_)
            | (go_at_call 36; refine (q1.out _).mono ?_; rintro e w6 ⟨rfl, b6⟩; have hkc := Lib.hid (hkc.out.below b6); have hMc := Lib.hid (hMc.out.below b6); clear q1 b6)
            | (go_at_call 36; refine (q2.out _).mono ?_; rintro e w7 ⟨rfl, b7⟩; have hkc := Lib.hid (hkc.out.below b7); have hMc := Lib.hid (hMc.out.below b7); clear q2 b7)
            | (refine wpList_store_row rfl 29 _ _ rfl (w.heap.size + 1 + 1) (u8s xs).toArray rfl rfl 29 _ hMc.out.b8 (by rw [hxs.out]; exact hi32.out) (by rw [hLs.out, hxs.out]) (all_oneCell_toArray u8s_one) ?_; have hM9 := Lib.hid (hMc.out.set xs)))
          go_roundw
          case rel => exact ⟨_, _, true, xs, rfl, hM9, Lib.hid (hL.out.take cmpK_trans hx1'.out hx2'.out hk.out hD.out (by simp [passK]) (Or.inl rfl))⟩
          case measure => rw [hM9.out.rg.left_eq, hrl.out]; exact hcn.out
        · by_cases h2 : C2 < 0
          · skip
            go_wp2_with (first
              | (refine wpList_store_row rfl 29 _ _ rfl wn.heap.size (u8s xs).toArray rfl rfl 29 _ (heap_alloc_new wn _) (by rw [hxs.out]; exact hi32.out) (by rw [hxs.out, hzs.out]) (all_oneCell_toArray u8s_one) ?_; generalize ((wn.alloc (.cells (u8s (zeros 32)).toArray 29)).setRow wn.heap.size (u8s xs).toArray) = w5 at hkc hMc ⊢; generalize wn.heap.size = gk at hkc ⊢)
              | (refine wpList_load_row_g rfl 29 _ rfl gk rfl 29 (u8s xs).toArray (0, 0) _ hkc.out Try.underlying29 rfl (by rw [hxs.out]; exact hi32.out) ?_)
              | (refine wpList_load_row_g rfl 29 _ rfl w.heap.size rfl 29 (u8s af).toArray (0, 0) _ hMc.out.b4 Try.underlying29 rfl (by rw [has.out]; exact hi32.out) ?_)
              | (refine wpList_load_row_g rfl 29 _ rfl (w.heap.size + 1 + 1) rfl 29 (u8s L).toArray (0, 0) _ hMc.out.b8 Try.underlying29 rfl (by rw [hLs.out]; exact hi32.out) ?_)
              | (refine wpList_load_row rfl 29 _ rfl gk rfl 29 (u8s xs).toArray (0, 0) _ hkc.out Try.underlying29 rfl (by rw [hxs.out]; exact hi32.out) ?_)
              | (go_at_call 36; refine (q1.out _).mono ?_; rintro e w6 ⟨rfl, b6⟩; have hkc := Lib.hid (hkc.out.below b6); have hMc := Lib.hid (hMc.out.below b6); clear q1 b6)
              | (go_at_call 36; refine (q2.out _).mono ?_; rintro e w7 ⟨rfl, b7⟩; have hkc := Lib.hid (hkc.out.below b7); have hMc := Lib.hid (hMc.out.below b7); clear q2 b7)
              | (refine wpList_store_row rfl 29 _ _ rfl (w.heap.size + 1 + 1) (u8s xs).toArray rfl rfl 29 _ hMc.out.b8 (by rw [hxs.out]; exact hi32.out) (by rw [hLs.out, hxs.out]) (all_oneCell_toArray u8s_one) ?_; have hM9 := Lib.hid (hMc.out.set xs)))
            go_roundw
            case rel => exact ⟨_, _, true, xs, rfl, hM9, Lib.hid (hL.out.take cmpK_trans hx1'.out hx2'.out hk.out hD.out (by simp [passK]) (Or.inr (by rw [hC2'.out]; exact h2)))⟩
            case measure => rw [hM9.out.rg.left_eq, hrl.out]; exact hcn.out
          · skip
            go_wp2_with (first
              | (refine wpList_store_row rfl 29 _ _ rfl wn.heap.size (u8s xs).toArray rfl rfl 29 _ (heap_alloc_new wn _) (by rw [hxs.out]; exact hi32.out) (by rw [hxs.out, hzs.out]) (all_oneCell_toArray u8s_one) ?_; generalize ((wn.alloc (.cells (u8s (zeros 32)).toArray 29)).setRow wn.heap.size (u8s xs).toArray) = w5 at hkc hMc ⊢; generalize wn.heap.size = gk at hkc ⊢)
              | (refine wpList_load_row_g rfl 29 _ rfl gk rfl 29 (u8s xs).toArray (0, 0) _ hkc.out Try.underlying29 rfl (by rw [hxs.out]; exact hi32.out) ?_)
              | (refine wpList_load_row_g rfl 29 _ rfl w.heap.size rfl 29 (u8s af).toArray (0, 0) _ hMc.out.b4 Try.underlying29 rfl (by rw [has.out]; exact hi32.out) ?_)
              | (refine wpList_load_row_g rfl 29 _ rfl (w.heap.size + 1 + 1) rfl 29 (u8s L).toArray (0, 0) _ hMc.out.b8 Try.underlying29 rfl (by rw [hLs.out]; exact hi32.out) ?_)
              | (refine wpList_load_row rfl 29 _ rfl gk rfl 29 (u8s xs).toArray (0, 0) _ hkc.out Try.underlying29 rfl (by rw [hxs.out]; exact hi32.out) ?_)
              | (go_at_call 36; refine (q1.out _).mono ?_; rintro e w6 ⟨rfl, b6⟩; have hkc := Lib.hid (hkc.out.below b6); have hMc := Lib.hid (hMc.out.below b6); clear q1 b6)
              | (go_at_call 36; refine (q2.out _).mono ?_; rintro e w7 ⟨rfl, b7⟩; have hkc := Lib.hid (hkc.out.below b7); have hMc := Lib.hid (hMc.out.below b7); clear q2 b7)
              | (refine wpList_store_row rfl 29 _ _ rfl (w.heap.size + 1 + 1) (u8s xs).toArray rfl rfl 29 _ hMc.out.b8 (by rw [hxs.out]; exact hi32.out) (by rw [hLs.out, hxs.out]) (all_oneCell_toArray u8s_one) ?_; have hM9 := Lib.hid (hMc.out.set xs)))
            go_roundw
            case rel => exact ⟨_, _, true, L, rfl, hMc, Lib.hid (hL.out.skip hk.out (Or.inr ⟨rfl, by rw [hC2'.out]; omega⟩))⟩
            case measure => rw [hMc.out.rg.left_eq, hrl.out]; exact hcn.out
end Go.Proofs.Ytgjokkjmljdmbaa

/- FrameExact: goes: what stands while All is gone over. -/
import Derived.Test.YtjofpjioaiamhaaFxRd
import Derived.Test.YtjofpjioaiamhaaFxAf
namespace Go.Proofs.Ytjofpjioaiamhaa
open Go.RowKit Go.Shelf

/-- What a round meets: the next record. -/
theorem Recs.next {l : List Nat} {pre : List (Nat × List Nat)} {p : Nat} (h : Recs l pre p) (he : (unpF (l.drop p)).1 = 0) : pre.length < (allL l).length ∧ (allL l)[pre.length]? = some (p, (unpF (l.drop p)).2.2) := by
  have h1 := h.le
  have h2 := h.go (l.length + 1 - pre.length)
  rw [show pre.length + (l.length + 1 - pre.length) = l.length + 1 by omega] at h2
  obtain ⟨f, hf⟩ : ∃ f, l.length + 1 - pre.length = f + 1 := ⟨l.length - pre.length, by omega⟩
  have e : allL l = pre ++ (goF l (f + 1) p).1 := by rw [allL, h2, hf]
  have e2 : (goF l (f + 1) p).1 = (p, (unpF (l.drop p)).2.2) :: (goF l f (p + (unpF (l.drop p)).2.1)).1 := by
    rw [goF, if_pos he]
  rw [e, e2]
  exact ⟨by simp, by simp⟩
theorem allL_len (l : List Nat) : 10 * (allL l).length ≤ l.length := by
  have := (allL_recs l).le
  omega

theorem own_ne {W : World} {B e size n c k : Nat} {A : Option Addr} {xs : List Value} (h : Own W B e size A n c xs) {cs : Array Value} {t : TypeId} {f : Nat × Nat} (hk : W.heap[k]? = some (.cells cs t f)) (ht : t ≠ e) : blockOf A ≠ some k := fun e1 => by
  rcases h.2 with ⟨hv, _⟩ | ⟨g, cap, cur, hv, _, hg, _⟩
  · injection hv with hA
    rw [hA] at e1
    cases e1
  · injection hv with hA
    rw [hA] at e1
    have e2 : g = k := by injection e1
    subst e2
    rw [hg] at hk
    injection hk with hk
    injection hk with _ h2
    exact ht h2.symm
theorem own_ne_def {W : World} {B e size n c k : Nat} {A : Option Addr} {xs : List Value} (h : Own W B e size A n c xs) {l : Option (List Deferred)} (hk : W.heap[k]? = some (.deferred l)) : blockOf A ≠ some k := fun e1 => by
  rcases h.2 with ⟨hv, _⟩ | ⟨g, cap, cur, hv, _, hg, _⟩
  · injection hv with hA
    rw [hA] at e1
    cases e1
  · injection hv with hA
    rw [hA] at e1
    have e2 : g = k := by injection e1
    subst e2
    rw [hg] at hk
    cases hk
theorem set_grownBy (W : World) (b j : Nat) (v : Value) : W.grownBy (W.setCell ⟨b, j, none⟩ v) (some b) :=
  ⟨rfl, rfl, rfl, by simp [World.setCell], fun k _ hk => heap_setCell_other W _ k _ (fun e => hk (by rw [e]))⟩

/-- What stands between two rounds: k lists were handed over in this one; zs: the lists so far. -/
structure GoI (w7 : World) (gI : Nat) (Ds : List Nat) (k : Nat) (zs : List In) (AL : Option Addr) (cL : Nat) (W : World) : Prop where
  bel : Below w7.heap.size w7 W
  ok : W.heap[w7.heap.size]? = some (.cells #[.bool true] 4 (0, 0))
  li : W.heap[w7.heap.size + 1]? = some (.cells #[.slice AL zs.length cL] 43 (0, 0))
  own : Own W (w7.heap.size + 2) 23 1 AL zs.length cL (zs.map In.v)
  each : ∀ x ∈ zs, Own W (w7.heap.size + 2) 5 1 x.A x.l.length x.c (u8s x.l)
  len : ∀ x ∈ zs, x.l.length ≤ 65536
  dis : zs.Pairwise fun x y => Dis x.A y.A
  i : W.heap[gI]? = some (.cells #[.int .i64 (k : Nat)] 3 (0, 0))
  hI : w7.heap.size + 2 ≤ gI
  ds : ∀ D ∈ Ds, W.heap[D]? = some (.deferred (some []))
section
variable {w7 W W' : World} {gI : Nat} {Ds : List Nat} {k : Nat} {zs : List In} {AL : Option Addr} {cL : Nat}
theorem lt_of_heap {W : World} {k : Nat} {o : Obj} (h : W.heap[k]? = some o) : k < W.heap.size := (Array.getElem?_eq_some_iff.1 h).1
theorem GoI.keep (h : GoI w7 gI Ds k zs AL cL W) (hb : Below W.heap.size W W') : GoI w7 gI Ds k zs AL cL W' :=
  ⟨h.bel.trans (hb.mono h.bel.size), (hb.block _ (lt_of_heap h.ok)).trans h.ok, (hb.block _ (lt_of_heap h.li)).trans h.li, h.own.below hb fun j hj => (h.own.lt j hj).2, fun x hx => (h.each x hx).below hb fun j hj => ((h.each x hx).lt j hj).2, h.len, h.dis, (hb.block _ (lt_of_heap h.i)).trans h.i, h.hI, fun D hD => (hb.block _ (lt_of_heap (h.ds D hD))).trans (h.ds D hD)⟩
theorem GoI.puts {D : Nat} (h : GoI w7 gI Ds k zs AL cL W) (hp : Puts D W W') (h1 : w7.heap.size ≤ D) (h3 : ∀ E ∈ Ds, E < D) : GoI w7 gI Ds k zs AL cL W' :=
  ⟨below_puts h.bel hp h1, hp.cells _ _ _ _ h.ok, hp.cells _ _ _ _ h.li, h.own.puts hp, fun x hx => (h.each x hx).puts hp, h.len, h.dis, hp.cells _ _ _ _ h.i, h.hI, fun E hE => (hp.bel.block _ (h3 E hE)).trans (h.ds E hE)⟩
theorem GoI.cellOk (h : GoI w7 gI Ds k zs AL cL W) : W.cell? ⟨w7.heap.size, 0, none⟩ = some (.bool true) ∧ W.frozen? ⟨w7.heap.size, 0, none⟩ = false := ⟨cell_of_row _ _ 0 _ _ _ h.ok, frozen_of_row _ _ 0 _ _ h.ok⟩
theorem GoI.cellLi (h : GoI w7 gI Ds k zs AL cL W) : W.cell? ⟨w7.heap.size + 1, 0, none⟩ = some (.slice AL zs.length cL) ∧ W.frozen? ⟨w7.heap.size + 1, 0, none⟩ = false := ⟨cell_of_row _ _ 0 _ _ _ h.li, frozen_of_row _ _ 0 _ _ h.li⟩
theorem GoI.cellI (h : GoI w7 gI Ds k zs AL cL W) : W.cell? ⟨gI, 0, none⟩ = some (.int .i64 (k : Nat)) ∧ W.frozen? ⟨gI, 0, none⟩ = false := ⟨cell_of_row _ _ 0 _ _ _ h.i, frozen_of_row _ _ 0 _ _ h.i⟩
/-- One block is turned that is none of those. -/
theorem GoI.set (h : GoI w7 gI Ds k zs AL cL W) {g : Nat} {cs : Array Value} {t : TypeId} (hg : W.heap[g]? = some (.cells cs t (0, 0))) (v : Value) (h1 : w7.heap.size ≤ g) (t1 : t ≠ 5) (t2 : t ≠ 23) :
    Below w7.heap.size w7 (W.setCell ⟨g, 0, none⟩ v) ∧ Own (W.setCell ⟨g, 0, none⟩ v) (w7.heap.size + 2) 23 1 AL zs.length cL (zs.map In.v) ∧ (∀ x ∈ zs, Own (W.setCell ⟨g, 0, none⟩ v) (w7.heap.size + 2) 5 1 x.A x.l.length x.c (u8s x.l)) ∧
      (∀ D ∈ Ds, (W.setCell ⟨g, 0, none⟩ v).heap[D]? = some (.deferred (some []))) ∧ (∀ k, k ≠ g → (W.setCell ⟨g, 0, none⟩ v).heap[k]? = W.heap[k]?) ∧ (W.setCell ⟨g, 0, none⟩ v).heap[g]? = some (.cells (cs.set! 0 v) t (0, 0)) := by
  have hG := set_grownBy W g 0 v
  have ho : ∀ k, k ≠ g → (W.setCell ⟨g, 0, none⟩ v).heap[k]? = W.heap[k]? := fun k hk => heap_setCell_other W _ k _ hk
  refine ⟨h.bel.setCell (p := ⟨g, 0, none⟩) h1 _, h.own.kept hG fun k hk e => own_ne h.own hg t2 (by rw [hk]; exact e.symm), fun x hx => (h.each x hx).kept hG fun k hk e => own_ne (h.each x hx) hg t1 (by rw [hk]; exact e.symm), fun D hD => (ho D fun e => ?_).trans (h.ds D hD), ho, heap_setCell_same W g 0 cs t v hg⟩
  have := h.ds D hD
  rw [e, hg] at this
  cases this
theorem GoI.setOk (h : GoI w7 gI Ds k zs AL cL W) : GoI w7 gI Ds k zs AL cL (W.setCell ⟨w7.heap.size, 0, none⟩ (.bool true)) := by
  obtain ⟨h1, h2, h3, h4, h5, h6⟩ := h.set h.ok (.bool true) (Nat.le_refl _) (by decide) (by decide)
  have := h.hI
  exact ⟨h1, h6, (h5 _ (by omega)).trans h.li, h2, h3, h.len, h.dis, (h5 _ (by omega)).trans h.i, h.hI, h4⟩
theorem GoI.inc (h : GoI w7 gI Ds k zs AL cL W) (k' : Nat) : GoI w7 gI Ds k' zs AL cL (W.setCell ⟨gI, 0, none⟩ (.int .i64 (k' : Nat))) := by
  have hi := h.hI
  obtain ⟨h1, h2, h3, h4, h5, h6⟩ := h.set h.i (.int .i64 (k' : Nat)) (by omega) (by decide) (by decide)
  exact ⟨h1, (h5 _ (by omega)).trans h.ok, (h5 _ (by omega)).trans h.li, h2, h3, h.len, h.dis, h6, h.hI, h4⟩
theorem GoI.app (h : GoI w7 gI Ds k zs AL cL W) {A' : Option Addr} {c' : Nat} {x : In} (hat : AppAt W W' AL A') (ho : Own W' (w7.heap.size + 2) 23 1 A' (zs.length + 1) c' (zs.map In.v ++ [x.v]))
    (hx : Own W (w7.heap.size + 2) 5 1 x.A x.l.length x.c (u8s x.l)) (hl : x.l.length ≤ 65536) (hd : ∀ y ∈ zs, Dis y.A x.A) :
    GoI w7 gI Ds k (zs ++ [x]) A' c' (W'.setCell ⟨w7.heap.size + 1, 0, none⟩ (.slice A' (zs.length + 1) c')) := by
  have hs := h.bel.size
  have hi := h.hI
  have hlt := lt_of_heap h.li
  have hg := hat.grown
  have hb : Below (w7.heap.size + 2) W W' := hat.below h.own (by omega)
  have hli : W'.heap[w7.heap.size + 1]? = some (.cells #[.slice AL zs.length cL] 43 (0, 0)) := (hb.block _ (by omega)).trans h.li
  have hne : ∀ {k : Nat} {cs : Array Value} {t : TypeId} {f : Nat × Nat}, W.heap[k]? = some (.cells cs t f) → t ≠ 23 → W'.heap[k]? = some (.cells cs t f) := fun {k cs t f} hk ht =>
    (hg.block k (lt_of_heap hk) (fun e => own_ne h.own hk ht e.symm)).trans hk
  have h5 : ∀ k, k ≠ w7.heap.size + 1 → (W'.setCell ⟨w7.heap.size + 1, 0, none⟩ (.slice A' (zs.length + 1) c')).heap[k]? = W'.heap[k]? := fun k hk => heap_setCell_other W' _ k _ hk
  have hG := set_grownBy W' (w7.heap.size + 1) 0 (.slice A' (zs.length + 1) c')
  have hlow : ∀ {e n c : Nat} {A : Option Addr} {xs : List Value}, Own W' (w7.heap.size + 2) e 1 A n c xs → Own (W'.setCell ⟨w7.heap.size + 1, 0, none⟩ (.slice A' (zs.length + 1) c')) (w7.heap.size + 2) e 1 A n c xs := fun h => h.setFar (p := ⟨w7.heap.size + 1, 0, none⟩) (Nat.lt_succ_self _) _
  have hu := fun (y : In) (hy : Own W (w7.heap.size + 2) 5 1 y.A y.l.length y.c (u8s y.l)) => hlow (hat.other hy (h.own.unlike hy (by decide)))
  exact {
    bel := (h.bel.trans (hb.mono (by omega))).setCell (p := ⟨w7.heap.size + 1, 0, none⟩) (Nat.le_succ _) _
    ok := (h5 _ (by omega)).trans (hne h.ok (by decide))
    li := by
      have := heap_setCell_same W' _ 0 _ _ (.slice A' (zs.length + 1) c') hli
      rw [List.length_append]
      exact this
    own := by
      rw [List.length_append, List.map_append]
      exact hlow ho
    each := fun y hy => by
      rcases List.mem_append.1 hy with hy | hy
      · exact hu y (h.each y hy)
      · simp at hy
        subst hy
        exact hu _ hx
    len := fun y hy => by
      rcases List.mem_append.1 hy with hy | hy
      · exact h.len y hy
      · simp at hy
        subst hy
        exact hl
    dis := List.pairwise_append.2 ⟨h.dis, by simp, fun y hy z hz => by
      simp at hz
      subst hz
      exact hd y hy⟩
    i := (h5 _ (by omega)).trans (hne h.i (by decide))
    hI := h.hI
    ds := fun D hD => by
      have hd := h.ds D hD
      refine (h5 D fun e => ?_).trans ((hg.block D (lt_of_heap hd) (fun e => own_ne_def h.own hd e.symm)).trans hd)
      rw [e, h.li] at hd
      cases hd }
end

/-- What stands behind both rounds. -/
structure FinI (K : Nat) (Ds : List Nat) (zs : List In) (AL : Option Addr) (cL : Nat) (W : World) : Prop where
  ok : W.heap[K]? = some (.cells #[.bool true] 4 (0, 0))
  li : W.heap[K + 1]? = some (.cells #[.slice AL zs.length cL] 43 (0, 0))
  own : Own W (K + 2) 23 1 AL zs.length cL (zs.map In.v)
  each : ∀ x ∈ zs, Own W (K + 2) 5 1 x.A x.l.length x.c (u8s x.l)
  len : ∀ x ∈ zs, x.l.length ≤ 65536
  dis : zs.Pairwise fun x y => Dis x.A y.A
  ds : ∀ D ∈ Ds, W.heap[D]? = some (.deferred (some []))
  hds : ∀ D ∈ Ds, K ≤ D
section
variable {K : Nat} {W W' : World} {Ds : List Nat} {zs : List In} {AL : Option Addr} {cL : Nat}
theorem FinI.cellOk (h : FinI K Ds zs AL cL W) : W.cell? ⟨K, 0, none⟩ = some (.bool true) := cell_of_row _ _ 0 _ _ _ h.ok
theorem FinI.cellLi (h : FinI K Ds zs AL cL W) : W.cell? ⟨K + 1, 0, none⟩ = some (.slice AL zs.length cL) := cell_of_row _ _ 0 _ _ _ h.li
theorem FinI.below (h : FinI K Ds zs AL cL W) (hb : Below W.heap.size W W') : FinI K Ds zs AL cL W' :=
  ⟨(hb.block _ (lt_of_heap h.ok)).trans h.ok, (hb.block _ (lt_of_heap h.li)).trans h.li, h.own.below hb fun j hj => (h.own.lt j hj).2, fun x hx => (h.each x hx).below hb fun j hj => ((h.each x hx).lt j hj).2, h.len, h.dis, fun D hD => (hb.block _ (lt_of_heap (h.ds D hD))).trans (h.ds D hD), h.hds⟩
theorem FinI.other (h : FinI K Ds zs AL cL W) {g : Nat} (hg : W.grownBy W' (some g)) (hK : g < K) : FinI K Ds zs AL cL W' := by
  have hb : ∀ k, K ≤ k → k < W.heap.size → W'.heap[k]? = W.heap[k]? := fun k h1 h2 => hg.block k h2 (by intro e; injection e; omega)
  have hne : ∀ {e n c : Nat} {A : Option Addr} {xs : List Value}, Own W (K + 2) e 1 A n c xs → Own W' (K + 2) e 1 A n c xs := fun h => h.kept hg fun k hk e => by
    have := (h.lt k hk).1
    injection e
    omega
  exact ⟨(hb _ (Nat.le_refl _) (lt_of_heap h.ok)).trans h.ok, (hb _ (Nat.le_succ _) (lt_of_heap h.li)).trans h.li, hne h.own, fun x hx => hne (h.each x hx), h.len, h.dis, fun D hD => (hb _ (h.hds D hD) (lt_of_heap (h.ds D hD))).trans (h.ds D hD), h.hds⟩
theorem FinI.mark (h : FinI K Ds zs AL cL W) {D : Nat} (hD : W.heap[D]? = some (.deferred (some []))) (hK : K ≤ D) : FinI K (D :: Ds) zs AL cL W :=
  ⟨h.ok, h.li, h.own, h.each, h.len, h.dis, fun E hE => by
    rcases List.mem_cons.1 hE with rfl | hE
    · exact hD
    · exact h.ds E hE, fun E hE => by
    rcases List.mem_cons.1 hE with rfl | hE
    · exact hK
    · exact h.hds E hE⟩
theorem FinI.calls (h : FinI K Ds zs AL cL W) (hm : zs.length ≤ 1048576) : Calls Try.prog 31 #[.slice AL zs.length cL] W fun e w' => e = .returned (.bool true) ∧ Below (K + 2) W w' ∧ KeepsOthers W w' := by
  have hz : ∀ i, zAt zs i ∈ zs ∨ zAt zs i = In.none_ := fun i => by
    unfold zAt
    rcases Nat.lt_or_ge i zs.length with h | h
    · rw [List.getElem?_eq_getElem h]
      exact .inl (List.getElem_mem h)
    · rw [List.getElem?_eq_none h]
      exact .inr rfl
  have hO' : ∀ i, Own W (K + 2) 5 1 (zAt zs i).A (zAt zs i).l.length (zAt zs i).c (u8s (zAt zs i).l) := fun i => by
    rcases hz i with e | e
    · exact h.each _ e
    · rw [e]
      exact Own.nil _ _ _ _
  have hDD : ∀ i j, i < j → Dis (zAt zs i).A (zAt zs j).A := fun i j hij => by
    rcases Nat.lt_or_ge j zs.length with hj | hj
    · have hi : i < zs.length := by omega
      have h1 := List.pairwise_iff_getElem.1 h.dis i j hi hj hij
      have e1 : zAt zs i = zs[i] := by unfold zAt; rw [List.getElem?_eq_getElem hi]; rfl
      have e2 : zAt zs j = zs[j] := by unfold zAt; rw [List.getElem?_eq_getElem hj]; rfl
      rw [e1, e2]
      exact h1
    · have e2 : zAt zs j = In.none_ := by unfold zAt; rw [List.getElem?_eq_none hj]; rfl
      rw [e2]
      intro k _ h2
      cases h2
  refine own_full zs AL zs.length cL (K + 2) W rfl hm ?_ hO' (fun i => ?_) (fun i j hij => ?_) (fun i => h.own.unlike (hO' i) (by decide)) (by have := lt_of_heap h.li; omega)
  · have hr := h.own.rd
    rw [Nat.mul_one] at hr
    exact hr.congr fun j hj => by
      have e : zAt zs j = zs[j] := by unfold zAt; rw [List.getElem?_eq_getElem hj]; rfl
      rw [e]
      simp [hj]
  · rcases hz i with e | e
    · exact Nat.le_trans (h.len _ e) (by decide)
    · rw [e]
      exact Nat.zero_le _
  · rcases Nat.lt_trichotomy i j with h1 | h1 | h1
    · exact hDD i j h1
    · exact absurd h1 hij
    · exact (hDD j i h1).symm
end
theorem GoI.fin {w7 W : World} {gI : Nat} {Ds : List Nat} {k : Nat} {zs : List In} {AL : Option Addr} {cL : Nat} (h : GoI w7 gI Ds k zs AL cL W) (hd : ∀ D ∈ Ds, w7.heap.size ≤ D) : FinI w7.heap.size Ds zs AL cL W :=
  ⟨h.ok, h.li, h.own, h.each, h.len, h.dis, h.ds, hd⟩
/-- A function that holds several such loops. -/
theorem leaves_marksF {P : Program} {fn : Func} {tmps : Array Value} {R : Ending → World → Prop} {v : Value} : ∀ (Ds : List Nat) (w : World), Ds.Nodup → (∀ D ∈ Ds, w.heap[D]? = some (.deferred (some []))) →
    (∀ W, (results fn tmps).run P W = .ok v W) → (∀ W, (∀ lo, (∀ D ∈ Ds, lo ≤ D) → Puts lo w W) → R (.returned v) W) → LeavesInM Fence.wide 0 P fn tmps R (Ds.map mark) .returning w
  | [], w, _, _, hr, h => ⟨v, hr w, h w fun lo _ => ⟨Below.refl _ _, fun _ _ _ _ hk => hk⟩⟩
  | D :: Ds, w, hn, hD, hr, h => by
    obtain ⟨h1, h2⟩ := List.nodup_cons.1 hn
    have hd := hD D (by simp)
    refine ⟨by simp, .inl ⟨_, _, rfl, run_takeDeferred hd, leaves_marksF Ds _ h2 (fun E hE => ?_) hr fun W hW => h W fun lo hlo => ?_⟩⟩
    · exact (World.putObj_heap_other (by rintro rfl; exact h1 hE)).trans (hD E (by simp [hE]))
    · exact (Puts.putObj _ hd rfl (hlo D (by simp))).trans (hW lo fun E hE => hlo E (by simp [hE]))
end Go.Proofs.Ytjofpjioaiamhaa

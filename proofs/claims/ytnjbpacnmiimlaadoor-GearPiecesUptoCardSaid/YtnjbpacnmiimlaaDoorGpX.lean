/- GearPieces: the law's walk. -/
import Derived.Test.YtnjbpacnmiimlaaDoorGpT
import Derived.Test.YtnjbpacnmiimlaaDoorGSame
import Derived.Stop.RegionWithIn
import Derived.Deep.CutRange
namespace Go.Proofs.YtnjbpacnmiimlaaDoor
open Go.RowKit Go.Shelf
set_option linter.unusedVariables false
attribute [local go_sem] Oper.semAt_some

theorem gp_loadVar_bool {w : World} {a : Addr} {b : Bool} (h : w.cell? a = some (.bool b)) : (loadVar 4 a).run Tryd.prog w = .ok (.bool b) w := by
  simp [loadVar, go_sem, h]
theorem quiet_d {P : Program} {f : FuncId} {args : Array Value} {w : World} {n : Nat} {v : Value} (h : Calls P f args (w.drewN n) fun e w' => e = .returned v ∧ ∃ m, w' = (w.drewN n).drewN m) :
    Calls P f args (w.drewN n) fun e w'' => e = .returned v ∧ ∃ m, w'' = w.drewN m :=
  h.mono fun _ _ ⟨he, m, hm⟩ => ⟨he, n + m, by rw [hm, World.drewN_drewN]⟩
/-- The ways through a region end alike: what they leave is said by the first. -/
theorem wpIn_meet {F : Fence} {n : Nat} {P : Program} {c : Code} {Q : Exit → Act → World → Prop} {a : Act} {w : World} {A : Act} {W : World} (hreg : c.wpIn F n P (fun e a' w' => e = .normal ∧ a' = A ∧ w' = W) a w) (hrest : Q .normal A W) : c.wpIn F n P Q a w :=
  wpIn_mono hreg fun e a' w' h => by obtain ⟨rfl, rfl, rfl⟩ := h; exact hrest
theorem KpI.mark {K : Nat} {W : World} {Ds : List Nat} {zs : List Pt} {AK : Option Addr} {cK : Nat} (h : KpI K Ds zs AK cK W) {D : Nat} (hD : W.heap[D]? = some (.deferred (some []))) : KpI K (D :: Ds) zs AK cK W :=
  ⟨h.ke, h.own, h.each, h.len, h.dis, fun E hE => by
    rcases List.mem_cons.1 hE with rfl | hE
    · exact hD
    · exact h.ds E hE⟩
theorem mid_of2 {lo B K : Nat} {w7 W1 W2 : World} (h1 : Below K w7 W1) (h2 : Below K w7 W2) (hs : W1.heap.size ≤ W2.heap.size) (hB : B ≤ K) : Mid lo B W1 W2 :=
  ⟨hs, fun k _ hk => (h2.block k (by omega)).trans (h1.block k (by omega)).symm⟩
/-- What stands while one round's pieces are gone through: K: the heap ahead of the variable kept. -/
structure GpI (V : World) (gR gA gN : Nat) (Ds : List Nat) (r p k : Nat) (zs : List Pt) (AK : Option Addr) (cK : Nat) (W : World) : Prop where
  bel : Below V.heap.size V W
  k_ : KpI V.heap.size Ds zs AK cK W
  rd : W.heap[gR]? = some (.cells #[.int .i64 (r : Nat)] 3 (0, 0))
  at_ : W.heap[gA]? = some (.cells #[.int .i64 (p : Nat)] 3 (0, 0))
  n_ : W.heap[gN]? = some (.cells #[.int .i64 (k : Nat)] 3 (0, 0))
  h1 : V.heap.size < gR
  h2 : gR < gA
  h3 : gA < gN
section
variable {V W W' : World} {gR gA gN : Nat} {Ds : List Nat} {r p k : Nat} {zs : List Pt} {AK : Option Addr} {cK : Nat}
theorem GpI.keep (h : GpI V gR gA gN Ds r p k zs AK cK W) (hb : Below W.heap.size W W') : GpI V gR gA gN Ds r p k zs AK cK W' :=
  ⟨h.bel.trans (hb.mono h.bel.size), h.k_.keep hb, (hb.block _ (lt_of_heap h.rd)).trans h.rd, (hb.block _ (lt_of_heap h.at_)).trans h.at_, (hb.block _ (lt_of_heap h.n_)).trans h.n_, h.h1, h.h2, h.h3⟩
theorem GpI.puts {D : Nat} (h : GpI V gR gA gN Ds r p k zs AK cK W) (hp : Puts D W W') (h1 : V.heap.size ≤ D) (h3 : ∀ E ∈ Ds, E < D) : GpI V gR gA gN Ds r p k zs AK cK W' :=
  ⟨below_puts h.bel hp h1, h.k_.puts hp h3, hp.cells _ _ _ _ h.rd, hp.cells _ _ _ _ h.at_, hp.cells _ _ _ _ h.n_, h.h1, h.h2, h.h3⟩
theorem GpI.drew (h : GpI V gR gA gN Ds r p k zs AK cK W) (m : Nat) : GpI V gR gA gN Ds r p k zs AK cK (W.drewN m) := h.keep (below_drewN (Below.refl _ _) m)
theorem GpI.cells (h : GpI V gR gA gN Ds r p k zs AK cK W) : W.cell? ⟨gR, 0, none⟩ = some (.int .i64 (r : Nat)) ∧ W.cell? ⟨gA, 0, none⟩ = some (.int .i64 (p : Nat)) ∧ W.cell? ⟨gN, 0, none⟩ = some (.int .i64 (k : Nat)) ∧
    W.frozen? ⟨gR, 0, none⟩ = false ∧ W.frozen? ⟨gA, 0, none⟩ = false ∧ W.frozen? ⟨gN, 0, none⟩ = false :=
  ⟨cell_of_row _ _ 0 _ _ _ h.rd, cell_of_row _ _ 0 _ _ _ h.at_, cell_of_row _ _ 0 _ _ _ h.n_, frozen_of_row _ _ 0 _ _ h.rd, frozen_of_row _ _ 0 _ _ h.at_, frozen_of_row _ _ 0 _ _ h.n_⟩
theorem GpI.app (h : GpI V gR gA gN Ds r p k zs AK cK W) {A' : Option Addr} {c' : Nat} {x : Pt} (hat : AppAt W W' AK A') (ho : Own W' (V.heap.size + 1) 24 1 A' (zs.length + 1) c' (zs.map Pt.v ++ [x.v]))
    (hx : Own W (V.heap.size + 1) 5 1 x.A x.l.length x.c (u8s x.l)) (hl : x.l.length ≤ 1048576) (hd : ∀ y ∈ zs, Dis y.A x.A) :
    GpI V gR gA gN Ds r p k (zs ++ [x]) A' c' (W'.setCell ⟨V.heap.size, 0, none⟩ (.slice A' (zs.length + 1) c')) :=
  ⟨(h.bel.trans ((hat.below h.k_.own (by have := lt_of_heap h.k_.ke; omega)).mono (Nat.le_succ _))).setCell (p := ⟨V.heap.size, 0, none⟩) (Nat.le_refl _) _, h.k_.app hat ho hx hl hd, h.k_.var hat h.rd, h.k_.var hat h.at_, h.k_.var hat h.n_, h.h1, h.h2, h.h3⟩
theorem GpI.setA (h : GpI V gR gA gN Ds r p k zs AK cK W) (p' : Nat) : GpI V gR gA gN Ds r p' k zs AK cK (W.setCell ⟨gA, 0, none⟩ (.int .i64 (p' : Nat))) := by
  have a1 := h.h1
  have a2 := h.h2
  have a3 := h.h3
  have h5 : ∀ k, k ≠ gA → (W.setCell ⟨gA, 0, none⟩ (.int .i64 (p' : Nat))).heap[k]? = W.heap[k]? := fun k hk => heap_setCell_other W _ k _ hk
  exact ⟨h.bel.setCell (p := ⟨gA, 0, none⟩) (by simp only; omega) _, h.k_.set h.at_ _, (h5 _ (by omega)).trans h.rd, heap_setCell_same W _ 0 _ _ _ h.at_, (h5 _ (by omega)).trans h.n_, a1, a2, a3⟩
theorem GpI.setN (h : GpI V gR gA gN Ds r p k zs AK cK W) (k' : Nat) : GpI V gR gA gN Ds r p k' zs AK cK (W.setCell ⟨gN, 0, none⟩ (.int .i64 (k' : Nat))) := by
  have a1 := h.h1
  have a2 := h.h2
  have a3 := h.h3
  have h5 : ∀ k, k ≠ gN → (W.setCell ⟨gN, 0, none⟩ (.int .i64 (k' : Nat))).heap[k]? = W.heap[k]? := fun k hk => heap_setCell_other W _ k _ hk
  exact ⟨h.bel.setCell (p := ⟨gN, 0, none⟩) (by simp only; omega) _, h.k_.set h.n_ _, (h5 _ (by omega)).trans h.rd, (h5 _ (by omega)).trans h.at_, heap_setCell_same W _ 0 _ _ _ h.n_, a1, a2, a3⟩
/-- The next round's variables. -/
theorem GpI.next (h : GpI V gR gA gN Ds r p k zs AK cK W) {D : Nat} (hD : W.heap[D]? = some (.deferred (some []))) (r' : Nat) :
    GpI V W.heap.size (W.heap.size + 1) (W.heap.size + 2) (D :: Ds) r' 0 0 zs AK cK (((W.alloc (.cells #[.int .i64 (r' : Nat)] 3)).alloc (.cells #[.int .i64 0] 3)).alloc (.cells #[.int .i64 0] 3)) := by
  have hs := h.bel.size
  have hl := lt_of_heap h.k_.ke
  have hb : Below W.heap.size W (((W.alloc (.cells #[.int .i64 (r' : Nat)] 3)).alloc (.cells #[.int .i64 0] 3)).alloc (.cells #[.int .i64 0] 3)) := (((Below.refl _ _).alloc (Nat.le_refl _) _).alloc (by simp) _).alloc (by simp <;> omega) _
  have hk := h.k_.keep hb
  refine ⟨h.bel.trans (hb.mono hs), ⟨hk.ke, hk.own, hk.each, hk.len, hk.dis, fun E hE => ?_⟩, ?_, ?_, ?_, hl, by omega, by omega⟩
  · rcases List.mem_cons.1 hE with rfl | hE
    · exact (hb.block _ (lt_of_heap hD)).trans hD
    · exact hk.ds E hE
  · rw [heap_alloc_old _ _ (by simp <;> omega), heap_alloc_old _ _ (by simp)]
    exact heap_alloc_new W _
  · rw [heap_alloc_old _ _ (by simp)]
    have := heap_alloc_new (W.alloc (.cells #[.int .i64 (r' : Nat)] 3)) (.cells #[.int .i64 0] 3)
    simpa using this
  · have := heap_alloc_new ((W.alloc (.cells #[.int .i64 (r' : Nat)] 3)).alloc (.cells #[.int .i64 0] 3)) (.cells #[.int .i64 0] 3)
    simpa using this
end

set_option maxRecDepth 100000 in
set_option maxHeartbeats 4000000 in
theorem gearPieces_any (a m x stop : Int) (l : List Nat) (A : Option Addr) (n c : Nat) (w : World) (hl : ∀ b ∈ l, b < 256) (hn : l.length = n) (hnm : n ≤ 1048576) (hc : n ≤ c) (hA : Byt w w.heap.size A l) (hT : Tz w) :
    Calls Tryd.prog 5 #[.agg #[.int .i64 a, .int .i64 m, .int .i64 x, .slice A n c], .int .i64 stop] w fun e w' => e = .returned (.bool true) ∧ Below w.heap.size w w' := by
  obtain ⟨ls, hls⟩ : ∃ ls, Hid (∀ _ : Unit, Gear.cut a m x l = ls) := ⟨_, Lib.hid fun _ => rfl⟩
  obtain ⟨N, hN⟩ : ∃ N, Hid (∀ _ : Unit, ls.length = N) := ⟨_, Lib.hid fun _ => rfl⟩
  have hNb : N ≤ 1048576 := by
    have := Gear.cut_length a m x l
    rw [hls.out (), hN.out (), hn] at this
    omega
  have hb0 : Hid (Below w.heap.size w (((w.alloc (.cells #[.int .i64 a, .int .i64 m, .int .i64 x, .slice A n c] 26)).alloc (.cells #[.int .i64 stop] 3)).alloc (.cells #[.bool false] 4))) := Lib.hid ((((Below.refl _ _).alloc (Nat.le_refl _) _).alloc (by simp) _).alloc (by simp <;> omega) _)
  have hq : Hid ((((w.alloc (.cells #[.int .i64 a, .int .i64 m, .int .i64 x, .slice A n c] 26)).alloc (.cells #[.int .i64 stop] 3)).alloc (.cells #[.bool false] 4)).heap[w.heap.size]? = some (.cells #[.int .i64 a, .int .i64 m, .int .i64 x, .slice A n c] 26 (0, 0)) ∧
      (((w.alloc (.cells #[.int .i64 a, .int .i64 m, .int .i64 x, .slice A n c] 26)).alloc (.cells #[.int .i64 stop] 3)).alloc (.cells #[.bool false] 4)).heap[w.heap.size + 1]? = some (.cells #[.int .i64 stop] 3 (0, 0)) ∧
      (((w.alloc (.cells #[.int .i64 a, .int .i64 m, .int .i64 x, .slice A n c] 26)).alloc (.cells #[.int .i64 stop] 3)).alloc (.cells #[.bool false] 4)).heap[w.heap.size + 2]? = some (.cells #[.bool false] 4 (0, 0))) := Lib.hid (by
    refine ⟨?_, ?_, ?_⟩
    · rw [heap_alloc_old _ _ (by simp <;> omega), heap_alloc_old _ _ (by simp)]
      exact heap_alloc_new w _
    · rw [heap_alloc_old _ _ (by simp)]
      have := heap_alloc_new (w.alloc (.cells #[.int .i64 a, .int .i64 m, .int .i64 x, .slice A n c] 26)) (.cells #[.int .i64 stop] 3)
      simpa using this
    · have := heap_alloc_new ((w.alloc (.cells #[.int .i64 a, .int .i64 m, .int .i64 x, .slice A n c] 26)).alloc (.cells #[.int .i64 stop] 3)) (.cells #[.bool false] 4)
      simpa using this)
  have hl' := Lib.hid hl
  have hn' := Lib.hid hn
  have hA' := Lib.hid hA
  have hT' := Lib.hid hT
  clear hl hn hA hT
  refine calls_marks Tryd.func5 rfl ?_
  simp only [Tryd.ntmps5, List.size_toArray, List.length_cons, List.length_nil, Nat.reduceAdd, Nat.reduceSub, Array.replicate_succ, Array.replicate_zero, List.push_toArray, List.append_toArray, List.nil_append, List.cons_append]
  go_wp2_with fail
  generalize ((w.alloc (.cells #[.int .i64 a, .int .i64 m, .int .i64 x, .slice A n c] 26)).alloc (.cells #[.int .i64 stop] 3)).alloc (.cells #[.bool false] 4) = w1 at hb0 hq ⊢
  obtain ⟨hx, hst, hrs⟩ := hq.out
  have hrc := Lib.hid (refCut_any a m x l A c n w1 hn'.out hl'.out (by omega) hc ((hA'.out.below hb0.out).mono hb0.out.size))
  simp only [hls.out (), hN.out ()] at hrc
  have x0 := cell_of_row w1 _ 0 _ _ _ hx
  have x1 := cell_of_row w1 _ 1 _ _ _ hx
  have x2 := cell_of_row w1 _ 2 _ _ _ hx
  have x3 := cell_of_row w1 _ 3 _ _ _ hx
  simp only [List.getElem?_toArray, List.getElem?_cons_zero, List.getElem?_cons_succ] at x0 x1 x2 x3
  have hx' := Lib.hid hx
  have hst' := Lib.hid hst
  have hrs' := Lib.hid hrs
  clear hx hst hrs hq
  go_wp2_with (first
    | (go_at_call 9; refine hrc.out.mono ?_; rintro e w2 ⟨⟨AL, cL, rfl, oL⟩, hb2⟩
       have oL' := Lib.hid oL
       have hb2' := Lib.hid hb2
       have hlx := World.block_lt_of_cell? _ _ x3
       have hs2 := hb2.size
       have hbA : Below w1.heap.size w1 (w2.alloc (.cells #[.slice AL N cL] 29)) := hb2.alloc hb2.size _
       have oLA := Lib.hid (oL.alloc (.cells #[.slice AL N cL] 29))
       have hbA' := Lib.hid hbA
       have hle : Hid ((w2.alloc (.cells #[.slice AL N cL] 29)).heap[w2.heap.size]? = some (.cells #[.slice AL N cL] 29 (0, 0))) := Lib.hid (heap_alloc_new w2 _)
       have hsA : Hid (w1.heap.size ≤ w2.heap.size ∧ w2.heap.size < (w2.alloc (.cells #[.slice AL N cL] 29)).heap.size) := Lib.hid ⟨hs2, by simp⟩
       have y3 : (w2.alloc (.cells #[.slice AL N cL] 29)).cell? ⟨w.heap.size, 3, none⟩ = some (.slice A n c) := (hbA.cell (p := ⟨w.heap.size, 3, none⟩) hlx).trans x3
       clear oL hb2 hrc hbA hs2)
    | fail)
  have hlx := World.block_lt_of_cell? _ _ x3
  generalize (w2.alloc (.cells #[.slice AL N cL] 29)) = w3 at oLA hbA' hle hsA y3 ⊢
  generalize w2.heap.size = gL at hle hsA ⊢
  have hB3 := Lib.hid (hb0.out.trans (hbA'.out.mono hb0.out.size))
  have hln := Lib.hid (lent_any w3 l A c ((hA'.out.below hB3.out).mono hB3.out.size) (by rw [hn'.out]; omega))
  rw [hn'.out] at hln
  refine hln.out.mono ?_
  rintro e w4 ⟨⟨gl, cl, rfl, ol⟩, hb4⟩
  have hlele := ol.le
  have ol4 := Lib.hid ol
  have hb4' := Lib.hid hb4
  have z0 := (hb4.cell (p := ⟨w.heap.size, 0, none⟩) (Nat.lt_of_lt_of_le hlx hbA'.out.size)).trans ((hbA'.out.cell (p := ⟨w.heap.size, 0, none⟩) hlx).trans x0)
  have z1 := (hb4.cell (p := ⟨w.heap.size, 1, none⟩) (Nat.lt_of_lt_of_le hlx hbA'.out.size)).trans ((hbA'.out.cell (p := ⟨w.heap.size, 1, none⟩) hlx).trans x1)
  have z2 := (hb4.cell (p := ⟨w.heap.size, 2, none⟩) (Nat.lt_of_lt_of_le hlx hbA'.out.size)).trans ((hbA'.out.cell (p := ⟨w.heap.size, 2, none⟩) hlx).trans x2)
  clear ol hb4 hln y3 x0 x1 x2
  have e0 := fun w f a b => gp_eql_seq w f a b
  go_wp2_with (go_at_call 19; refine (pieces_any a m x (some ⟨gl, 0, none⟩) n cl w4).mono ?_; rintro e V ⟨⟨gr, gd, rfl, p0, p1, p2, p3⟩, hb5⟩
               have hb5' := Lib.hid hb5
               have p0' := Lib.hid p0
               have p1' := Lib.hid p1
               have p2' := Lib.hid p2
               have p3' := Lib.hid p3
               clear hb5 p0 p1 p2 p3 z0 z1 z2)
  clear e0
  have hB4 := Lib.hid (hB3.out.trans (hb4'.out.mono hB3.out.size))
  have hBV := Lib.hid (hB4.out.trans (hb5'.out.mono hB4.out.size))
  have hb15 := Lib.hid ((hbA'.out.trans (hb4'.out.mono hbA'.out.size)).trans (hb5'.out.mono (Nat.le_trans hbA'.out.size hb4'.out.size)))
  have hw12 : Hid (w.heap.size + 2 < w1.heap.size) := Lib.hid (lt_of_heap hrs'.out)
  have xD : Hid (V.cell? ⟨w.heap.size, 3, none⟩ = some (.slice A n c)) := Lib.hid ((hb15.out.cell (p := ⟨w.heap.size, 3, none⟩) hlx).trans x3)
  have xS : Hid (V.cell? ⟨w.heap.size + 1, 0, none⟩ = some (.int .i64 stop)) := Lib.hid ((hb15.out.cell (p := ⟨w.heap.size + 1, 0, none⟩) (lt_of_heap hst'.out)).trans (cell_of_row w1 _ 0 _ _ _ hst'.out))
  have xR : Hid (V.heap[w.heap.size + 2]? = some (.cells #[.bool false] 4 (0, 0))) := Lib.hid ((hb15.out.block _ (lt_of_heap hrs'.out)).trans hrs'.out)
  have hb35 := Lib.hid (hb4'.out.trans (hb5'.out.mono hb4'.out.size))
  have xL : Hid (V.cell? ⟨gL, 0, none⟩ = some (.slice AL N cL)) := Lib.hid ((hb35.out.cell (p := ⟨gL, 0, none⟩) (lt_of_heap hle.out)).trans (cell_of_row w3 _ 0 _ _ _ hle.out))
  have oLV := Lib.hid (oLA.out.below hb35.out fun k hk => (oLA.out.lt k hk).2)
  have olV := Lib.hid (ol4.out.below hb5'.out fun k hk => (ol4.out.lt k hk).2)
  have hAV := Lib.hid ((hA'.out.below hBV.out).mono hBV.out.size)
  have hTV := Lib.hid (hT'.out.below hBV.out)
  have hlV : Hid (Byt V V.heap.size (some ⟨gl, 0, none⟩) l) := Lib.hid (by
    have h := Byt.take olV.out.byt n (by rw [marked_length, hn'.out]; omega)
    rw [marked, ← hn'.out, List.take_left] at h
    exact h)
  have hgLV : Hid (gL < V.heap.size) := Lib.hid (Nat.lt_of_lt_of_le (lt_of_heap hle.out) hb35.out.size)
  have hwV : Hid (w.heap.size + 2 < V.heap.size) := Lib.hid (Nat.lt_of_lt_of_le hw12.out hb15.out.size)
  clear hb4' hb5' hbA' hB3 hB4 hb15 hb35 hle oLA ol4 hA' hT' hst' hrs' hx' hw12 hsA x3 hlx
  have hI0 : Hid (GpI V (V.heap.size + 1) (V.heap.size + 1 + 1) (V.heap.size + 1 + 1 + 1) [] 0 0 0 [] none 0 ((((V.alloc (.cells #[.slice none 0 0] 45)).alloc (.cells #[.int .i64 0] 3)).alloc (.cells #[.int .i64 0] 3)).alloc (.cells #[.int .i64 0] 3))) := Lib.hid (by
    refine ⟨((((Below.refl _ _).alloc (Nat.le_refl _) _).alloc (by simp) _).alloc (by simp <;> omega) _).alloc (by simp <;> omega) _, ⟨?_, Own.nil _ _ _ _, by simp, by simp, List.Pairwise.nil, by simp⟩, ?_, ?_, ?_, by omega, by omega, by omega⟩
    · rw [heap_alloc_old _ _ (by simp <;> omega), heap_alloc_old _ _ (by simp <;> omega), heap_alloc_old _ _ (by simp)]
      exact heap_alloc_new V _
    · rw [heap_alloc_old _ _ (by simp <;> omega), heap_alloc_old _ _ (by simp)]
      have := heap_alloc_new (V.alloc (.cells #[.slice none 0 0] 45)) (.cells #[.int .i64 0] 3)
      simpa using this
    · rw [heap_alloc_old _ _ (by simp)]
      have := heap_alloc_new ((V.alloc (.cells #[.slice none 0 0] 45)).alloc (.cells #[.int .i64 0] 3)) (.cells #[.int .i64 0] 3)
      simpa using this
    · have := heap_alloc_new (((V.alloc (.cells #[.slice none 0 0] 45)).alloc (.cells #[.int .i64 0] 3)).alloc (.cells #[.int .i64 0] 3)) (.cells #[.int .i64 0] 3)
      simpa using this)
  refine wp_loop_rounds 4 ?_
  rw [rounds_succ]
  go_wp2_with fail
  generalize ((((V.alloc (.cells #[.slice none 0 0] 45)).alloc (.cells #[.int .i64 0] 3)).alloc (.cells #[.int .i64 0] 3)).alloc (.cells #[.int .i64 0] 3)) = wAa at hI0 ⊢
  obtain ⟨gNa, hg1⟩ : ∃ g, V.heap.size + 1 + 1 + 1 = g := ⟨_, rfl⟩
  rw [hg1] at hI0 ⊢
  obtain ⟨gAa, hg2⟩ : ∃ g, V.heap.size + 1 + 1 = g := ⟨_, rfl⟩
  rw [hg2] at hI0 ⊢
  obtain ⟨gRa, hg3⟩ : ∃ g, V.heap.size + 1 = g := ⟨_, rfl⟩
  rw [hg3] at hI0 ⊢
  clear hg1 hg2 hg3
  have hIa := Lib.hid hI0.out
  have hdsa : Hid (∀ E ∈ ([] : List Nat), E < wAa.heap.size) := Lib.hid (by simp)
  have hza : Hid (([] : List Pt).length ≤ 0) := Lib.hid (by simp)
  clear hI0
  have hsza : Hid (V.heap.size < wAa.heap.size) := Lib.hid (lt_of_heap hIa.out.k_.ke)
  refine wp_rangeFunc (gf := 33) (lb := #[.pointer (some ⟨gr, 0, none⟩), .pointer (some ⟨gd, 0, none⟩)]) rfl (enters_of Tryd.func33 (by kernel_rfl) rfl) (encs := precV) (fun _ => rfl) (G := PcG a m x l) (fun h => h.2.2.2)
    (pieces_seq a m x l gr gd (some ⟨gl, 0, none⟩) cl n V hl'.out hn'.out (by omega) (by omega) p0'.out p1'.out p2'.out p3'.out hlV.out hTV.out) (Mid.of_below hIa.out.bel (Nat.le_refl _)) (Nat.le_of_lt hsza.out)
    (fun pre W => ∃ zs AK cK, zs.length ≤ 0 + pre.length ∧ GpI V gRa gAa gNa [] 0 ((ls.take pre.length).sum) pre.length zs AK cK W) (fun _ _ _ => False) ?_ (fun _ _ _ _ h _ => h) ?_ ⟨[], _, _, Nat.le_trans hza.out (Nat.le_add_right _ _), hIa.out⟩ ?_ ?_ (fun _ _ _ _ _ _ h _ => h.elim)
  · rintro pre W W' ⟨zs, AK, cK, hz, h⟩ hp
    exact ⟨zs, AK, cK, hz, h.puts hp (Nat.le_of_lt hsza.out) hdsa.out⟩
  · rintro pre W W' ⟨zs, AK, cK, hz, h⟩ hb
    exact ⟨zs, AK, cK, hz, h.keep hb⟩
  · rintro lp pre ⟨p, bd, A1, c1⟩ W0 W1 hlp ⟨zs, AK, cK, hz, hgo⟩ hlt ⟨g1, g2, g4, g5⟩
    obtain ⟨k, hk⟩ : ∃ k, pre.length = k := ⟨_, rfl⟩
    rw [hk] at hz hgo g1 g2
    unfold pieceAt at g2
    simp only [hls.out ()] at g1 g2 g4
    rw [hN.out ()] at g1
    have hok : okRule a m x := by
      by_cases ok : okRule a m x
      · exact ok
      · have e := hls.out ()
        rw [Gear.cut_no ok] at e
        rw [← hN.out (), ← e] at g1
        simp at g1
    obtain ⟨rfl, rfl⟩ : p = (ls.take k).sum ∧ bd = (l.drop (ls.take k).sum).take (ls[k]?.getD 0) := Prod.mk.inj g2
    have hgs := get_some (l := ls) (k := k) (by rw [hN.out ()]; exact g1)
    have hsn := Gear.sum_take_snoc hgs
    have hsm := sum_take_le ls (k + 1)
    have hsum : ls.sum = n := by rw [← hls.out (), Gear.cut_sum hok _ _ (Nat.le_refl _), hn'.out]
    rw [hsum] at hsm
    have hsn' := Lib.hid hsn
    obtain ⟨y, hy⟩ : ∃ y, ls[k]?.getD 0 = y := ⟨_, rfl⟩
    rw [hy] at g4 hsn' hsn
    obtain ⟨p, hp⟩ : ∃ p, (ls.take k).sum = p := ⟨_, rfl⟩
    rw [hp] at g4 hsn' hsn hgo
    have hpy : p + y ≤ n := by omega
    have hby : ((l.drop p).take y).length = y := by rw [List.length_take, List.length_drop, hn'.out]; omega
    have hAVb : Byt V V.heap.size A l := hAV.out
    have hdat : Byt V V.heap.size (cutA A p c) ((l.drop p).take y) := Byt.take (hAVb.cut (k := p) (cap := c) (by rw [hn'.out]; omega) (by rw [hn'.out]; exact hc)) y (by rw [List.length_drop, hn'.out]; omega)
    obtain ⟨bd, hbd⟩ : ∃ bd, (l.drop p).take y = bd := ⟨_, rfl⟩
    rw [hbd] at g4 hby hdat
    have hby' := Lib.hid hby
    have hdat' := Lib.hid hdat
    rw [hby] at g4
    obtain ⟨gq, hgq0⟩ := oLV.out.head (by omega)
    have hgq := Lib.hid hgq0
    have oLg := oLV.out
    rw [hgq0] at oLg
    have qq0 := oLg.cell k (by omega)
    have hi64 : (i64s ls)[k]? = some (.int .i64 (y : Nat)) := by
      have h1 : k < ls.length := by rw [hN.out ()]; exact g1
      unfold i64s
      rw [List.getElem?_map, hgs, hy]
      rfl
    rw [hi64] at qq0
    have qq := Lib.hid qq0
    have hgqV : gq < V.heap.size := (oLg.lt gq rfl).2
    have hw1 := Lib.hid (hgo.keep g5)
    have o1 := Lib.hid (g4.base (show V.heap.size + 1 ≤ W0.heap.size from lt_of_heap hgo.k_.ke))
    have hdz : Hid (∀ y ∈ zs, Dis y.A A1) := Lib.hid fun y hy => Dis.of_lt (fun i hi => ((hgo.k_.each y hy).lt i hi).2) (fun i hi => (g4.lt i hi).1)
    have hs2 := fun W => gp_slice_mid A n c p (p + y) ((p : Int) + (y : Int)) (by omega) (by omega) (by omega) W
    rw [show p + y - p = y by omega] at hs2
    have hpn : Hid (p + y = (ls.take (k + 1)).sum) := Lib.hid hsn.symm
    have hkN := g1
    rw [hp, hy, hbd]
    dsimp only [precV]
    rw [hby]
    clear hAVb hby hdat hgq0 oLg qq0 hi64 hgo g4 g5 g2 hgs hsn hsn' hsm hsum g1 hok
    gi_wp2
    refine ⟨KeepsFrom.refl _ _, fun W3 hpp => ?_⟩
    have h3 := Lib.hid (hw1.out.puts hpp (Nat.le_of_lt hsza.out) hdsa.out)
    have o3 := Lib.hid (o1.out.puts hpp)
    have hp' := Lib.hid hpp
    have hb1' := Lib.hid hw1.out.bel
    clear hpp hw1 o1
    have b3 := h3.out.bel
    obtain ⟨cR, cA, cN, _, fA, fN⟩ := h3.out.cells
    obtain ⟨cKe, fKe⟩ := h3.out.k_.cell
    have cS := (b3.cell (p := ⟨w.heap.size + 1, 0, none⟩) (Nat.lt_of_succ_lt hwV.out)).trans xS.out
    have cD := (b3.cell (p := ⟨w.heap.size, 3, none⟩) (Nat.lt_of_succ_lt (Nat.lt_of_succ_lt hwV.out))).trans xD.out
    have cLs := (b3.cell (p := ⟨gL, 0, none⟩) hgLV.out).trans xL.out
    rw [hgq.out] at cLs
    have cq := (b3.cell (p := ⟨gq, k, none⟩) hgqV).trans qq.out
    have hsame := Lib.hid fun q : Nat => same_eq A1 (cutA A p c) c1 (c - p) y (fun j => ((bd[j]?.getD 0 : Nat) : Int)) W3.heap.size W3.heap.size (W3.drewN q) (by omega) (by have h : Byt W3 W3.heap.size A1 bd := Own.byt (c := c1) (n := y) o3.out; unfold Byt at h; rw [hby'.out] at h; exact Rd.drewN h q) (by have h : Byt W3 W3.heap.size (cutA A p c) bd := (hdat'.out.below b3).mono b3.size; unfold Byt at h; rw [hby'.out] at h; exact Rd.drewN h q)
    clear b3
    have i1 : (k : Int) < (N : Int) := by omega
    have i0 : (0 : Int) ≤ (k : Int) := by omega
    have d1 : decide ((N : Int) ≤ (k : Int)) = false := decide_eq_false (by omega)
    have d2 : decide (N ≤ k) = false := decide_eq_false (by omega)
    gi_wp2_with fail
    refine wpIn_region_quiet_round (by kernel_rfl) (by kernel_rfl) (hnd_of (by rfl)) ?_
    repeat (go_big_quiet_step ((go_at_call 20; exact quiet_d (hsame.out _))))
    refine wpQuiet_nil ?_
    intro _ hw'
    obtain ⟨nq, hw''⟩ := hw'
    subst hw''
    have h4 := Lib.hid (h3.out.drew nq)
    have o4 := Lib.hid (o3.out.drewN nq)
    gi_wp2_with (first
      | (gi_at_builtin; refine wpListIn_app1h elS _ #[_] rfl rfl _ _ rfl rfl h4.out.k_.own _ (by simp) rfl (by intro u hu; simp at hu; subst hu; rfl) (by unfold maxLen; omega) (by omega) (by have := lt_of_heap h4.out.k_.ke; omega) (zs.length + 1) rfl _ rfl ?_
         intro A5 c5 w5 o5 at5 b5
         have h5 := Lib.hid (GpI.app (x := ⟨A1, bd, c1⟩) h4.out at5 (by simp only [Pt.v, hby'.out]; exact o5) (by simp only [hby'.out]; exact o4.out) (by rw [hby'.out]; omega) hdz.out)
         have q5 := (b5.cell (p := ⟨V.heap.size, 0, none⟩) (Nat.lt_succ_self _)).trans h4.out.k_.cell.1
         have f5 := (b5.frozen (p := ⟨V.heap.size, 0, none⟩) (Nat.lt_succ_self _)).trans h4.out.k_.cell.2
         have k5 := Lib.hid ((at5.keeps h4.out.k_.own).trans (KeepsOthers.setCell w5 ⟨V.heap.size, 0, none⟩ (.slice A5 (zs.length + 1) c5)))
         clear o5 at5 b5 cKe fKe cR cA cN fA fN cS cD cLs cq))
    clear q5 f5
    generalize w5.setCell ⟨V.heap.size, 0, none⟩ (.slice A5 (zs.length + 1) c5) = w6 at h5 k5 ⊢
    have b6 := h5.out.bel
    obtain ⟨cR, cA, cN, _, fA, fN⟩ := h5.out.cells
    have cLs := (b6.cell (p := ⟨gL, 0, none⟩) hgLV.out).trans xL.out
    rw [hgq.out] at cLs
    have cq := (b6.cell (p := ⟨gq, k, none⟩) hgqV).trans qq.out
    clear b6
    apply wpIn_meet
    · gi_region_with fail
      all_goals exact ⟨rfl, rfl, rfl⟩
    have hwr : IntKind.i64.wrap ((p : Int) + (y : Int)) = ((p + y : Nat) : Int) := by rw [IntKind.wrap_i64]; omega
    rw [hwr]
    have h7 := Lib.hid ((h5.out.setA (p + y)).drew 1)
    have k7 : Hid (KeepsOthers W3 (w6.setCell ⟨gAa, 0, none⟩ (.int .i64 ((p + y : Nat) : Int))).drew) := Lib.hid (((show KeepsOthers W3 (W3.drewN nq) from ⟨Nat.le_refl _, fun _ _ h _ => h⟩).trans k5.out).trans ((KeepsOthers.setCell w6 ⟨gAa, 0, none⟩ (.int .i64 ((p + y : Nat) : Int))).trans (KeepsOthers.drew _)))
    have h7x : Hid (GpI V gRa gAa gNa [] 0 (p + y) k (zs ++ [⟨A1, bd, c1⟩]) A5 c5 (w6.setCell ⟨gAa, 0, none⟩ (.int .i64 ((p + y : Nat) : Int))).drew) := h7
    clear cR cA cN fA fN cLs cq h5 k5 h7 hwr
    generalize (w6.setCell ⟨gAa, 0, none⟩ (.int .i64 ((p + y : Nat) : Int))).drew = w7 at h7x k7 ⊢
    obtain ⟨_, _, cN, _, _, fN⟩ := h7x.out.cells
    have h8 := h7x.out.setN (k + 1)
    have ek : ((k + 1 : Nat) : Int) = (k : Int) + 1 := by omega
    rw [ek] at h8
    have e1 : (w7.setCell ⟨gNa, 0, none⟩ (.int .i64 ((k : Int) + 1))).cell? ⟨gRa, 0, none⟩ = some (.int .i64 0) := h8.cells.1
    have e2 : (w7.setCell ⟨gNa, 0, none⟩ (.int .i64 ((k : Int) + 1))).cell? ⟨gNa, 0, none⟩ = some (.int .i64 ((k : Int) + 1)) := by
      have := h8.cells.2.2.1
      rw [ek] at this
      exact this
    have e3 := (h8.bel.cell (p := ⟨w.heap.size + 1, 0, none⟩) (Nat.lt_of_succ_lt hwV.out)).trans xS.out
    have hkf := Lib.hid ((k7.out.trans (KeepsOthers.setCell w7 ⟨gNa, 0, none⟩ (.int .i64 ((k : Int) + 1)))).from wAa.heap.size)
    have h8' := Lib.hid h8
    have hmidE := Lib.hid (mid_of2 (lo := 0) (B := V.heap.size) hb1'.out h8.bel (Nat.le_trans hp'.out.bel.size hkf.out.size) (Nat.le_refl _))
    clear h8 ek h7x k7
    gi_wp2_with fail
    refine ⟨hkf.out, hmidE.out, zs ++ [⟨A1, bd, c1⟩], A5, c5, ?_, ?_⟩
    · rw [List.length_append, List.length_append, hk]
      simp
      try omega
    · rw [List.length_append, hk]
      show GpI _ _ _ _ _ _ ((ls.take (k + 1)).sum) _ _ _ _ _
      rw [← hpn.out]
      exact h8'.out
  · rintro Da xsa Wa hDa hxsa ⟨zsa, AKa, cKa, hza, hga⟩ hmarka
    have hla : xsa.length = N := by
      have e : xsa.length = (Gear.cut a m x l).length := hxsa
      rw [e, hls.out (), hN.out ()]
    rw [hla] at hza hga
    have hza' : Hid (zsa.length ≤ N) := Lib.hid (by omega)
    have hga' := Lib.hid hga
    have hmka := Lib.hid hmarka
    have hDa' := Lib.hid hDa
    have b3 := hga.bel
    obtain ⟨cR, cA, cN, fR, _, _⟩ := hga.cells
    have cR : Wa.cell? ⟨gRa, 0, none⟩ = some (.int .i64 0) := cR
    have cS := (b3.cell (p := ⟨w.heap.size + 1, 0, none⟩) (Nat.lt_of_succ_lt hwV.out)).trans xS.out
    have cLs := (b3.cell (p := ⟨gL, 0, none⟩) hgLV.out).trans xL.out
    clear hla hxsa hza hga hmarka hDa b3
    go_wp2_with fail
    rw [rounds_succ]
    go_wp2_with fail
    have hnx : GpI V Wa.heap.size (Wa.heap.size + 1) (Wa.heap.size + 1 + 1) (Da :: []) 1 0 0 zsa AKa cKa (((Wa.alloc (.cells #[.int .i64 1] 3)).alloc (.cells #[.int .i64 0] 3)).alloc (.cells #[.int .i64 0] 3)) := GpI.next hga'.out hmka.out 1
    have hIb := Lib.hid hnx
    have hdsb : Hid (∀ E ∈ Da :: [], E < (((Wa.alloc (.cells #[.int .i64 1] 3)).alloc (.cells #[.int .i64 0] 3)).alloc (.cells #[.int .i64 0] 3)).heap.size) := Lib.hid fun E hE => lt_of_heap (hnx.k_.ds E hE)
    have hzb := Lib.hid hza'.out
    clear hnx cR cA cN fR cS cLs hga' hmka hza'
    generalize (((Wa.alloc (.cells #[.int .i64 1] 3)).alloc (.cells #[.int .i64 0] 3)).alloc (.cells #[.int .i64 0] 3)) = wAb at hIb hdsb ⊢
    obtain ⟨gNb, hg1⟩ : ∃ g, Wa.heap.size + 1 + 1 = g := ⟨_, rfl⟩
    rw [hg1] at hIb ⊢
    obtain ⟨gAb, hg2⟩ : ∃ g, Wa.heap.size + 1 = g := ⟨_, rfl⟩
    rw [hg2] at hIb ⊢
    obtain ⟨gRb, hg3⟩ : ∃ g, Wa.heap.size = g := ⟨_, rfl⟩
    rw [hg3] at hIb ⊢
    clear hg1 hg2 hg3
    have hszb : Hid (V.heap.size < wAb.heap.size) := Lib.hid (lt_of_heap hIb.out.k_.ke)
    refine wp_rangeFunc (gf := 33) (lb := #[.pointer (some ⟨gr, 0, none⟩), .pointer (some ⟨gd, 0, none⟩)]) rfl (enters_of Tryd.func33 (by kernel_rfl) rfl) (encs := precV) (fun _ => rfl) (G := PcG a m x l) (fun h => h.2.2.2)
      (pieces_seq a m x l gr gd (some ⟨gl, 0, none⟩) cl n V hl'.out hn'.out (by omega) (by omega) p0'.out p1'.out p2'.out p3'.out hlV.out hTV.out) (Mid.of_below hIb.out.bel (Nat.le_refl _)) (Nat.le_of_lt hszb.out)
      (fun pre W => ∃ zs AK cK, zs.length ≤ N + pre.length ∧ GpI V gRb gAb gNb [Da] 1 ((ls.take pre.length).sum) pre.length zs AK cK W) (fun c pre W => c = .exit 2 ∧ (pre.length : Int) = stop ∧ 1 ≤ pre.length ∧ pre.length ≤ N ∧ ∃ zs AK cK, zs.length ≤ N + pre.length ∧ GpI V gRb gAb gNb [Da] 1 ((ls.take pre.length).sum) pre.length zs AK cK W) ?_ (fun c s W W' h hp => by obtain ⟨h1, h2, h3, h4, zs, AK, cK, hz, h⟩ := h; exact ⟨h1, h2, h3, h4, zs, AK, cK, hz, h.puts hp (Nat.le_of_lt hszb.out) hdsb.out⟩) ?_ ⟨zsa, _, _, Nat.le_trans hzb.out (Nat.le_add_right _ _), hIb.out⟩ ?_ ?_ ?_
    · rintro pre W W' ⟨zs, AK, cK, hz, h⟩ hp
      exact ⟨zs, AK, cK, hz, h.puts hp (Nat.le_of_lt hszb.out) hdsb.out⟩
    · rintro pre W W' ⟨zs, AK, cK, hz, h⟩ hb
      exact ⟨zs, AK, cK, hz, h.keep hb⟩
    · rintro lp pre ⟨p, bd, A1, c1⟩ W0 W1 hlp ⟨zs, AK, cK, hz, hgo⟩ hlt ⟨g1, g2, g4, g5⟩
      obtain ⟨k, hk⟩ : ∃ k, pre.length = k := ⟨_, rfl⟩
      rw [hk] at hz hgo g1 g2
      unfold pieceAt at g2
      simp only [hls.out ()] at g1 g2 g4
      rw [hN.out ()] at g1
      have hok : okRule a m x := by
        by_cases ok : okRule a m x
        · exact ok
        · have e := hls.out ()
          rw [Gear.cut_no ok] at e
          rw [← hN.out (), ← e] at g1
          simp at g1
      obtain ⟨rfl, rfl⟩ : p = (ls.take k).sum ∧ bd = (l.drop (ls.take k).sum).take (ls[k]?.getD 0) := Prod.mk.inj g2
      have hgs := get_some (l := ls) (k := k) (by rw [hN.out ()]; exact g1)
      have hsn := Gear.sum_take_snoc hgs
      have hsm := sum_take_le ls (k + 1)
      have hsum : ls.sum = n := by rw [← hls.out (), Gear.cut_sum hok _ _ (Nat.le_refl _), hn'.out]
      rw [hsum] at hsm
      have hsn' := Lib.hid hsn
      obtain ⟨y, hy⟩ : ∃ y, ls[k]?.getD 0 = y := ⟨_, rfl⟩
      rw [hy] at g4 hsn' hsn
      obtain ⟨p, hp⟩ : ∃ p, (ls.take k).sum = p := ⟨_, rfl⟩
      rw [hp] at g4 hsn' hsn hgo
      have hpy : p + y ≤ n := by omega
      have hby : ((l.drop p).take y).length = y := by rw [List.length_take, List.length_drop, hn'.out]; omega
      have hAVb : Byt V V.heap.size A l := hAV.out
      have hdat : Byt V V.heap.size (cutA A p c) ((l.drop p).take y) := Byt.take (hAVb.cut (k := p) (cap := c) (by rw [hn'.out]; omega) (by rw [hn'.out]; exact hc)) y (by rw [List.length_drop, hn'.out]; omega)
      obtain ⟨bd, hbd⟩ : ∃ bd, (l.drop p).take y = bd := ⟨_, rfl⟩
      rw [hbd] at g4 hby hdat
      have hby' := Lib.hid hby
      have hdat' := Lib.hid hdat
      rw [hby] at g4
      obtain ⟨gq, hgq0⟩ := oLV.out.head (by omega)
      have hgq := Lib.hid hgq0
      have oLg := oLV.out
      rw [hgq0] at oLg
      have qq0 := oLg.cell k (by omega)
      have hi64 : (i64s ls)[k]? = some (.int .i64 (y : Nat)) := by
        have h1 : k < ls.length := by rw [hN.out ()]; exact g1
        unfold i64s
        rw [List.getElem?_map, hgs, hy]
        rfl
      rw [hi64] at qq0
      have qq := Lib.hid qq0
      have hgqV : gq < V.heap.size := (oLg.lt gq rfl).2
      have hw1 := Lib.hid (hgo.keep g5)
      have o1 := Lib.hid (g4.base (show V.heap.size + 1 ≤ W0.heap.size from lt_of_heap hgo.k_.ke))
      have hdz : Hid (∀ y ∈ zs, Dis y.A A1) := Lib.hid fun y hy => Dis.of_lt (fun i hi => ((hgo.k_.each y hy).lt i hi).2) (fun i hi => (g4.lt i hi).1)
      have hs2 := fun W => gp_slice_mid A n c p (p + y) ((p : Int) + (y : Int)) (by omega) (by omega) (by omega) W
      rw [show p + y - p = y by omega] at hs2
      have hpn : Hid (p + y = (ls.take (k + 1)).sum) := Lib.hid hsn.symm
      have hkN := g1
      rw [hp, hy, hbd]
      dsimp only [precV]
      rw [hby]
      clear hAVb hby hdat hgq0 oLg qq0 hi64 hgo g4 g5 g2 hgs hsn hsn' hsm hsum g1 hok
      gi_wp2
      refine ⟨KeepsFrom.refl _ _, fun W3 hpp => ?_⟩
      have h3 := Lib.hid (hw1.out.puts hpp (Nat.le_of_lt hszb.out) hdsb.out)
      have o3 := Lib.hid (o1.out.puts hpp)
      have hp' := Lib.hid hpp
      have hb1' := Lib.hid hw1.out.bel
      clear hpp hw1 o1
      have b3 := h3.out.bel
      obtain ⟨cR, cA, cN, _, fA, fN⟩ := h3.out.cells
      obtain ⟨cKe, fKe⟩ := h3.out.k_.cell
      have cS := (b3.cell (p := ⟨w.heap.size + 1, 0, none⟩) (Nat.lt_of_succ_lt hwV.out)).trans xS.out
      have cD := (b3.cell (p := ⟨w.heap.size, 3, none⟩) (Nat.lt_of_succ_lt (Nat.lt_of_succ_lt hwV.out))).trans xD.out
      have cLs := (b3.cell (p := ⟨gL, 0, none⟩) hgLV.out).trans xL.out
      rw [hgq.out] at cLs
      have cq := (b3.cell (p := ⟨gq, k, none⟩) hgqV).trans qq.out
      have hsame := Lib.hid fun q : Nat => same_eq A1 (cutA A p c) c1 (c - p) y (fun j => ((bd[j]?.getD 0 : Nat) : Int)) W3.heap.size W3.heap.size (W3.drewN q) (by omega) (by have h : Byt W3 W3.heap.size A1 bd := Own.byt (c := c1) (n := y) o3.out; unfold Byt at h; rw [hby'.out] at h; exact Rd.drewN h q) (by have h : Byt W3 W3.heap.size (cutA A p c) bd := (hdat'.out.below b3).mono b3.size; unfold Byt at h; rw [hby'.out] at h; exact Rd.drewN h q)
      clear b3
      have i1 : (k : Int) < (N : Int) := by omega
      have i0 : (0 : Int) ≤ (k : Int) := by omega
      have d1 : decide ((N : Int) ≤ (k : Int)) = false := decide_eq_false (by omega)
      have d2 : decide (N ≤ k) = false := decide_eq_false (by omega)
      gi_wp2_with fail
      refine wpIn_region_quiet_round (by kernel_rfl) (by kernel_rfl) (hnd_of (by rfl)) ?_
      repeat (go_big_quiet_step ((go_at_call 20; exact quiet_d (hsame.out _))))
      refine wpQuiet_nil ?_
      intro _ hw'
      obtain ⟨nq, hw''⟩ := hw'
      subst hw''
      have h4 := Lib.hid (h3.out.drew nq)
      have o4 := Lib.hid (o3.out.drewN nq)
      gi_wp2_with (first
        | (gi_at_builtin; refine wpListIn_app1h elS _ #[_] rfl rfl _ _ rfl rfl h4.out.k_.own _ (by simp) rfl (by intro u hu; simp at hu; subst hu; rfl) (by unfold maxLen; omega) (by omega) (by have := lt_of_heap h4.out.k_.ke; omega) (zs.length + 1) rfl _ rfl ?_
           intro A5 c5 w5 o5 at5 b5
           have h5 := Lib.hid (GpI.app (x := ⟨A1, bd, c1⟩) h4.out at5 (by simp only [Pt.v, hby'.out]; exact o5) (by simp only [hby'.out]; exact o4.out) (by rw [hby'.out]; omega) hdz.out)
           have q5 := (b5.cell (p := ⟨V.heap.size, 0, none⟩) (Nat.lt_succ_self _)).trans h4.out.k_.cell.1
           have f5 := (b5.frozen (p := ⟨V.heap.size, 0, none⟩) (Nat.lt_succ_self _)).trans h4.out.k_.cell.2
           have k5 := Lib.hid ((at5.keeps h4.out.k_.own).trans (KeepsOthers.setCell w5 ⟨V.heap.size, 0, none⟩ (.slice A5 (zs.length + 1) c5)))
           clear o5 at5 b5 cKe fKe cR cA cN fA fN cS cD cLs cq))
      clear q5 f5
      generalize w5.setCell ⟨V.heap.size, 0, none⟩ (.slice A5 (zs.length + 1) c5) = w6 at h5 k5 ⊢
      have b6 := h5.out.bel
      obtain ⟨cR, cA, cN, _, fA, fN⟩ := h5.out.cells
      have cLs := (b6.cell (p := ⟨gL, 0, none⟩) hgLV.out).trans xL.out
      rw [hgq.out] at cLs
      have cq := (b6.cell (p := ⟨gq, k, none⟩) hgqV).trans qq.out
      clear b6
      apply wpIn_meet
      · gi_region_with fail
        all_goals exact ⟨rfl, rfl, rfl⟩
      have hwr : IntKind.i64.wrap ((p : Int) + (y : Int)) = ((p + y : Nat) : Int) := by rw [IntKind.wrap_i64]; omega
      rw [hwr]
      have h7 := Lib.hid ((h5.out.setA (p + y)).drew 1)
      have k7 : Hid (KeepsOthers W3 (w6.setCell ⟨gAb, 0, none⟩ (.int .i64 ((p + y : Nat) : Int))).drew) := Lib.hid (((show KeepsOthers W3 (W3.drewN nq) from ⟨Nat.le_refl _, fun _ _ h _ => h⟩).trans k5.out).trans ((KeepsOthers.setCell w6 ⟨gAb, 0, none⟩ (.int .i64 ((p + y : Nat) : Int))).trans (KeepsOthers.drew _)))
      have h7x : Hid (GpI V gRb gAb gNb [Da] 1 (p + y) k (zs ++ [⟨A1, bd, c1⟩]) A5 c5 (w6.setCell ⟨gAb, 0, none⟩ (.int .i64 ((p + y : Nat) : Int))).drew) := h7
      clear cR cA cN fA fN cLs cq h5 k5 h7 hwr
      generalize (w6.setCell ⟨gAb, 0, none⟩ (.int .i64 ((p + y : Nat) : Int))).drew = w7 at h7x k7 ⊢
      obtain ⟨_, _, cN, _, _, fN⟩ := h7x.out.cells
      have h8 := h7x.out.setN (k + 1)
      have ek : ((k + 1 : Nat) : Int) = (k : Int) + 1 := by omega
      rw [ek] at h8
      have e1 : (w7.setCell ⟨gNb, 0, none⟩ (.int .i64 ((k : Int) + 1))).cell? ⟨gRb, 0, none⟩ = some (.int .i64 1) := h8.cells.1
      have e2 : (w7.setCell ⟨gNb, 0, none⟩ (.int .i64 ((k : Int) + 1))).cell? ⟨gNb, 0, none⟩ = some (.int .i64 ((k : Int) + 1)) := by
        have := h8.cells.2.2.1
        rw [ek] at this
        exact this
      have e3 := (h8.bel.cell (p := ⟨w.heap.size + 1, 0, none⟩) (Nat.lt_of_succ_lt hwV.out)).trans xS.out
      have hkf := Lib.hid ((k7.out.trans (KeepsOthers.setCell w7 ⟨gNb, 0, none⟩ (.int .i64 ((k : Int) + 1)))).from wAb.heap.size)
      have h8' := Lib.hid h8
      have hmidE := Lib.hid (mid_of2 (lo := 0) (B := V.heap.size) hb1'.out h8.bel (Nat.le_trans hp'.out.bel.size hkf.out.size) (Nat.le_refl _))
      clear h8 ek h7x k7
      by_cases hbk : (k : Int) + 1 = stop
      · have hbk' := Lib.hid hbk
        have d3 : ((k : Int) + 1 == stop) = true := by simp [hbk]
        clear hbk
        gi_wp2_with fail
        refine ⟨hkf.out, rfl, ?_, ?_, ?_, zs ++ [⟨A1, bd, c1⟩], A5, c5, ?_, ?_⟩
        · rw [List.length_append, hk]
          have := hbk'.out
          simp
          omega
        · rw [List.length_append, hk]
          simp
        · rw [List.length_append, hk]
          simp
          omega
        · rw [List.length_append, List.length_append, hk]
          simp
          try omega
        · rw [List.length_append, hk]
          show GpI _ _ _ _ _ _ ((ls.take (k + 1)).sum) _ _ _ _ _
          rw [← hpn.out]
          exact h8'.out
      · have d3 : ((k : Int) + 1 == stop) = false := by simp [hbk]
        clear hbk
        gi_wp2_with fail
        refine ⟨hkf.out, hmidE.out, zs ++ [⟨A1, bd, c1⟩], A5, c5, ?_, ?_⟩
        · rw [List.length_append, List.length_append, hk]
          simp
          try omega
        · rw [List.length_append, hk]
          show GpI _ _ _ _ _ _ ((ls.take (k + 1)).sum) _ _ _ _ _
          rw [← hpn.out]
          exact h8'.out
    · rintro Db xsb Wb hDb hxsb ⟨zsb, AKb, cKb, hzb, hgb⟩ hmarkb
      have hla : xsb.length = N := by
        have e : xsb.length = (Gear.cut a m x l).length := hxsb
        rw [e, hls.out (), hN.out ()]
      rw [hla] at hzb hgb
      have hzb' : Hid (zsb.length ≤ N + N) := Lib.hid (by omega)
      have hgb' := Lib.hid hgb
      have hmkb := Lib.hid hmarkb
      have hDb' := Lib.hid hDb
      have b3 := hgb.bel
      obtain ⟨cR, cA, cN, fR, _, _⟩ := hgb.cells
      have cR : Wb.cell? ⟨gRb, 0, none⟩ = some (.int .i64 1) := cR
      have cS := (b3.cell (p := ⟨w.heap.size + 1, 0, none⟩) (Nat.lt_of_succ_lt hwV.out)).trans xS.out
      have cLs := (b3.cell (p := ⟨gL, 0, none⟩) hgLV.out).trans xL.out
      clear hla hxsb hzb hgb hmarkb hDb b3
      go_upto_region 21 with fail
      go_cut [99] from 82 to 98 (fun cz wz => cz = .bool false ∧ wz = Wb)
      case first =>
        by_cases hs1 : stop < 1
        · have d1 : decide (stop < 1) = true := decide_eq_true hs1
          go_wp2_with fail
          go_meet
          exact ⟨rfl, rfl⟩
        · have d1 : decide (stop < 1) = false := decide_eq_false hs1
          by_cases hs2 : (N : Int) < stop
          · have d2 : decide ((N : Int) < stop) = true := decide_eq_true hs2
            go_wp2_with fail
            go_meet
            exact ⟨rfl, rfl⟩
          · have d2 : decide ((N : Int) < stop) = false := decide_eq_false hs2
            go_wp2_with fail
            go_meet
            exact ⟨rfl, rfl⟩
      case rest =>
        obtain ⟨rfl, hwz⟩ := hcut
        rw [hwz]
        clear hwz
        go_wp2_with fail
        rw [rounds_succ]
        go_wp2_with fail
        have hnx : GpI V Wb.heap.size (Wb.heap.size + 1) (Wb.heap.size + 1 + 1) (Db :: [Da]) 2 0 0 zsb AKb cKb (((Wb.alloc (.cells #[.int .i64 2] 3)).alloc (.cells #[.int .i64 0] 3)).alloc (.cells #[.int .i64 0] 3)) := GpI.next hgb'.out hmkb.out 2
        have hIc := Lib.hid hnx
        have hdsc : Hid (∀ E ∈ Db :: [Da], E < (((Wb.alloc (.cells #[.int .i64 2] 3)).alloc (.cells #[.int .i64 0] 3)).alloc (.cells #[.int .i64 0] 3)).heap.size) := Lib.hid fun E hE => lt_of_heap (hnx.k_.ds E hE)
        have hzc := Lib.hid hzb'.out
        clear hnx cR cA cN fR cS cLs hgb' hmkb hzb'
        generalize (((Wb.alloc (.cells #[.int .i64 2] 3)).alloc (.cells #[.int .i64 0] 3)).alloc (.cells #[.int .i64 0] 3)) = wAc at hIc hdsc ⊢
        obtain ⟨gNc, hg1⟩ : ∃ g, Wb.heap.size + 1 + 1 = g := ⟨_, rfl⟩
        rw [hg1] at hIc ⊢
        obtain ⟨gAc, hg2⟩ : ∃ g, Wb.heap.size + 1 = g := ⟨_, rfl⟩
        rw [hg2] at hIc ⊢
        obtain ⟨gRc, hg3⟩ : ∃ g, Wb.heap.size = g := ⟨_, rfl⟩
        rw [hg3] at hIc ⊢
        clear hg1 hg2 hg3
        have hszc : Hid (V.heap.size < wAc.heap.size) := Lib.hid (lt_of_heap hIc.out.k_.ke)
        refine wp_rangeFunc (gf := 33) (lb := #[.pointer (some ⟨gr, 0, none⟩), .pointer (some ⟨gd, 0, none⟩)]) rfl (enters_of Tryd.func33 (by kernel_rfl) rfl) (encs := precV) (fun _ => rfl) (G := PcG a m x l) (fun h => h.2.2.2)
          (pieces_seq a m x l gr gd (some ⟨gl, 0, none⟩) cl n V hl'.out hn'.out (by omega) (by omega) p0'.out p1'.out p2'.out p3'.out hlV.out hTV.out) (Mid.of_below hIc.out.bel (Nat.le_refl _)) (Nat.le_of_lt hszc.out)
          (fun pre W => ∃ zs AK cK, zs.length ≤ (N + N) + pre.length ∧ GpI V gRc gAc gNc [Db, Da] 2 ((ls.take pre.length).sum) pre.length zs AK cK W) (fun _ _ _ => False) ?_ (fun _ _ _ _ h _ => h) ?_ ⟨zsb, _, _, Nat.le_trans hzc.out (Nat.le_add_right _ _), hIc.out⟩ ?_ ?_ (fun _ _ _ _ _ _ h _ => h.elim)
        · rintro pre W W' ⟨zs, AK, cK, hz, h⟩ hp
          exact ⟨zs, AK, cK, hz, h.puts hp (Nat.le_of_lt hszc.out) hdsc.out⟩
        · rintro pre W W' ⟨zs, AK, cK, hz, h⟩ hb
          exact ⟨zs, AK, cK, hz, h.keep hb⟩
        · rintro lp pre ⟨p, bd, A1, c1⟩ W0 W1 hlp ⟨zs, AK, cK, hz, hgo⟩ hlt ⟨g1, g2, g4, g5⟩
          obtain ⟨k, hk⟩ : ∃ k, pre.length = k := ⟨_, rfl⟩
          rw [hk] at hz hgo g1 g2
          unfold pieceAt at g2
          simp only [hls.out ()] at g1 g2 g4
          rw [hN.out ()] at g1
          have hok : okRule a m x := by
            by_cases ok : okRule a m x
            · exact ok
            · have e := hls.out ()
              rw [Gear.cut_no ok] at e
              rw [← hN.out (), ← e] at g1
              simp at g1
          obtain ⟨rfl, rfl⟩ : p = (ls.take k).sum ∧ bd = (l.drop (ls.take k).sum).take (ls[k]?.getD 0) := Prod.mk.inj g2
          have hgs := get_some (l := ls) (k := k) (by rw [hN.out ()]; exact g1)
          have hsn := Gear.sum_take_snoc hgs
          have hsm := sum_take_le ls (k + 1)
          have hsum : ls.sum = n := by rw [← hls.out (), Gear.cut_sum hok _ _ (Nat.le_refl _), hn'.out]
          rw [hsum] at hsm
          have hsn' := Lib.hid hsn
          obtain ⟨y, hy⟩ : ∃ y, ls[k]?.getD 0 = y := ⟨_, rfl⟩
          rw [hy] at g4 hsn' hsn
          obtain ⟨p, hp⟩ : ∃ p, (ls.take k).sum = p := ⟨_, rfl⟩
          rw [hp] at g4 hsn' hsn hgo
          have hpy : p + y ≤ n := by omega
          have hby : ((l.drop p).take y).length = y := by rw [List.length_take, List.length_drop, hn'.out]; omega
          have hAVb : Byt V V.heap.size A l := hAV.out
          have hdat : Byt V V.heap.size (cutA A p c) ((l.drop p).take y) := Byt.take (hAVb.cut (k := p) (cap := c) (by rw [hn'.out]; omega) (by rw [hn'.out]; exact hc)) y (by rw [List.length_drop, hn'.out]; omega)
          obtain ⟨bd, hbd⟩ : ∃ bd, (l.drop p).take y = bd := ⟨_, rfl⟩
          rw [hbd] at g4 hby hdat
          have hby' := Lib.hid hby
          have hdat' := Lib.hid hdat
          rw [hby] at g4
          obtain ⟨gq, hgq0⟩ := oLV.out.head (by omega)
          have hgq := Lib.hid hgq0
          have oLg := oLV.out
          rw [hgq0] at oLg
          have qq0 := oLg.cell k (by omega)
          have hi64 : (i64s ls)[k]? = some (.int .i64 (y : Nat)) := by
            have h1 : k < ls.length := by rw [hN.out ()]; exact g1
            unfold i64s
            rw [List.getElem?_map, hgs, hy]
            rfl
          rw [hi64] at qq0
          have qq := Lib.hid qq0
          have hgqV : gq < V.heap.size := (oLg.lt gq rfl).2
          have hw1 := Lib.hid (hgo.keep g5)
          have o1 := Lib.hid (g4.base (show V.heap.size + 1 ≤ W0.heap.size from lt_of_heap hgo.k_.ke))
          have hdz : Hid (∀ y ∈ zs, Dis y.A A1) := Lib.hid fun y hy => Dis.of_lt (fun i hi => ((hgo.k_.each y hy).lt i hi).2) (fun i hi => (g4.lt i hi).1)
          have hs2 := fun W => gp_slice_mid A n c p (p + y) ((p : Int) + (y : Int)) (by omega) (by omega) (by omega) W
          rw [show p + y - p = y by omega] at hs2
          have hpn : Hid (p + y = (ls.take (k + 1)).sum) := Lib.hid hsn.symm
          have hkN := g1
          rw [hp, hy, hbd]
          dsimp only [precV]
          rw [hby]
          clear hAVb hby hdat hgq0 oLg qq0 hi64 hgo g4 g5 g2 hgs hsn hsn' hsm hsum g1 hok
          gi_wp2
          refine ⟨KeepsFrom.refl _ _, fun W3 hpp => ?_⟩
          have h3 := Lib.hid (hw1.out.puts hpp (Nat.le_of_lt hszc.out) hdsc.out)
          have o3 := Lib.hid (o1.out.puts hpp)
          have hp' := Lib.hid hpp
          have hb1' := Lib.hid hw1.out.bel
          clear hpp hw1 o1
          have b3 := h3.out.bel
          obtain ⟨cR, cA, cN, _, fA, fN⟩ := h3.out.cells
          obtain ⟨cKe, fKe⟩ := h3.out.k_.cell
          have cS := (b3.cell (p := ⟨w.heap.size + 1, 0, none⟩) (Nat.lt_of_succ_lt hwV.out)).trans xS.out
          have cD := (b3.cell (p := ⟨w.heap.size, 3, none⟩) (Nat.lt_of_succ_lt (Nat.lt_of_succ_lt hwV.out))).trans xD.out
          have cLs := (b3.cell (p := ⟨gL, 0, none⟩) hgLV.out).trans xL.out
          rw [hgq.out] at cLs
          have cq := (b3.cell (p := ⟨gq, k, none⟩) hgqV).trans qq.out
          have hsame := Lib.hid fun q : Nat => same_eq A1 (cutA A p c) c1 (c - p) y (fun j => ((bd[j]?.getD 0 : Nat) : Int)) W3.heap.size W3.heap.size (W3.drewN q) (by omega) (by have h : Byt W3 W3.heap.size A1 bd := Own.byt (c := c1) (n := y) o3.out; unfold Byt at h; rw [hby'.out] at h; exact Rd.drewN h q) (by have h : Byt W3 W3.heap.size (cutA A p c) bd := (hdat'.out.below b3).mono b3.size; unfold Byt at h; rw [hby'.out] at h; exact Rd.drewN h q)
          clear b3
          have i1 : (k : Int) < (N : Int) := by omega
          have i0 : (0 : Int) ≤ (k : Int) := by omega
          have d1 : decide ((N : Int) ≤ (k : Int)) = false := decide_eq_false (by omega)
          have d2 : decide (N ≤ k) = false := decide_eq_false (by omega)
          gi_wp2_with fail
          refine wpIn_region_quiet_round (by kernel_rfl) (by kernel_rfl) (hnd_of (by rfl)) ?_
          repeat (go_big_quiet_step ((go_at_call 20; exact quiet_d (hsame.out _))))
          refine wpQuiet_nil ?_
          intro _ hw'
          obtain ⟨nq, hw''⟩ := hw'
          subst hw''
          have h4 := Lib.hid (h3.out.drew nq)
          have o4 := Lib.hid (o3.out.drewN nq)
          gi_wp2_with (first
            | (gi_at_builtin; refine wpListIn_app1h elS _ #[_] rfl rfl _ _ rfl rfl h4.out.k_.own _ (by simp) rfl (by intro u hu; simp at hu; subst hu; rfl) (by unfold maxLen; omega) (by omega) (by have := lt_of_heap h4.out.k_.ke; omega) (zs.length + 1) rfl _ rfl ?_
               intro A5 c5 w5 o5 at5 b5
               have h5 := Lib.hid (GpI.app (x := ⟨A1, bd, c1⟩) h4.out at5 (by simp only [Pt.v, hby'.out]; exact o5) (by simp only [hby'.out]; exact o4.out) (by rw [hby'.out]; omega) hdz.out)
               have q5 := (b5.cell (p := ⟨V.heap.size, 0, none⟩) (Nat.lt_succ_self _)).trans h4.out.k_.cell.1
               have f5 := (b5.frozen (p := ⟨V.heap.size, 0, none⟩) (Nat.lt_succ_self _)).trans h4.out.k_.cell.2
               have k5 := Lib.hid ((at5.keeps h4.out.k_.own).trans (KeepsOthers.setCell w5 ⟨V.heap.size, 0, none⟩ (.slice A5 (zs.length + 1) c5)))
               clear o5 at5 b5 cKe fKe cR cA cN fA fN cS cD cLs cq))
          clear q5 f5
          generalize w5.setCell ⟨V.heap.size, 0, none⟩ (.slice A5 (zs.length + 1) c5) = w6 at h5 k5 ⊢
          have b6 := h5.out.bel
          obtain ⟨cR, cA, cN, _, fA, fN⟩ := h5.out.cells
          have cLs := (b6.cell (p := ⟨gL, 0, none⟩) hgLV.out).trans xL.out
          rw [hgq.out] at cLs
          have cq := (b6.cell (p := ⟨gq, k, none⟩) hgqV).trans qq.out
          clear b6
          apply wpIn_meet
          · gi_region_with fail
            all_goals exact ⟨rfl, rfl, rfl⟩
          have hwr : IntKind.i64.wrap ((p : Int) + (y : Int)) = ((p + y : Nat) : Int) := by rw [IntKind.wrap_i64]; omega
          rw [hwr]
          have h7 := Lib.hid ((h5.out.setA (p + y)).drew 1)
          have k7 : Hid (KeepsOthers W3 (w6.setCell ⟨gAc, 0, none⟩ (.int .i64 ((p + y : Nat) : Int))).drew) := Lib.hid (((show KeepsOthers W3 (W3.drewN nq) from ⟨Nat.le_refl _, fun _ _ h _ => h⟩).trans k5.out).trans ((KeepsOthers.setCell w6 ⟨gAc, 0, none⟩ (.int .i64 ((p + y : Nat) : Int))).trans (KeepsOthers.drew _)))
          have h7x : Hid (GpI V gRc gAc gNc [Db, Da] 2 (p + y) k (zs ++ [⟨A1, bd, c1⟩]) A5 c5 (w6.setCell ⟨gAc, 0, none⟩ (.int .i64 ((p + y : Nat) : Int))).drew) := h7
          clear cR cA cN fA fN cLs cq h5 k5 h7 hwr
          generalize (w6.setCell ⟨gAc, 0, none⟩ (.int .i64 ((p + y : Nat) : Int))).drew = w7 at h7x k7 ⊢
          obtain ⟨_, _, cN, _, _, fN⟩ := h7x.out.cells
          have h8 := h7x.out.setN (k + 1)
          have ek : ((k + 1 : Nat) : Int) = (k : Int) + 1 := by omega
          rw [ek] at h8
          have e1 : (w7.setCell ⟨gNc, 0, none⟩ (.int .i64 ((k : Int) + 1))).cell? ⟨gRc, 0, none⟩ = some (.int .i64 2) := h8.cells.1
          have e2 : (w7.setCell ⟨gNc, 0, none⟩ (.int .i64 ((k : Int) + 1))).cell? ⟨gNc, 0, none⟩ = some (.int .i64 ((k : Int) + 1)) := by
            have := h8.cells.2.2.1
            rw [ek] at this
            exact this
          have e3 := (h8.bel.cell (p := ⟨w.heap.size + 1, 0, none⟩) (Nat.lt_of_succ_lt hwV.out)).trans xS.out
          have hkf := Lib.hid ((k7.out.trans (KeepsOthers.setCell w7 ⟨gNc, 0, none⟩ (.int .i64 ((k : Int) + 1)))).from wAc.heap.size)
          have h8' := Lib.hid h8
          have hmidE := Lib.hid (mid_of2 (lo := 0) (B := V.heap.size) hb1'.out h8.bel (Nat.le_trans hp'.out.bel.size hkf.out.size) (Nat.le_refl _))
          clear h8 ek h7x k7
          gi_wp2_with fail
          refine ⟨hkf.out, hmidE.out, zs ++ [⟨A1, bd, c1⟩], A5, c5, ?_, ?_⟩
          · rw [List.length_append, List.length_append, hk]
            simp
            try omega
          · rw [List.length_append, hk]
            show GpI _ _ _ _ _ _ ((ls.take (k + 1)).sum) _ _ _ _ _
            rw [← hpn.out]
            exact h8'.out
        · rintro Dc xsc Wc hDc hxsc ⟨zsc, AKc, cKc, hzc, hgc⟩ hmarkc
          have hla : xsc.length = N := by
            have e : xsc.length = (Gear.cut a m x l).length := hxsc
            rw [e, hls.out (), hN.out ()]
          rw [hla] at hzc hgc
          have hzc' : Hid (zsc.length ≤ N + N + N) := Lib.hid (by omega)
          have hgc' := Lib.hid hgc
          have hmkc := Lib.hid hmarkc
          have hDc' := Lib.hid hDc
          have b3 := hgc.bel
          obtain ⟨cR, cA, cN, fR, _, _⟩ := hgc.cells
          have cR : Wc.cell? ⟨gRc, 0, none⟩ = some (.int .i64 2) := cR
          have cS := (b3.cell (p := ⟨w.heap.size + 1, 0, none⟩) (Nat.lt_of_succ_lt hwV.out)).trans xS.out
          have cLs := (b3.cell (p := ⟨gL, 0, none⟩) hgLV.out).trans xL.out
          clear hla hxsc hzc hgc hmarkc hDc b3
          go_wp2_with fail
          rw [rounds_succ]
          have hbx : Below Wc.heap.size Wc (Wc.alloc (.cells #[.int .i64 3] 3)) := (Below.refl _ _).alloc (Nat.le_refl _) _
          have hKF := Lib.hid ((hgc'.out.k_.mark hmkc.out).keep hbx)
          have hbF := Lib.hid (hgc'.out.bel.trans (hbx.mono hgc'.out.bel.size))
          have cKe := hKF.out.cell.1
          have hlf := Lib.hid fun (W : World) (hW : Below V.heap.size V W) => left_any W l A c cl gl ((hAV.out.below hW).mono hW.size) ((olV.out.byt.below hW).mono hW.size) (by rw [hn'.out]; omega) (by rw [hn'.out]; omega)
          rw [hn'.out] at hlf
          have c3 : (Wc.alloc (.cells #[.int .i64 3] 3)).cell? ⟨Wc.heap.size, 0, none⟩ = some (.int .i64 3) := cell_of_row _ _ 0 _ _ _ (heap_alloc_new Wc _)
          clear hbx cR cA cN fR cS cLs
          go_wp2_with (first
            | (go_at_call 21; refine (hKF.out.calls (by have := hzc'.out; omega)).mono ?_; rintro e w9 ⟨rfl, hb9, ho9⟩
               have hb9' := Lib.hid (hbF.out.trans (hb9.mono (Nat.le_succ _)))
               have ho9' := Lib.hid ho9
               have y3 := (hb9'.out.cell (p := ⟨w.heap.size, 3, none⟩) (Nat.lt_of_succ_lt (Nat.lt_of_succ_lt hwV.out))).trans xD.out
               clear hb9 ho9 cKe c3)
            | (go_at_call 14; refine (hlf.out _ hb9'.out).mono ?_; rintro e w' ⟨rfl, q9, rfl⟩; clear hlf y3)
            | (go_at_call 16; refine (lives_any _ (hTV.out.below (below_drewN hb9'.out q9))).mono ?_; rintro e w10 ⟨rfl, hb10⟩
               have hb10' := Lib.hid hb10
               have hbG := Lib.hid ((below_drewN hb9'.out q9).trans (hb10.mono (below_drewN hb9'.out q9).size))
               have r10 : w10.cell? ⟨w.heap.size + 1 + 1, 0, none⟩ = some (.bool false) := (hbG.out.cell (p := ⟨w.heap.size + 2, 0, none⟩) hwV.out).trans (cell_of_row V _ 0 _ _ _ xR.out)
               have f10 : w10.frozen? ⟨w.heap.size + 1 + 1, 0, none⟩ = false := (hbG.out.frozen (p := ⟨w.heap.size + 2, 0, none⟩) hwV.out).trans (frozen_of_row V _ 0 _ _ xR.out)
               clear hb10))
          have hda : V.heap.size ≤ Da := Nat.le_trans (Nat.le_of_lt hsza.out) hDa'.out
          have hdb : Da < Db := Nat.lt_of_lt_of_le (hdsb.out Da (by simp)) hDb'.out
          have hdc : Db < Dc := Nat.lt_of_lt_of_le (hdsc.out Db (by simp)) hDc'.out
          refine leaves_marksG [Dc, Db, Da] _ (by simp; omega) (fun D hD => ?_) (fun W hp => ?_)
          · have h1 := ho9'.out.same D _ (hKF.out.ds D hD) rfl
            have h2 : w10.heap[D]? = some (.deferred (some [])) := (hb10'.out.block D (lt_of_heap h1)).trans h1
            refine (heap_setCell_other w10 _ D _ fun e => ?_).trans h2
            have e' : D = w.heap.size + 1 + 1 := e
            have := hwV.out
            simp only [List.mem_cons, List.not_mem_nil, or_false] at hD
            omega
          · have hp2 := hp V.heap.size (fun D hD => by
              simp only [List.mem_cons, List.not_mem_nil, or_false] at hD
              omega)
            refine ⟨_, results_cell1 rfl rfl (gp_loadVar_bool (hp2.cell (World.cell?_setCell_same w10 _ _ r10))), rfl, ?_⟩
            have hlo : Below w.heap.size V w10 := hbG.out.mono (by have := hwV.out; omega)
            exact below_puts ((hBV.out.trans hlo).setCell (p := ⟨w.heap.size + 1 + 1, 0, none⟩) (by simp only; omega) _) hp2 (by have := hwV.out; omega)
    · rintro Db cX preX Wb hDb _ ⟨rfl, hps, hp1, hpN, zsb, AKb, cKb, hzb, hgb⟩ hmarkb
      obtain ⟨j, hj⟩ : ∃ j, preX.length = j := ⟨_, rfl⟩
      rw [hj] at hzb hgb hps hp1 hpN
      have hzb' : Hid (zsb.length ≤ N + N) := Lib.hid (by omega)
      have s1 : decide (stop < 1) = false := decide_eq_false (by omega)
      have s2 : decide ((N : Int) < stop) = false := decide_eq_false (by omega)
      have s3 : (1 : Int) ≤ stop := by omega
      have s4 : stop ≤ (N : Int) := by omega
      have hgb' := Lib.hid hgb
      have hmkb := Lib.hid hmarkb
      have hDb' := Lib.hid hDb
      have b3 := hgb.bel
      obtain ⟨cR, cA, cN, fR, _, _⟩ := hgb.cells
      have cR : Wb.cell? ⟨gRb, 0, none⟩ = some (.int .i64 1) := cR
      have cS := (b3.cell (p := ⟨w.heap.size + 1, 0, none⟩) (Nat.lt_of_succ_lt hwV.out)).trans xS.out
      have cLs := (b3.cell (p := ⟨gL, 0, none⟩) hgLV.out).trans xL.out
      clear hj hps hzb hgb hmarkb hDb b3
      go_wp2_with fail
      rw [rounds_succ]
      go_wp2_with fail
      have hnx : GpI V Wb.heap.size (Wb.heap.size + 1) (Wb.heap.size + 1 + 1) (Db :: [Da]) 2 0 0 zsb AKb cKb (((Wb.alloc (.cells #[.int .i64 2] 3)).alloc (.cells #[.int .i64 0] 3)).alloc (.cells #[.int .i64 0] 3)) := GpI.next hgb'.out hmkb.out 2
      have hIc := Lib.hid hnx
      have hdsc : Hid (∀ E ∈ Db :: [Da], E < (((Wb.alloc (.cells #[.int .i64 2] 3)).alloc (.cells #[.int .i64 0] 3)).alloc (.cells #[.int .i64 0] 3)).heap.size) := Lib.hid fun E hE => lt_of_heap (hnx.k_.ds E hE)
      have hzc := Lib.hid hzb'.out
      clear hnx cR cA cN fR cS cLs hgb' hmkb hzb'
      generalize (((Wb.alloc (.cells #[.int .i64 2] 3)).alloc (.cells #[.int .i64 0] 3)).alloc (.cells #[.int .i64 0] 3)) = wAc at hIc hdsc ⊢
      obtain ⟨gNc, hg1⟩ : ∃ g, Wb.heap.size + 1 + 1 = g := ⟨_, rfl⟩
      rw [hg1] at hIc ⊢
      obtain ⟨gAc, hg2⟩ : ∃ g, Wb.heap.size + 1 = g := ⟨_, rfl⟩
      rw [hg2] at hIc ⊢
      obtain ⟨gRc, hg3⟩ : ∃ g, Wb.heap.size = g := ⟨_, rfl⟩
      rw [hg3] at hIc ⊢
      clear hg1 hg2 hg3
      have hszc : Hid (V.heap.size < wAc.heap.size) := Lib.hid (lt_of_heap hIc.out.k_.ke)
      refine wp_rangeFunc (gf := 33) (lb := #[.pointer (some ⟨gr, 0, none⟩), .pointer (some ⟨gd, 0, none⟩)]) rfl (enters_of Tryd.func33 (by kernel_rfl) rfl) (encs := precV) (fun _ => rfl) (G := PcG a m x l) (fun h => h.2.2.2)
        (pieces_seq a m x l gr gd (some ⟨gl, 0, none⟩) cl n V hl'.out hn'.out (by omega) (by omega) p0'.out p1'.out p2'.out p3'.out hlV.out hTV.out) (Mid.of_below hIc.out.bel (Nat.le_refl _)) (Nat.le_of_lt hszc.out)
        (fun pre W => ∃ zs AK cK, zs.length ≤ (N + N) + pre.length ∧ GpI V gRc gAc gNc [Db, Da] 2 ((ls.take pre.length).sum) pre.length zs AK cK W) (fun _ _ _ => False) ?_ (fun _ _ _ _ h _ => h) ?_ ⟨zsb, _, _, Nat.le_trans hzc.out (Nat.le_add_right _ _), hIc.out⟩ ?_ ?_ (fun _ _ _ _ _ _ h _ => h.elim)
      · rintro pre W W' ⟨zs, AK, cK, hz, h⟩ hp
        exact ⟨zs, AK, cK, hz, h.puts hp (Nat.le_of_lt hszc.out) hdsc.out⟩
      · rintro pre W W' ⟨zs, AK, cK, hz, h⟩ hb
        exact ⟨zs, AK, cK, hz, h.keep hb⟩
      · rintro lp pre ⟨p, bd, A1, c1⟩ W0 W1 hlp ⟨zs, AK, cK, hz, hgo⟩ hlt ⟨g1, g2, g4, g5⟩
        obtain ⟨k, hk⟩ : ∃ k, pre.length = k := ⟨_, rfl⟩
        rw [hk] at hz hgo g1 g2
        unfold pieceAt at g2
        simp only [hls.out ()] at g1 g2 g4
        rw [hN.out ()] at g1
        have hok : okRule a m x := by
          by_cases ok : okRule a m x
          · exact ok
          · have e := hls.out ()
            rw [Gear.cut_no ok] at e
            rw [← hN.out (), ← e] at g1
            simp at g1
        obtain ⟨rfl, rfl⟩ : p = (ls.take k).sum ∧ bd = (l.drop (ls.take k).sum).take (ls[k]?.getD 0) := Prod.mk.inj g2
        have hgs := get_some (l := ls) (k := k) (by rw [hN.out ()]; exact g1)
        have hsn := Gear.sum_take_snoc hgs
        have hsm := sum_take_le ls (k + 1)
        have hsum : ls.sum = n := by rw [← hls.out (), Gear.cut_sum hok _ _ (Nat.le_refl _), hn'.out]
        rw [hsum] at hsm
        have hsn' := Lib.hid hsn
        obtain ⟨y, hy⟩ : ∃ y, ls[k]?.getD 0 = y := ⟨_, rfl⟩
        rw [hy] at g4 hsn' hsn
        obtain ⟨p, hp⟩ : ∃ p, (ls.take k).sum = p := ⟨_, rfl⟩
        rw [hp] at g4 hsn' hsn hgo
        have hpy : p + y ≤ n := by omega
        have hby : ((l.drop p).take y).length = y := by rw [List.length_take, List.length_drop, hn'.out]; omega
        have hAVb : Byt V V.heap.size A l := hAV.out
        have hdat : Byt V V.heap.size (cutA A p c) ((l.drop p).take y) := Byt.take (hAVb.cut (k := p) (cap := c) (by rw [hn'.out]; omega) (by rw [hn'.out]; exact hc)) y (by rw [List.length_drop, hn'.out]; omega)
        obtain ⟨bd, hbd⟩ : ∃ bd, (l.drop p).take y = bd := ⟨_, rfl⟩
        rw [hbd] at g4 hby hdat
        have hby' := Lib.hid hby
        have hdat' := Lib.hid hdat
        rw [hby] at g4
        obtain ⟨gq, hgq0⟩ := oLV.out.head (by omega)
        have hgq := Lib.hid hgq0
        have oLg := oLV.out
        rw [hgq0] at oLg
        have qq0 := oLg.cell k (by omega)
        have hi64 : (i64s ls)[k]? = some (.int .i64 (y : Nat)) := by
          have h1 : k < ls.length := by rw [hN.out ()]; exact g1
          unfold i64s
          rw [List.getElem?_map, hgs, hy]
          rfl
        rw [hi64] at qq0
        have qq := Lib.hid qq0
        have hgqV : gq < V.heap.size := (oLg.lt gq rfl).2
        have hw1 := Lib.hid (hgo.keep g5)
        have o1 := Lib.hid (g4.base (show V.heap.size + 1 ≤ W0.heap.size from lt_of_heap hgo.k_.ke))
        have hdz : Hid (∀ y ∈ zs, Dis y.A A1) := Lib.hid fun y hy => Dis.of_lt (fun i hi => ((hgo.k_.each y hy).lt i hi).2) (fun i hi => (g4.lt i hi).1)
        have hs2 := fun W => gp_slice_mid A n c p (p + y) ((p : Int) + (y : Int)) (by omega) (by omega) (by omega) W
        rw [show p + y - p = y by omega] at hs2
        have hpn : Hid (p + y = (ls.take (k + 1)).sum) := Lib.hid hsn.symm
        have hkN := g1
        rw [hp, hy, hbd]
        dsimp only [precV]
        rw [hby]
        clear hAVb hby hdat hgq0 oLg qq0 hi64 hgo g4 g5 g2 hgs hsn hsn' hsm hsum g1 hok
        gi_wp2
        refine ⟨KeepsFrom.refl _ _, fun W3 hpp => ?_⟩
        have h3 := Lib.hid (hw1.out.puts hpp (Nat.le_of_lt hszc.out) hdsc.out)
        have o3 := Lib.hid (o1.out.puts hpp)
        have hp' := Lib.hid hpp
        have hb1' := Lib.hid hw1.out.bel
        clear hpp hw1 o1
        have b3 := h3.out.bel
        obtain ⟨cR, cA, cN, _, fA, fN⟩ := h3.out.cells
        obtain ⟨cKe, fKe⟩ := h3.out.k_.cell
        have cS := (b3.cell (p := ⟨w.heap.size + 1, 0, none⟩) (Nat.lt_of_succ_lt hwV.out)).trans xS.out
        have cD := (b3.cell (p := ⟨w.heap.size, 3, none⟩) (Nat.lt_of_succ_lt (Nat.lt_of_succ_lt hwV.out))).trans xD.out
        have cLs := (b3.cell (p := ⟨gL, 0, none⟩) hgLV.out).trans xL.out
        rw [hgq.out] at cLs
        have cq := (b3.cell (p := ⟨gq, k, none⟩) hgqV).trans qq.out
        have hsame := Lib.hid fun q : Nat => same_eq A1 (cutA A p c) c1 (c - p) y (fun j => ((bd[j]?.getD 0 : Nat) : Int)) W3.heap.size W3.heap.size (W3.drewN q) (by omega) (by have h : Byt W3 W3.heap.size A1 bd := Own.byt (c := c1) (n := y) o3.out; unfold Byt at h; rw [hby'.out] at h; exact Rd.drewN h q) (by have h : Byt W3 W3.heap.size (cutA A p c) bd := (hdat'.out.below b3).mono b3.size; unfold Byt at h; rw [hby'.out] at h; exact Rd.drewN h q)
        clear b3
        have i1 : (k : Int) < (N : Int) := by omega
        have i0 : (0 : Int) ≤ (k : Int) := by omega
        have d1 : decide ((N : Int) ≤ (k : Int)) = false := decide_eq_false (by omega)
        have d2 : decide (N ≤ k) = false := decide_eq_false (by omega)
        gi_wp2_with fail
        refine wpIn_region_quiet_round (by kernel_rfl) (by kernel_rfl) (hnd_of (by rfl)) ?_
        repeat (go_big_quiet_step ((go_at_call 20; exact quiet_d (hsame.out _))))
        refine wpQuiet_nil ?_
        intro _ hw'
        obtain ⟨nq, hw''⟩ := hw'
        subst hw''
        have h4 := Lib.hid (h3.out.drew nq)
        have o4 := Lib.hid (o3.out.drewN nq)
        gi_wp2_with (first
          | (gi_at_builtin; refine wpListIn_app1h elS _ #[_] rfl rfl _ _ rfl rfl h4.out.k_.own _ (by simp) rfl (by intro u hu; simp at hu; subst hu; rfl) (by unfold maxLen; omega) (by omega) (by have := lt_of_heap h4.out.k_.ke; omega) (zs.length + 1) rfl _ rfl ?_
             intro A5 c5 w5 o5 at5 b5
             have h5 := Lib.hid (GpI.app (x := ⟨A1, bd, c1⟩) h4.out at5 (by simp only [Pt.v, hby'.out]; exact o5) (by simp only [hby'.out]; exact o4.out) (by rw [hby'.out]; omega) hdz.out)
             have q5 := (b5.cell (p := ⟨V.heap.size, 0, none⟩) (Nat.lt_succ_self _)).trans h4.out.k_.cell.1
             have f5 := (b5.frozen (p := ⟨V.heap.size, 0, none⟩) (Nat.lt_succ_self _)).trans h4.out.k_.cell.2
             have k5 := Lib.hid ((at5.keeps h4.out.k_.own).trans (KeepsOthers.setCell w5 ⟨V.heap.size, 0, none⟩ (.slice A5 (zs.length + 1) c5)))
             clear o5 at5 b5 cKe fKe cR cA cN fA fN cS cD cLs cq))
        clear q5 f5
        generalize w5.setCell ⟨V.heap.size, 0, none⟩ (.slice A5 (zs.length + 1) c5) = w6 at h5 k5 ⊢
        have b6 := h5.out.bel
        obtain ⟨cR, cA, cN, _, fA, fN⟩ := h5.out.cells
        have cLs := (b6.cell (p := ⟨gL, 0, none⟩) hgLV.out).trans xL.out
        rw [hgq.out] at cLs
        have cq := (b6.cell (p := ⟨gq, k, none⟩) hgqV).trans qq.out
        clear b6
        apply wpIn_meet
        · gi_region_with fail
          all_goals exact ⟨rfl, rfl, rfl⟩
        have hwr : IntKind.i64.wrap ((p : Int) + (y : Int)) = ((p + y : Nat) : Int) := by rw [IntKind.wrap_i64]; omega
        rw [hwr]
        have h7 := Lib.hid ((h5.out.setA (p + y)).drew 1)
        have k7 : Hid (KeepsOthers W3 (w6.setCell ⟨gAc, 0, none⟩ (.int .i64 ((p + y : Nat) : Int))).drew) := Lib.hid (((show KeepsOthers W3 (W3.drewN nq) from ⟨Nat.le_refl _, fun _ _ h _ => h⟩).trans k5.out).trans ((KeepsOthers.setCell w6 ⟨gAc, 0, none⟩ (.int .i64 ((p + y : Nat) : Int))).trans (KeepsOthers.drew _)))
        have h7x : Hid (GpI V gRc gAc gNc [Db, Da] 2 (p + y) k (zs ++ [⟨A1, bd, c1⟩]) A5 c5 (w6.setCell ⟨gAc, 0, none⟩ (.int .i64 ((p + y : Nat) : Int))).drew) := h7
        clear cR cA cN fA fN cLs cq h5 k5 h7 hwr
        generalize (w6.setCell ⟨gAc, 0, none⟩ (.int .i64 ((p + y : Nat) : Int))).drew = w7 at h7x k7 ⊢
        obtain ⟨_, _, cN, _, _, fN⟩ := h7x.out.cells
        have h8 := h7x.out.setN (k + 1)
        have ek : ((k + 1 : Nat) : Int) = (k : Int) + 1 := by omega
        rw [ek] at h8
        have e1 : (w7.setCell ⟨gNc, 0, none⟩ (.int .i64 ((k : Int) + 1))).cell? ⟨gRc, 0, none⟩ = some (.int .i64 2) := h8.cells.1
        have e2 : (w7.setCell ⟨gNc, 0, none⟩ (.int .i64 ((k : Int) + 1))).cell? ⟨gNc, 0, none⟩ = some (.int .i64 ((k : Int) + 1)) := by
          have := h8.cells.2.2.1
          rw [ek] at this
          exact this
        have e3 := (h8.bel.cell (p := ⟨w.heap.size + 1, 0, none⟩) (Nat.lt_of_succ_lt hwV.out)).trans xS.out
        have hkf := Lib.hid ((k7.out.trans (KeepsOthers.setCell w7 ⟨gNc, 0, none⟩ (.int .i64 ((k : Int) + 1)))).from wAc.heap.size)
        have h8' := Lib.hid h8
        have hmidE := Lib.hid (mid_of2 (lo := 0) (B := V.heap.size) hb1'.out h8.bel (Nat.le_trans hp'.out.bel.size hkf.out.size) (Nat.le_refl _))
        clear h8 ek h7x k7
        gi_wp2_with fail
        refine ⟨hkf.out, hmidE.out, zs ++ [⟨A1, bd, c1⟩], A5, c5, ?_, ?_⟩
        · rw [List.length_append, List.length_append, hk]
          simp
          try omega
        · rw [List.length_append, hk]
          show GpI _ _ _ _ _ _ ((ls.take (k + 1)).sum) _ _ _ _ _
          rw [← hpn.out]
          exact h8'.out
      · rintro Dc xsc Wc hDc hxsc ⟨zsc, AKc, cKc, hzc, hgc⟩ hmarkc
        have hla : xsc.length = N := by
          have e : xsc.length = (Gear.cut a m x l).length := hxsc
          rw [e, hls.out (), hN.out ()]
        rw [hla] at hzc hgc
        have hzc' : Hid (zsc.length ≤ N + N + N) := Lib.hid (by omega)
        have hgc' := Lib.hid hgc
        have hmkc := Lib.hid hmarkc
        have hDc' := Lib.hid hDc
        have b3 := hgc.bel
        obtain ⟨cR, cA, cN, fR, _, _⟩ := hgc.cells
        have cR : Wc.cell? ⟨gRc, 0, none⟩ = some (.int .i64 2) := cR
        have cS := (b3.cell (p := ⟨w.heap.size + 1, 0, none⟩) (Nat.lt_of_succ_lt hwV.out)).trans xS.out
        have cLs := (b3.cell (p := ⟨gL, 0, none⟩) hgLV.out).trans xL.out
        clear hla hxsc hzc hgc hmarkc hDc b3
        go_wp2_with fail
        rw [rounds_succ]
        have hbx : Below Wc.heap.size Wc (Wc.alloc (.cells #[.int .i64 3] 3)) := (Below.refl _ _).alloc (Nat.le_refl _) _
        have hKF := Lib.hid ((hgc'.out.k_.mark hmkc.out).keep hbx)
        have hbF := Lib.hid (hgc'.out.bel.trans (hbx.mono hgc'.out.bel.size))
        have cKe := hKF.out.cell.1
        have hlf := Lib.hid fun (W : World) (hW : Below V.heap.size V W) => left_any W l A c cl gl ((hAV.out.below hW).mono hW.size) ((olV.out.byt.below hW).mono hW.size) (by rw [hn'.out]; omega) (by rw [hn'.out]; omega)
        rw [hn'.out] at hlf
        have c3 : (Wc.alloc (.cells #[.int .i64 3] 3)).cell? ⟨Wc.heap.size, 0, none⟩ = some (.int .i64 3) := cell_of_row _ _ 0 _ _ _ (heap_alloc_new Wc _)
        clear hbx cR cA cN fR cS cLs
        go_wp2_with (first
          | (go_at_call 21; refine (hKF.out.calls (by have := hzc'.out; omega)).mono ?_; rintro e w9 ⟨rfl, hb9, ho9⟩
             have hb9' := Lib.hid (hbF.out.trans (hb9.mono (Nat.le_succ _)))
             have ho9' := Lib.hid ho9
             have y3 := (hb9'.out.cell (p := ⟨w.heap.size, 3, none⟩) (Nat.lt_of_succ_lt (Nat.lt_of_succ_lt hwV.out))).trans xD.out
             clear hb9 ho9 cKe c3)
          | (go_at_call 14; refine (hlf.out _ hb9'.out).mono ?_; rintro e w' ⟨rfl, q9, rfl⟩; clear hlf y3)
          | (go_at_call 16; refine (lives_any _ (hTV.out.below (below_drewN hb9'.out q9))).mono ?_; rintro e w10 ⟨rfl, hb10⟩
             have hb10' := Lib.hid hb10
             have hbG := Lib.hid ((below_drewN hb9'.out q9).trans (hb10.mono (below_drewN hb9'.out q9).size))
             have r10 : w10.cell? ⟨w.heap.size + 1 + 1, 0, none⟩ = some (.bool false) := (hbG.out.cell (p := ⟨w.heap.size + 2, 0, none⟩) hwV.out).trans (cell_of_row V _ 0 _ _ _ xR.out)
             have f10 : w10.frozen? ⟨w.heap.size + 1 + 1, 0, none⟩ = false := (hbG.out.frozen (p := ⟨w.heap.size + 2, 0, none⟩) hwV.out).trans (frozen_of_row V _ 0 _ _ xR.out)
             clear hb10))
        have hda : V.heap.size ≤ Da := Nat.le_trans (Nat.le_of_lt hsza.out) hDa'.out
        have hdb : Da < Db := Nat.lt_of_lt_of_le (hdsb.out Da (by simp)) hDb'.out
        have hdc : Db < Dc := Nat.lt_of_lt_of_le (hdsc.out Db (by simp)) hDc'.out
        refine leaves_marksG [Dc, Db, Da] _ (by simp; omega) (fun D hD => ?_) (fun W hp => ?_)
        · have h1 := ho9'.out.same D _ (hKF.out.ds D hD) rfl
          have h2 : w10.heap[D]? = some (.deferred (some [])) := (hb10'.out.block D (lt_of_heap h1)).trans h1
          refine (heap_setCell_other w10 _ D _ fun e => ?_).trans h2
          have e' : D = w.heap.size + 1 + 1 := e
          have := hwV.out
          simp only [List.mem_cons, List.not_mem_nil, or_false] at hD
          omega
        · have hp2 := hp V.heap.size (fun D hD => by
            simp only [List.mem_cons, List.not_mem_nil, or_false] at hD
            omega)
          refine ⟨_, results_cell1 rfl rfl (gp_loadVar_bool (hp2.cell (World.cell?_setCell_same w10 _ _ r10))), rfl, ?_⟩
          have hlo : Below w.heap.size V w10 := hbG.out.mono (by have := hwV.out; omega)
          exact below_puts ((hBV.out.trans hlo).setCell (p := ⟨w.heap.size + 1 + 1, 0, none⟩) (by simp only; omega) _) hp2 (by have := hwV.out; omega)
end Go.Proofs.YtnjbpacnmiimlaaDoor

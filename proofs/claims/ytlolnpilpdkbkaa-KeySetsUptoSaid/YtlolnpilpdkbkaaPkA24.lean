/- tells: an iterator that was kept. (Printed by tools/gentl.py.) -/
import Derived.Test.YtlolnpilpdkbkaaPkA23

namespace Go.Proofs.Ytlolnpilpdkbkaa
open Go.RowKit Go.Maps Go.Shelf
set_option linter.unusedSimpArgs false
set_option linter.unusedVariables false

attribute [local go_sem] Oper.semAt_some
theorem loadVar_boolK {w : World} {a : Addr} {b : Bool} (h : w.cell? a = some (.bool b)) : (loadVar 4 a).run Try.prog w = .ok (.bool b) w := by simp [go_sem, loadVar, h]
/-- Several marks, and cells behind them. -/
theorem leaves_marksC {P : Program} {fn : Func} {tmps : Array Value} {R : Ending → World → Prop} {v : Value} : ∀ (Ds : List Nat) (w : World), Ds.Nodup → (∀ D ∈ Ds, w.heap[D]? = some (.deferred (some []))) →
    (∀ W, (∀ lo, (∀ D ∈ Ds, lo ≤ D) → Puts lo w W) → (results fn tmps).run P W = .ok v W ∧ R (.returned v) W) → LeavesInM Fence.wide 0 P fn tmps R (Ds.map mark) .returning w
  | [], w, _, _, h => ⟨v, (h w fun lo _ => ⟨Below.refl _ _, fun _ _ _ _ hk => hk⟩).1, (h w fun lo _ => ⟨Below.refl _ _, fun _ _ _ _ hk => hk⟩).2⟩
  | D :: Ds, w, hn, hD, h => by
    obtain ⟨h1, h2⟩ := List.nodup_cons.1 hn
    have hd := hD D (by simp)
    refine ⟨by simp, .inl ⟨_, _, rfl, run_takeDeferred hd, leaves_marksC Ds _ h2 (fun E hE => ?_) fun W hW => h W fun lo hlo => ?_⟩⟩
    · exact (World.putObj_heap_other (by rintro rfl; exact h1 hE)).trans (hD E (by simp [hE]))
    · exact (Puts.putObj _ hd rfl (hlo D (by simp))).trans (hW lo fun E hE => hlo E (by simp [hE]))
/-- What stands while an iterator is gone over: the box, the result's cell, the marks. -/
structure TeI (w : World) (g1 g2 : Nat) (fv : Value) (A : Option Addr) (N c : Nat) (Ds : List Nat) (W : World) : Prop where
  bel : Below w.heap.size w W
  box : W.heap[g1]? = some (.cells #[fv, .slice A N c] 63 (0, 0))
  res : W.heap[g2]? = some (.cells #[.bool false] 4 (0, 0))
  ds : ∀ D ∈ Ds, W.heap[D]? = some (.deferred (some []))
  lo : w.heap.size ≤ g1 ∧ w.heap.size ≤ g2 ∧ g1 ≠ g2
structure TeJ (w : World) (g1 g2 gi : Nat) (fv : Value) (A : Option Addr) (N c : Nat) (Ds : List Nat) (i : Nat) (W : World) : Prop where
  te : TeI w g1 g2 fv A N c Ds W
  cnt : W.heap[gi]? = some (.cells #[.int .i64 (i : Int)] 3 (0, 0))
  loi : w.heap.size ≤ gi
structure TeK (w : World) (g1 g2 gi gk : Nat) (fv : Value) (A : Option Addr) (N c : Nat) (Ds : List Nat) (i : Nat) (x : List Nat) (W : World) : Prop where
  te : TeI w g1 g2 fv A N c Ds W
  cnt : W.heap[gi]? = some (.cells #[.int .i64 (i : Int)] 3 (0, 0))
  loi : w.heap.size ≤ gi
  key : W.heap[gk]? = some (.cells (u8s x).toArray 25 (0, 0))
section
variable {w W W' : World} {g1 g2 gi gk : Nat} {fv : Value} {A : Option Addr} {N c i : Nat} {Ds : List Nat} {x : List Nat}
theorem TeI.keep (h : TeI w g1 g2 fv A N c Ds W) (hb : Below W.heap.size W W') : TeI w g1 g2 fv A N c Ds W' :=
  ⟨h.bel.trans (hb.mono h.bel.size), (hb.block _ (Array.getElem?_eq_some_iff.1 h.box).1).trans h.box, (hb.block _ (Array.getElem?_eq_some_iff.1 h.res).1).trans h.res, fun D hD => (hb.block _ (Array.getElem?_eq_some_iff.1 (h.ds D hD)).1).trans (h.ds D hD), h.lo⟩
theorem TeI.puts {D : Nat} (h : TeI w g1 g2 fv A N c Ds W) (hp : Puts D W W') (h1 : w.heap.size ≤ D) (h3 : ∀ E ∈ Ds, E < D) : TeI w g1 g2 fv A N c Ds W' :=
  ⟨below_puts h.bel hp h1, hp.cells _ _ _ _ h.box, hp.cells _ _ _ _ h.res, fun E hE => (hp.bel.block _ (h3 E hE)).trans (h.ds E hE), h.lo⟩
theorem TeI.mark {D : Nat} (h : TeI w g1 g2 fv A N c Ds W) (hD : W.heap[D]? = some (.deferred (some []))) : TeI w g1 g2 fv A N c (D :: Ds) W :=
  ⟨h.bel, h.box, h.res, fun E hE => by rcases List.mem_cons.1 hE with rfl | hE; exact hD; exact h.ds E hE, h.lo⟩
theorem TeI.box0 (h : TeI w g1 g2 fv A N c Ds W) : W.cell? ⟨g1, 0, none⟩ = some fv := by
  unfold World.cell?
  simp [h.box]
theorem TeI.box1 (h : TeI w g1 g2 fv A N c Ds W) : W.cell? ⟨g1, 1, none⟩ = some (.slice A N c) := by
  unfold World.cell?
  simp [h.box]
theorem TeI.resc (h : TeI w g1 g2 fv A N c Ds W) : W.cell? ⟨g2, 0, none⟩ = some (.bool false) := by
  unfold World.cell?
  simp [h.res]
theorem TeI.lts (h : TeI w g1 g2 fv A N c Ds W) : ∀ D ∈ Ds, D < W.heap.size := fun D hD => (Array.getElem?_eq_some_iff.1 (h.ds D hD)).1
theorem TeJ.keep (h : TeJ w g1 g2 gi fv A N c Ds i W) (hb : Below W.heap.size W W') : TeJ w g1 g2 gi fv A N c Ds i W' :=
  ⟨h.te.keep hb, (hb.block _ (Array.getElem?_eq_some_iff.1 h.cnt).1).trans h.cnt, h.loi⟩
theorem TeJ.puts {D : Nat} (h : TeJ w g1 g2 gi fv A N c Ds i W) (hp : Puts D W W') (h1 : w.heap.size ≤ D) (h3 : ∀ E ∈ Ds, E < D) : TeJ w g1 g2 gi fv A N c Ds i W' :=
  ⟨h.te.puts hp h1 h3, hp.cells _ _ _ _ h.cnt, h.loi⟩
theorem TeJ.celi (h : TeJ w g1 g2 gi fv A N c Ds i W) : W.cell? ⟨gi, 0, none⟩ = some (.int .i64 (i : Int)) := by
  unfold World.cell?
  simp [h.cnt]
theorem TeK.celi (h : TeK w g1 g2 gi gk fv A N c Ds i x W) : W.cell? ⟨gi, 0, none⟩ = some (.int .i64 (i : Int)) := by
  unfold World.cell?
  simp [h.cnt]
theorem TeJ.set {j : Nat} (h : TeJ w g1 g2 gi fv A N c Ds i W) : TeJ w g1 g2 gi fv A N c Ds j (W.setCell ⟨gi, 0, none⟩ (.int .i64 (j : Int))) := by
  have hne : ∀ {k : Nat} {cs : Array Value} {t : TypeId}, W.heap[k]? = some (.cells cs t (0, 0)) → t ≠ 3 → k ≠ gi := fun {k cs t} hk ht e => by
    rw [e, h.cnt] at hk
    injection hk with hk
    injection hk with _ hk _
    exact ht hk.symm
  have hned : ∀ {k : Nat} {l : Option (List Deferred)}, W.heap[k]? = some (.deferred l) → k ≠ gi := fun {k l} hk e => by
    rw [e, h.cnt] at hk
    cases hk
  refine ⟨⟨h.te.bel.setCell (p := ⟨gi, 0, none⟩) h.loi _, ?_, ?_, fun D hD => ?_, h.te.lo⟩, ?_, h.loi⟩
  · exact (Below.heap_setCell W ⟨gi, 0, none⟩ _ g1 (hne h.te.box (by decide))).trans h.te.box
  · exact (Below.heap_setCell W ⟨gi, 0, none⟩ _ g2 (hne h.te.res (by decide))).trans h.te.res
  · exact (Below.heap_setCell W ⟨gi, 0, none⟩ _ D (hned (h.te.ds D hD))).trans (h.te.ds D hD)
  · have := heap_setCell_same W gi 0 _ _ (.int .i64 (j : Int)) h.cnt
    simpa using this
/-- A counter of its own. -/
theorem TeI.count (h : TeI w g1 g2 fv A N c Ds W) : TeJ w g1 g2 W.heap.size fv A N c Ds 0 ((W.alloc (.cells #[.int .i64 0] 3)).setCell ⟨W.heap.size, 0, none⟩ (.int .i64 0)) := by
  have h1 : TeJ w g1 g2 W.heap.size fv A N c Ds 0 (W.alloc (.cells #[.int .i64 0] 3)) := ⟨h.keep ((Below.refl _ _).alloc (Nat.le_refl _) _), heap_alloc_new W _, h.bel.size⟩
  exact h1.set (j := 0)
theorem mid_of {ok : Nat → Prop} (hok : ∀ k, ok k → k < w.heap.size) (h1 : Below w.heap.size w W) (h2 : Below w.heap.size w W') (hs : W.heap.size ≤ W'.heap.size) : Mid ok W W' :=
  ⟨hs, fun k hk => (h2.block k (hok k hk)).trans (h1.block k (hok k hk)).symm⟩
end
set_option maxRecDepth 100000 in
set_option maxHeartbeats 8000000 in
theorem tells_nil (w : World) (gI cI : Nat) (AI : Option Addr) (ks : List (List Nat)) (hat : AllAt w gI AI cI ks) (hr : Rise32 ks) (hl : ks.length ≤ 4194304) (A : Option Addr) (c : Nat) (ho : Own w 0 25 32 A ks.length c (rowsK ks)) (hz : ks = []) :
    Calls Try.prog 25 #[.agg #[(.func (.func 53) #[] #[.pointer (some ⟨gI, 0, none⟩)]), .slice A ks.length c]] w fun e w' => e = .returned (.bool true) ∧ Below w.heap.size w w' := by
  obtain ⟨N, hN⟩ : ∃ N, ks.length = N := ⟨_, rfl⟩
  obtain ⟨g1, hg1⟩ : ∃ g1, w.heap.size = g1 := ⟨_, rfl⟩
  obtain ⟨g2, hg2⟩ : ∃ g2, g1 + 1 = g2 := ⟨_, rfl⟩
  have hN' := Lib.hid hN
  have hat' := Lib.hid hat
  have hr' := Lib.hid hr
  have hz' := Lib.hid hz
  have ho' := Lib.hid ho
  rw [hN] at ho' ⊢
  have hl' : N ≤ 4194304 := by omega
  have hi32 : Hid ((Try.prog.info? 25).map (·.size) = some 32) := Lib.hid (by kernel_rfl)
  have hzs : Hid ((u8s (zeros 32)).toArray.size = 32) := Lib.hid (by simp [u8s, zeros])
  have hzk := zeroKy
  have hq : ∀ (w : World), (binOp .eql 61 (.func (.func 53) #[] #[.pointer (some ⟨gI, 0, none⟩)]) .nilFunc).run Try.prog w = .ok (.bool false) w := fun _ => by kernel_rfl
  obtain ⟨w2, hw2⟩ : ∃ w2, (w.alloc (.cells #[(.func (.func 53) #[] #[.pointer (some ⟨gI, 0, none⟩)]), .slice A N c] 63)).alloc (.cells #[.bool false] 4) = w2 := ⟨_, rfl⟩
  have hT : Hid (TeI w g1 g2 (.func (.func 53) #[] #[.pointer (some ⟨gI, 0, none⟩)]) A N c [] w2) := Lib.hid (by
    rw [← hw2]
    refine ⟨((Below.refl _ _).alloc (Nat.le_refl _) _).alloc (by simp) _, ?_, ?_, by simp, by omega, by omega, by omega⟩
    · rw [heap_alloc_old _ _ (by simp; omega), ← hg1]
      exact heap_alloc_new w _
    · have := heap_alloc_new (w.alloc (.cells #[(.func (.func 53) #[] #[.pointer (some ⟨gI, 0, none⟩)]), .slice A N c] 63)) (.cells #[.bool false] 4)
      rw [World.size_alloc, hg1, hg2] at this
      exact this)
  have hok : Hid (∀ j, (j = gI ∨ blockOf AI = some j) → j < w.heap.size) := Lib.hid fun j hj => by rcases hj with rfl | hj; exact hat'.out.lts.1; exact hat'.out.lts.2 j hj
  have hg1' := Lib.hid hg1
  clear hat hr hz ho hl hN
  refine calls_marks Try.func25 rfl ?_
  simp only [Try.ntmps25, List.size_toArray, List.length_cons, List.length_nil, Nat.reduceAdd, Nat.reduceSub, Array.replicate_succ, Array.replicate_zero, List.push_toArray, List.append_toArray, List.nil_append, List.cons_append]
  have c0 := hT.out.box0
  go_wp2_with fail
  refine wp_loop_rounds 3 ?_
  rw [rounds_succ]
  obtain ⟨va1, hva1⟩ : ∃ va, (w2.alloc (.cells #[.int .i64 0] 3)).setCell ⟨w2.heap.size, 0, none⟩ (.int .i64 0) = va := ⟨_, rfl⟩
  have hJ01 : Hid (TeJ w g1 g2 w2.heap.size (.func (.func 53) #[] #[.pointer (some ⟨gI, 0, none⟩)]) A N c [] 0 va1) := Lib.hid (by rw [← hva1]; exact hT.out.count)
  obtain ⟨gi1, hgi1⟩ : ∃ gi, w2.heap.size = gi := ⟨_, rfl⟩
  rw [hgi1] at hJ01 hva1
  have hJ1 := hJ01
  clear hJ01
  have c0 := hJ1.out.te.box0
  go_wp2_with fail
  have hlD1 := Lib.hid hJ1.out.te.lts
  have hsz1 : Hid (w.heap.size ≤ va1.heap.size) := Lib.hid hJ1.out.te.bel.size
  refine wp_rangeFunc (gf := 53) (lb := #[.pointer (some ⟨gI, 0, none⟩)]) rfl (enters_of Try.func53 (by kernel_rfl) rfl) (encs := fun x : List Nat => #[Value.agg (u8s x).toArray]) (fun _ => rfl) (G := KyG ks) (fun h => h.2)
    (allK_seq w gI cI AI ks (fun j => j = gI ∨ blockOf AI = some j) hat'.out hr'.out (by rw [hN'.out]; omega) (Or.inl rfl) (fun j hj => Or.inr hj) hok.out) (Mid.of_below hJ1.out.te.bel hok.out) (fun j hj => Nat.lt_of_lt_of_le (hok.out j hj) hsz1.out)
    (fun pre W => TeJ w g1 g2 gi1 (.func (.func 53) #[] #[.pointer (some ⟨gI, 0, none⟩)]) A N c [] pre.length W) (fun _ _ _ => False) ?_ (fun _ _ _ _ h _ => h) ?_ hJ1.out ?_ ?_ (fun _ _ _ _ _ _ h _ => h.elim)
  · rintro pre W W' h hp
    exact h.puts hp hsz1.out hlD1.out
  · rintro pre W W' h hb
    exact h.keep hb
  · rintro lp pre x W0 W1 hlp hw0 hlt ⟨hpre, hbel⟩
    rw [hz'.out] at hpre
    have := List.prefix_nil.1 hpre
    simp at this
  rintro Da1 xs Wa1 hDa1 hxs hIa1 hma1
  rw [hxs, hN'.out] at hIa1
  have hJa1 : Hid (TeJ w g1 g2 gi1 (.func (.func 53) #[] #[.pointer (some ⟨gI, 0, none⟩)]) A N c [Da1] N Wa1) := Lib.hid ⟨hIa1.te.mark hma1, hIa1.cnt, hIa1.loi⟩
  have hDa1' := Lib.hid hDa1
  clear hxs hIa1 hma1 hDa1 c0
  have c0 := hJa1.out.te.box0
  have c1 := hJa1.out.te.box1
  have ci := hJa1.out.celi
  go_wp2_with fail
  have hlE1 := Lib.hid hJa1.out.te.lts
  have hszb1 : Hid (w.heap.size ≤ Wa1.heap.size) := Lib.hid hJa1.out.te.bel.size
  refine wp_rangeFunc (gf := 53) (lb := #[.pointer (some ⟨gI, 0, none⟩)]) rfl (enters_of Try.func53 (by kernel_rfl) rfl) (encs := fun x : List Nat => #[Value.agg (u8s x).toArray]) (fun _ => rfl) (G := KyG ks) (fun h => h.2)
    (allK_seq w gI cI AI ks (fun j => j = gI ∨ blockOf AI = some j) hat'.out hr'.out (by rw [hN'.out]; omega) (Or.inl rfl) (fun j hj => Or.inr hj) hok.out) (Mid.of_below hJa1.out.te.bel hok.out) (fun j hj => Nat.lt_of_lt_of_le (hok.out j hj) hszb1.out)
    (fun pre W => pre = [] ∧ TeI w g1 g2 (.func (.func 53) #[] #[.pointer (some ⟨gI, 0, none⟩)]) A N c [Da1] W) (fun cd pre W => cd = .exit 4 ∧ pre ≠ [] ∧ TeI w g1 g2 (.func (.func 53) #[] #[.pointer (some ⟨gI, 0, none⟩)]) A N c [Da1] W) ?_ ?_ ?_ ⟨rfl, hJa1.out.te⟩ ?_ ?_ ?_
  · rintro pre W W' ⟨h1, h⟩ hp
    exact ⟨h1, h.puts hp hszb1.out hlE1.out⟩
  · rintro cd pre W W' ⟨h0, h1, h⟩ hp
    exact ⟨h0, h1, h.puts hp hszb1.out hlE1.out⟩
  · rintro pre W W' ⟨h1, h⟩ hb
    exact ⟨h1, h.keep hb⟩
  · rintro lp pre x W0 W1 hlp hw0 hlt ⟨hpre, hbel⟩
    rw [hz'.out] at hpre
    have := List.prefix_nil.1 hpre
    simp at this
  rotate_left
  · rintro Db cd pre W hD hpre ⟨_, h1, _⟩ _
    rw [hz'.out] at hpre
    exact absurd (List.prefix_nil.1 hpre) h1
  rintro Db1 xs Wb1 hDb1 hxs ⟨_, hIb1⟩ hmb1
  have hTb1 : Hid (TeI w g1 g2 (.func (.func 53) #[] #[.pointer (some ⟨gI, 0, none⟩)]) A N c [Db1, Da1] Wb1) := Lib.hid (hIb1.mark hmb1)
  have hDb1' := Lib.hid hDb1
  clear hIb1 hmb1 hDb1 c0 c1 ci
  go_wp2_with fail
  rw [rounds_succ]
  obtain ⟨va2, hva2⟩ : ∃ va, (Wb1.alloc (.cells #[.int .i64 0] 3)).setCell ⟨Wb1.heap.size, 0, none⟩ (.int .i64 0) = va := ⟨_, rfl⟩
  have hJ02 : Hid (TeJ w g1 g2 Wb1.heap.size (.func (.func 53) #[] #[.pointer (some ⟨gI, 0, none⟩)]) A N c [Db1, Da1] 0 va2) := Lib.hid (by rw [← hva2]; exact hTb1.out.count)
  obtain ⟨gi2, hgi2⟩ : ∃ gi, Wb1.heap.size = gi := ⟨_, rfl⟩
  rw [hgi2] at hJ02 hva2
  have hJ2 := hJ02
  clear hJ02
  have c0 := hJ2.out.te.box0
  go_wp2_with fail
  have hlD2 := Lib.hid hJ2.out.te.lts
  have hsz2 : Hid (w.heap.size ≤ va2.heap.size) := Lib.hid hJ2.out.te.bel.size
  refine wp_rangeFunc (gf := 53) (lb := #[.pointer (some ⟨gI, 0, none⟩)]) rfl (enters_of Try.func53 (by kernel_rfl) rfl) (encs := fun x : List Nat => #[Value.agg (u8s x).toArray]) (fun _ => rfl) (G := KyG ks) (fun h => h.2)
    (allK_seq w gI cI AI ks (fun j => j = gI ∨ blockOf AI = some j) hat'.out hr'.out (by rw [hN'.out]; omega) (Or.inl rfl) (fun j hj => Or.inr hj) hok.out) (Mid.of_below hJ2.out.te.bel hok.out) (fun j hj => Nat.lt_of_lt_of_le (hok.out j hj) hsz2.out)
    (fun pre W => TeJ w g1 g2 gi2 (.func (.func 53) #[] #[.pointer (some ⟨gI, 0, none⟩)]) A N c [Db1, Da1] pre.length W) (fun _ _ _ => False) ?_ (fun _ _ _ _ h _ => h) ?_ hJ2.out ?_ ?_ (fun _ _ _ _ _ _ h _ => h.elim)
  · rintro pre W W' h hp
    exact h.puts hp hsz2.out hlD2.out
  · rintro pre W W' h hb
    exact h.keep hb
  · rintro lp pre x W0 W1 hlp hw0 hlt ⟨hpre, hbel⟩
    rw [hz'.out] at hpre
    have := List.prefix_nil.1 hpre
    simp at this
  rintro Da2 xs Wa2 hDa2 hxs hIa2 hma2
  rw [hxs, hN'.out] at hIa2
  have hJa2 : Hid (TeJ w g1 g2 gi2 (.func (.func 53) #[] #[.pointer (some ⟨gI, 0, none⟩)]) A N c [Da2, Db1, Da1] N Wa2) := Lib.hid ⟨hIa2.te.mark hma2, hIa2.cnt, hIa2.loi⟩
  have hDa2' := Lib.hid hDa2
  clear hxs hIa2 hma2 hDa2 c0
  have c0 := hJa2.out.te.box0
  have c1 := hJa2.out.te.box1
  have ci := hJa2.out.celi
  go_wp2_with fail
  have hlE2 := Lib.hid hJa2.out.te.lts
  have hszb2 : Hid (w.heap.size ≤ Wa2.heap.size) := Lib.hid hJa2.out.te.bel.size
  refine wp_rangeFunc (gf := 53) (lb := #[.pointer (some ⟨gI, 0, none⟩)]) rfl (enters_of Try.func53 (by kernel_rfl) rfl) (encs := fun x : List Nat => #[Value.agg (u8s x).toArray]) (fun _ => rfl) (G := KyG ks) (fun h => h.2)
    (allK_seq w gI cI AI ks (fun j => j = gI ∨ blockOf AI = some j) hat'.out hr'.out (by rw [hN'.out]; omega) (Or.inl rfl) (fun j hj => Or.inr hj) hok.out) (Mid.of_below hJa2.out.te.bel hok.out) (fun j hj => Nat.lt_of_lt_of_le (hok.out j hj) hszb2.out)
    (fun pre W => pre = [] ∧ TeI w g1 g2 (.func (.func 53) #[] #[.pointer (some ⟨gI, 0, none⟩)]) A N c [Da2, Db1, Da1] W) (fun cd pre W => cd = .exit 4 ∧ pre ≠ [] ∧ TeI w g1 g2 (.func (.func 53) #[] #[.pointer (some ⟨gI, 0, none⟩)]) A N c [Da2, Db1, Da1] W) ?_ ?_ ?_ ⟨rfl, hJa2.out.te⟩ ?_ ?_ ?_
  · rintro pre W W' ⟨h1, h⟩ hp
    exact ⟨h1, h.puts hp hszb2.out hlE2.out⟩
  · rintro cd pre W W' ⟨h0, h1, h⟩ hp
    exact ⟨h0, h1, h.puts hp hszb2.out hlE2.out⟩
  · rintro pre W W' ⟨h1, h⟩ hb
    exact ⟨h1, h.keep hb⟩
  · rintro lp pre x W0 W1 hlp hw0 hlt ⟨hpre, hbel⟩
    rw [hz'.out] at hpre
    have := List.prefix_nil.1 hpre
    simp at this
  rotate_left
  · rintro Db cd pre W hD hpre ⟨_, h1, _⟩ _
    rw [hz'.out] at hpre
    exact absurd (List.prefix_nil.1 hpre) h1
  rintro Db2 xs Wb2 hDb2 hxs ⟨_, hIb2⟩ hmb2
  have hTb2 : Hid (TeI w g1 g2 (.func (.func 53) #[] #[.pointer (some ⟨gI, 0, none⟩)]) A N c [Db2, Da2, Db1, Da1] Wb2) := Lib.hid (hIb2.mark hmb2)
  have hDb2' := Lib.hid hDb2
  clear hIb2 hmb2 hDb2 c0 c1 ci
  go_wp2_with fail
  rw [rounds_succ]
  have f0 : Wb2.frozen? ⟨g2, 0, none⟩ = false := frozen_of_row _ _ _ _ _ hTb2.out.res
  have c0 := hTb2.out.resc
  go_wp2_with fail
  have e1 := hlE1.out Da1 (by simp)
  have e2 := hlD2.out Db1 (by simp)
  have e3 := hlE2.out Da2 (by simp)
  have e4 := hDb1'.out
  have e5 := hDa2'.out
  have e6 := hDb2'.out
  have e7 := hDa1'.out
  have e8 := hsz1.out
  refine leaves_marksC (v := .bool true) [Db2, Da2, Db1, Da1] (Wb2.setCell ⟨g2, 0, none⟩ (.bool true)) (by simp; omega) (fun D hD => ?_) (fun W hp => ?_)
  · have h1 := hTb2.out.ds D hD
    refine (Below.heap_setCell Wb2 ⟨g2, 0, none⟩ _ D fun e => ?_).trans h1
    have h2 := hTb2.out.res
    rw [show D = g2 from e, h2] at h1
    cases h1
  · have hp2 := hp va1.heap.size (fun D hD => by simp at hD; rcases hD with rfl | rfl | rfl | rfl <;> omega)
    refine ⟨results_cell1 rfl rfl (loadVar_boolK (hp2.cell (World.cell?_setCell_same _ _ _ c0))), rfl, ?_⟩
    exact below_puts (hTb2.out.bel.setCell (p := ⟨g2, 0, none⟩) hTb2.out.lo.2.1 _) hp2 e8
set_option maxRecDepth 100000 in
set_option maxHeartbeats 8000000 in
theorem tells_cons (w : World) (gI cI : Nat) (AI : Option Addr) (ks : List (List Nat)) (hat : AllAt w gI AI cI ks) (hr : Rise32 ks) (hl : ks.length ≤ 4194304) (A : Option Addr) (c : Nat) (ho : Own w 0 25 32 A ks.length c (rowsK ks)) (hz : ks ≠ []) :
    Calls Try.prog 25 #[.agg #[(.func (.func 53) #[] #[.pointer (some ⟨gI, 0, none⟩)]), .slice A ks.length c]] w fun e w' => e = .returned (.bool true) ∧ Below w.heap.size w w' := by
  obtain ⟨N, hN⟩ : ∃ N, ks.length = N := ⟨_, rfl⟩
  obtain ⟨g1, hg1⟩ : ∃ g1, w.heap.size = g1 := ⟨_, rfl⟩
  obtain ⟨g2, hg2⟩ : ∃ g2, g1 + 1 = g2 := ⟨_, rfl⟩
  have hN' := Lib.hid hN
  have hat' := Lib.hid hat
  have hr' := Lib.hid hr
  have hz' := Lib.hid hz
  have ho' := Lib.hid ho
  rw [hN] at ho' ⊢
  have hl' : N ≤ 4194304 := by omega
  have hi32 : Hid ((Try.prog.info? 25).map (·.size) = some 32) := Lib.hid (by kernel_rfl)
  have hzs : Hid ((u8s (zeros 32)).toArray.size = 32) := Lib.hid (by simp [u8s, zeros])
  have hzk := zeroKy
  have hq : ∀ (w : World), (binOp .eql 61 (.func (.func 53) #[] #[.pointer (some ⟨gI, 0, none⟩)]) .nilFunc).run Try.prog w = .ok (.bool false) w := fun _ => by kernel_rfl
  obtain ⟨w2, hw2⟩ : ∃ w2, (w.alloc (.cells #[(.func (.func 53) #[] #[.pointer (some ⟨gI, 0, none⟩)]), .slice A N c] 63)).alloc (.cells #[.bool false] 4) = w2 := ⟨_, rfl⟩
  have hT : Hid (TeI w g1 g2 (.func (.func 53) #[] #[.pointer (some ⟨gI, 0, none⟩)]) A N c [] w2) := Lib.hid (by
    rw [← hw2]
    refine ⟨((Below.refl _ _).alloc (Nat.le_refl _) _).alloc (by simp) _, ?_, ?_, by simp, by omega, by omega, by omega⟩
    · rw [heap_alloc_old _ _ (by simp; omega), ← hg1]
      exact heap_alloc_new w _
    · have := heap_alloc_new (w.alloc (.cells #[(.func (.func 53) #[] #[.pointer (some ⟨gI, 0, none⟩)]), .slice A N c] 63)) (.cells #[.bool false] 4)
      rw [World.size_alloc, hg1, hg2] at this
      exact this)
  have hok : Hid (∀ j, (j = gI ∨ blockOf AI = some j) → j < w.heap.size) := Lib.hid fun j hj => by rcases hj with rfl | hj; exact hat'.out.lts.1; exact hat'.out.lts.2 j hj
  have hg1' := Lib.hid hg1
  clear hat hr hz ho hl hN
  refine calls_marks Try.func25 rfl ?_
  simp only [Try.ntmps25, List.size_toArray, List.length_cons, List.length_nil, Nat.reduceAdd, Nat.reduceSub, Array.replicate_succ, Array.replicate_zero, List.push_toArray, List.append_toArray, List.nil_append, List.cons_append]
  have c0 := hT.out.box0
  go_wp2_with fail
  refine wp_loop_rounds 3 ?_
  rw [rounds_succ]
  obtain ⟨va1, hva1⟩ : ∃ va, (w2.alloc (.cells #[.int .i64 0] 3)).setCell ⟨w2.heap.size, 0, none⟩ (.int .i64 0) = va := ⟨_, rfl⟩
  have hJ01 : Hid (TeJ w g1 g2 w2.heap.size (.func (.func 53) #[] #[.pointer (some ⟨gI, 0, none⟩)]) A N c [] 0 va1) := Lib.hid (by rw [← hva1]; exact hT.out.count)
  obtain ⟨gi1, hgi1⟩ : ∃ gi, w2.heap.size = gi := ⟨_, rfl⟩
  rw [hgi1] at hJ01 hva1
  have hJ1 := hJ01
  clear hJ01
  have c0 := hJ1.out.te.box0
  go_wp2_with fail
  have hlD1 := Lib.hid hJ1.out.te.lts
  have hsz1 : Hid (w.heap.size ≤ va1.heap.size) := Lib.hid hJ1.out.te.bel.size
  refine wp_rangeFunc (gf := 53) (lb := #[.pointer (some ⟨gI, 0, none⟩)]) rfl (enters_of Try.func53 (by kernel_rfl) rfl) (encs := fun x : List Nat => #[Value.agg (u8s x).toArray]) (fun _ => rfl) (G := KyG ks) (fun h => h.2)
    (allK_seq w gI cI AI ks (fun j => j = gI ∨ blockOf AI = some j) hat'.out hr'.out (by rw [hN'.out]; omega) (Or.inl rfl) (fun j hj => Or.inr hj) hok.out) (Mid.of_below hJ1.out.te.bel hok.out) (fun j hj => Nat.lt_of_lt_of_le (hok.out j hj) hsz1.out)
    (fun pre W => TeJ w g1 g2 gi1 (.func (.func 53) #[] #[.pointer (some ⟨gI, 0, none⟩)]) A N c [] pre.length W) (fun _ _ _ => False) ?_ (fun _ _ _ _ h _ => h) ?_ hJ1.out ?_ ?_ (fun _ _ _ _ _ _ h _ => h.elim)
  · rintro pre W W' h hp
    exact h.puts hp hsz1.out hlD1.out
  · rintro pre W W' h hb
    exact h.keep hb
  · rintro lp pre x W0 W1 hlp hw0 hlt ⟨hpre, hbel⟩
    obtain ⟨i, hi⟩ : ∃ i, pre.length = i := ⟨_, rfl⟩
    have hx : ks[i]? = some x := by
      obtain ⟨tl, htl⟩ := hpre
      rw [← htl, ← hi]
      simp
    have hiN : i < N := by have := (List.getElem?_eq_some_iff.1 hx).1; rw [hN'.out] at this; exact this
    have hxk : IsK x := hr'.out.ok x (List.mem_of_getElem? hx)
    obtain ⟨b, off, rfl, hbb, hrg⟩ := ownK_at (by rw [← hN'.out] at ho'; exact ho'.out) (fun z hz => (hr'.out.ok z hz).1) hx
    have hrk : Hid (∀ W, Below w.heap.size w W → W.rangeAt b (off + i * 32) (u8s x)) := Lib.hid fun W hW => rangeAt_below hW hbb hrg
    have hx32 : Hid ((u8s x).length = 32) := Lib.hid (by simp [u8s, hxk.1])
    have hxs : Hid ((u8s x).toArray.size = 32) := Lib.hid (by simp [u8s, hxk.1])
    have hcmp : Hid (∀ W, (binOp .neq 25 (.agg (u8s x).toArray) (.agg (u8s x).toArray)).run Try.prog W = .ok (.bool false) W) := Lib.hid fun W => by
      have := neK hxk.1 hxk.1 W
      rwa [decide_eq_true rfl] at this
    have hlt2 : decide (N ≤ i) = false := by simp; omega
    obtain ⟨Ds, hDs⟩ : ∃ Ds : List Nat, [] = Ds := ⟨_, rfl⟩
    rw [hDs, hi] at hw0
    have hlD : ∀ E ∈ Ds, E < va1.heap.size := by rw [← hDs]; exact hlD1.out
    have hlD' := Lib.hid hlD
    have hw1 := Lib.hid (hw0.keep hbel)
    have hkn := key_new W1 x
    have hkc := Lib.hid hkn.1
    have hbn := Lib.hid hkn.2
    have hw2 := Lib.hid (hw1.out.keep hbn.out)
    have hps : Hid ((pre ++ [x]).length = i + 1) := Lib.hid (by simp [hi])
    have hDs' := Lib.hid hDs
    clear hxk hkn hw0 hpre hbel hlt hx hbb hrg hlD hi hDs
    gi_wp2_with (refine wpListIn_store_row (by rfl) 25 _ _ rfl W1.heap.size (u8s x).toArray rfl rfl 25 _ (heap_alloc_new W1 _) (by rw [hxs.out]; exact hi32.out) (by rw [hxs.out, hzs.out]) (all_oneCell_toArray u8s_one) ?_)
    obtain ⟨W2, hW2⟩ : ∃ W2, (W1.alloc (.cells (u8s (zeros 32)).toArray 25)).setRow W1.heap.size (u8s x).toArray = W2 := ⟨_, rfl⟩
    rw [hW2] at hkc hbn hw2 ⊢
    clear hW2
    refine ⟨keepsFrom_below hbn.out, fun W3 hp => ?_⟩
    have hw3 := Lib.hid (hw2.out.puts hp hsz1.out hlD'.out)
    have hk3 := Lib.hid (hp.cells _ _ _ _ hkc.out)
    have hs13 : Hid (W1.heap.size ≤ W3.heap.size) := Lib.hid (Nat.le_trans hbn.out.size hp.bel.size)
    clear hp
    obtain ⟨gk, hgk⟩ : ∃ gk, W1.heap.size = gk := ⟨_, rfl⟩
    rw [hgk] at hk3 ⊢
    clear hgk
    have hd : Hid (TeK w g1 g2 gi1 gk (.func (.func 53) #[] #[.pointer (some ⟨gI, 0, none⟩)]) (some ⟨b, off, none⟩) N c Ds i x W3.drew) := Lib.hid (by
      have h := hw3.out.keep (below_drewN (Below.refl _ _) 1)
      exact ⟨h.te, h.cnt, h.loi, hk3.out⟩)
    gi_wp2_with fail
    refine wpIn_region_calm (S := TeK w g1 g2 gi1 gk (.func (.func 53) #[] #[.pointer (some ⟨gI, 0, none⟩)]) (some ⟨b, off, none⟩) N c Ds i x) (by kernel_rfl) (by
        intro i o ho c hc
        rcases i with _ | _ | _ | _ | _ | _ | _ | _ | _ | _ | _ | _ | _ | _ | i <;> simp at ho
        all_goals (subst ho; simp at hc)) ?_
    change wpAnyH _ _ _ _ _ _ _ _ (World.drew _)
    refine tk (i := 0) (d := 16) (v := (.int .i64 (i : Int))) rfl rfl (Or.inl ⟨by rfl, by intro W hW; have c0 := hW.celi; clear hW; go_simp⟩) hd.out (hQ := calm_panic) ?_
    simp only [List.setIfInBounds_toArray, List.set_cons_zero, List.set_cons_succ]
    refine tk (i := 1) (d := 17) (v := (.pointer (some ⟨g1, 1, none⟩))) rfl rfl (Or.inl ⟨by rfl, by intro W hW; clear hW; go_simp⟩) hd.out (hQ := calm_panic) ?_
    simp only [List.setIfInBounds_toArray, List.set_cons_zero, List.set_cons_succ]
    refine tk (i := 2) (d := 18) (v := (.slice (some ⟨b, off, none⟩) N c)) rfl rfl (Or.inl ⟨by rfl, by intro W hW; have c1 := hW.te.box1; clear hW; go_simp⟩) hd.out (hQ := calm_panic) ?_
    simp only [List.setIfInBounds_toArray, List.set_cons_zero, List.set_cons_succ]
    refine tk (i := 3) (d := 19) (v := (.int .i64 (N : Int))) rfl rfl (Or.inl ⟨by rfl, by intro W hW; clear hW; go_simp⟩) hd.out (hQ := calm_panic) ?_
    simp only [List.setIfInBounds_toArray, List.set_cons_zero, List.set_cons_succ]
    refine tk (i := 4) (d := 20) (v := (.bool false)) rfl rfl (Or.inl ⟨by rfl, by intro W hW; have hh := hlt2; clear hW; go_simp⟩) hd.out (hQ := calm_panic) ?_
    simp only [List.setIfInBounds_toArray, List.set_cons_zero, List.set_cons_succ]
    refine tk (i := 5) (d := 21) (v := (.bool false)) rfl rfl (Or.inl ⟨by rfl, by intro W hW; clear hW; go_simp⟩) hd.out (hQ := calm_panic) ?_
    simp only [List.setIfInBounds_toArray, List.set_cons_zero, List.set_cons_succ]
    refine tk (i := 6) (d := 22) (v := (.agg (u8s x).toArray)) rfl rfl (yieldsIf_load_row (by rfl) 25 _ rfl gk rfl 25 (u8s x).toArray (0, 0) _ (fun W hW => hW.key) Try.underlying25 rfl (by rw [hxs.out]; exact hi32.out)) hd.out (hQ := calm_panic) ?_
    simp only [List.setIfInBounds_toArray, List.set_cons_zero, List.set_cons_succ]
    refine tk (i := 7) (d := 23) (v := (.pointer (some ⟨g1, 1, none⟩))) rfl rfl (Or.inl ⟨by rfl, by intro W hW; clear hW; go_simp⟩) hd.out (hQ := calm_panic) ?_
    simp only [List.setIfInBounds_toArray, List.set_cons_zero, List.set_cons_succ]
    refine tk (i := 8) (d := 24) (v := (.slice (some ⟨b, off, none⟩) N c)) rfl rfl (Or.inl ⟨by rfl, by intro W hW; have c1 := hW.te.box1; clear hW; go_simp⟩) hd.out (hQ := calm_panic) ?_
    simp only [List.setIfInBounds_toArray, List.set_cons_zero, List.set_cons_succ]
    refine tk (i := 9) (d := 25) (v := (.int .i64 (i : Int))) rfl rfl (Or.inl ⟨by rfl, by intro W hW; have c0 := hW.celi; clear hW; go_simp⟩) hd.out (hQ := calm_panic) ?_
    simp only [List.setIfInBounds_toArray, List.set_cons_zero, List.set_cons_succ]
    refine tk (i := 10) (d := 26) (v := (.pointer (some ⟨b, off + i * 32, none⟩))) rfl rfl (Or.inl ⟨by rfl, by intro W hW; clear hW; go_simp⟩) hd.out (hQ := calm_panic) ?_
    simp only [List.setIfInBounds_toArray, List.set_cons_zero, List.set_cons_succ]
    refine tk (i := 11) (d := 27) (v := (.agg (u8s x).toArray)) rfl rfl (yieldsIf_load_mid (by rfl) 25 _ rfl b (off + i * 32) rfl (u8s x) _ (fun W hW => hrk.out W hW.te.bel) Try.underlying25 rfl (by rw [hx32.out]; exact hi32.out)) hd.out (hQ := calm_panic) ?_
    simp only [List.setIfInBounds_toArray, List.set_cons_zero, List.set_cons_succ]
    refine tk (i := 12) (d := 28) (v := (.bool false)) rfl rfl (yieldsIf_binA (by rfl) .neq 25 _ _ _ rfl (.agg (u8s x).toArray) (.agg (u8s x).toArray) rfl rfl (.bool false) (fun _ => rfl) (fun W _ => hcmp.out W)) hd.out (hQ := calm_panic) ?_
    simp only [List.setIfInBounds_toArray, List.set_cons_zero, List.set_cons_succ]
    refine tk (i := 13) (d := 29) (v := (.bool false)) rfl rfl (Or.inl ⟨by rfl, by intro W hW; clear hW; go_simp⟩) hd.out (hQ := calm_panic) ?_
    simp only [List.setIfInBounds_toArray, List.set_cons_zero, List.set_cons_succ]
    refine wpAnyH_done (by kernel_rfl) ?_ _
    refine ⟨rfl, ?_⟩
    have hdz := hd
    have ci := hdz.out.celi
    have fi : W3.drew.frozen? ⟨gi1, 0, none⟩ = false := frozen_of_row _ _ _ _ _ hdz.out.cnt
    gi_wp2_with fail
    have hj : Hid (TeJ w g1 g2 gi1 (.func (.func 53) #[] #[.pointer (some ⟨gI, 0, none⟩)]) (some ⟨b, off, none⟩) N c Ds i W3) := hw3
    have hfin : TeJ w g1 g2 gi1 (.func (.func 53) #[] #[.pointer (some ⟨gI, 0, none⟩)]) (some ⟨b, off, none⟩) N c Ds (i + 1) ((W3.setCell ⟨gi1, 0, none⟩ (.int .i64 ((i : Int) + 1))).drew) := (show TeJ w g1 g2 gi1 (.func (.func 53) #[] #[.pointer (some ⟨gI, 0, none⟩)]) (some ⟨b, off, none⟩) N c Ds (i + 1) (W3.setCell ⟨gi1, 0, none⟩ (.int .i64 ((i : Int) + 1))) from hj.out.set (j := i + 1)).keep (below_drewN (Below.refl _ _) 1)
    refine ⟨(keepsFrom_set _ _ _ _).trans (keepsFrom_drewN _ _ 1), mid_of hok.out hw1.out.te.bel hfin.te.bel ?_, ?_⟩
    · have := hs13.out
      show W1.heap.size ≤ (W3.setCell _ _).heap.size
      simpa [World.setCell] using this
    · show TeJ _ _ _ _ _ _ _ _ _ (pre ++ [x]).length _
      rw [hps.out, hDs'.out]
      exact hfin
  rintro Da1 xs Wa1 hDa1 hxs hIa1 hma1
  rw [hxs, hN'.out] at hIa1
  have hJa1 : Hid (TeJ w g1 g2 gi1 (.func (.func 53) #[] #[.pointer (some ⟨gI, 0, none⟩)]) A N c [Da1] N Wa1) := Lib.hid ⟨hIa1.te.mark hma1, hIa1.cnt, hIa1.loi⟩
  have hDa1' := Lib.hid hDa1
  clear hxs hIa1 hma1 hDa1 c0
  have c0 := hJa1.out.te.box0
  have c1 := hJa1.out.te.box1
  have ci := hJa1.out.celi
  go_wp2_with fail
  have hlE1 := Lib.hid hJa1.out.te.lts
  have hszb1 : Hid (w.heap.size ≤ Wa1.heap.size) := Lib.hid hJa1.out.te.bel.size
  refine wp_rangeFunc (gf := 53) (lb := #[.pointer (some ⟨gI, 0, none⟩)]) rfl (enters_of Try.func53 (by kernel_rfl) rfl) (encs := fun x : List Nat => #[Value.agg (u8s x).toArray]) (fun _ => rfl) (G := KyG ks) (fun h => h.2)
    (allK_seq w gI cI AI ks (fun j => j = gI ∨ blockOf AI = some j) hat'.out hr'.out (by rw [hN'.out]; omega) (Or.inl rfl) (fun j hj => Or.inr hj) hok.out) (Mid.of_below hJa1.out.te.bel hok.out) (fun j hj => Nat.lt_of_lt_of_le (hok.out j hj) hszb1.out)
    (fun pre W => pre = [] ∧ TeI w g1 g2 (.func (.func 53) #[] #[.pointer (some ⟨gI, 0, none⟩)]) A N c [Da1] W) (fun cd pre W => cd = .exit 4 ∧ pre ≠ [] ∧ TeI w g1 g2 (.func (.func 53) #[] #[.pointer (some ⟨gI, 0, none⟩)]) A N c [Da1] W) ?_ ?_ ?_ ⟨rfl, hJa1.out.te⟩ ?_ ?_ ?_
  · rintro pre W W' ⟨h1, h⟩ hp
    exact ⟨h1, h.puts hp hszb1.out hlE1.out⟩
  · rintro cd pre W W' ⟨h0, h1, h⟩ hp
    exact ⟨h0, h1, h.puts hp hszb1.out hlE1.out⟩
  · rintro pre W W' ⟨h1, h⟩ hb
    exact ⟨h1, h.keep hb⟩
  · rintro lp pre x W0 W1 hlp ⟨rfl, hw0⟩ hlt ⟨hpre, hbel⟩
    have hw1 := Lib.hid (hw0.keep hbel)
    clear hw0 hpre hbel hlt
    gi_wp2_with fail
    refine ⟨keepsFrom_below (Below.refl _ _), fun W3 hp => ?_⟩
    have hw3 := Lib.hid (hw1.out.puts hp hszb1.out hlE1.out)
    clear hp
    gi_wp2_with fail
    exact ⟨keepsFrom_below (Below.refl _ _), rfl, by simp, hw3.out⟩
  · rintro Db xs W hD hxs ⟨h1, _⟩ _
    exact absurd (hxs.symm.trans h1) hz'.out
  rintro Db1 cd pre Wb1 hDb1 hpre ⟨rfl, _, hIb1⟩ hmb1
  have hTb1 : Hid (TeI w g1 g2 (.func (.func 53) #[] #[.pointer (some ⟨gI, 0, none⟩)]) A N c [Db1, Da1] Wb1) := Lib.hid (hIb1.mark hmb1)
  have hDb1' := Lib.hid hDb1
  clear hIb1 hmb1 hDb1 c0 c1 ci
  go_wp2_with fail
  rw [rounds_succ]
  obtain ⟨va2, hva2⟩ : ∃ va, (Wb1.alloc (.cells #[.int .i64 0] 3)).setCell ⟨Wb1.heap.size, 0, none⟩ (.int .i64 0) = va := ⟨_, rfl⟩
  have hJ02 : Hid (TeJ w g1 g2 Wb1.heap.size (.func (.func 53) #[] #[.pointer (some ⟨gI, 0, none⟩)]) A N c [Db1, Da1] 0 va2) := Lib.hid (by rw [← hva2]; exact hTb1.out.count)
  obtain ⟨gi2, hgi2⟩ : ∃ gi, Wb1.heap.size = gi := ⟨_, rfl⟩
  rw [hgi2] at hJ02 hva2
  have hJ2 := hJ02
  clear hJ02
  have c0 := hJ2.out.te.box0
  go_wp2_with fail
  have hlD2 := Lib.hid hJ2.out.te.lts
  have hsz2 : Hid (w.heap.size ≤ va2.heap.size) := Lib.hid hJ2.out.te.bel.size
  refine wp_rangeFunc (gf := 53) (lb := #[.pointer (some ⟨gI, 0, none⟩)]) rfl (enters_of Try.func53 (by kernel_rfl) rfl) (encs := fun x : List Nat => #[Value.agg (u8s x).toArray]) (fun _ => rfl) (G := KyG ks) (fun h => h.2)
    (allK_seq w gI cI AI ks (fun j => j = gI ∨ blockOf AI = some j) hat'.out hr'.out (by rw [hN'.out]; omega) (Or.inl rfl) (fun j hj => Or.inr hj) hok.out) (Mid.of_below hJ2.out.te.bel hok.out) (fun j hj => Nat.lt_of_lt_of_le (hok.out j hj) hsz2.out)
    (fun pre W => TeJ w g1 g2 gi2 (.func (.func 53) #[] #[.pointer (some ⟨gI, 0, none⟩)]) A N c [Db1, Da1] pre.length W) (fun _ _ _ => False) ?_ (fun _ _ _ _ h _ => h) ?_ hJ2.out ?_ ?_ (fun _ _ _ _ _ _ h _ => h.elim)
  · rintro pre W W' h hp
    exact h.puts hp hsz2.out hlD2.out
  · rintro pre W W' h hb
    exact h.keep hb
  · rintro lp pre x W0 W1 hlp hw0 hlt ⟨hpre, hbel⟩
    obtain ⟨i, hi⟩ : ∃ i, pre.length = i := ⟨_, rfl⟩
    have hx : ks[i]? = some x := by
      obtain ⟨tl, htl⟩ := hpre
      rw [← htl, ← hi]
      simp
    have hiN : i < N := by have := (List.getElem?_eq_some_iff.1 hx).1; rw [hN'.out] at this; exact this
    have hxk : IsK x := hr'.out.ok x (List.mem_of_getElem? hx)
    obtain ⟨b, off, rfl, hbb, hrg⟩ := ownK_at (by rw [← hN'.out] at ho'; exact ho'.out) (fun z hz => (hr'.out.ok z hz).1) hx
    have hrk : Hid (∀ W, Below w.heap.size w W → W.rangeAt b (off + i * 32) (u8s x)) := Lib.hid fun W hW => rangeAt_below hW hbb hrg
    have hx32 : Hid ((u8s x).length = 32) := Lib.hid (by simp [u8s, hxk.1])
    have hxs : Hid ((u8s x).toArray.size = 32) := Lib.hid (by simp [u8s, hxk.1])
    have hcmp : Hid (∀ W, (binOp .neq 25 (.agg (u8s x).toArray) (.agg (u8s x).toArray)).run Try.prog W = .ok (.bool false) W) := Lib.hid fun W => by
      have := neK hxk.1 hxk.1 W
      rwa [decide_eq_true rfl] at this
    have hlt2 : decide (N ≤ i) = false := by simp; omega
    obtain ⟨Ds, hDs⟩ : ∃ Ds : List Nat, [Db1, Da1] = Ds := ⟨_, rfl⟩
    rw [hDs, hi] at hw0
    have hlD : ∀ E ∈ Ds, E < va2.heap.size := by rw [← hDs]; exact hlD2.out
    have hlD' := Lib.hid hlD
    have hw1 := Lib.hid (hw0.keep hbel)
    have hkn := key_new W1 x
    have hkc := Lib.hid hkn.1
    have hbn := Lib.hid hkn.2
    have hw2 := Lib.hid (hw1.out.keep hbn.out)
    have hps : Hid ((pre ++ [x]).length = i + 1) := Lib.hid (by simp [hi])
    have hDs' := Lib.hid hDs
    clear hxk hkn hw0 hpre hbel hlt hx hbb hrg hlD hi hDs
    gi_wp2_with (refine wpListIn_store_row (by rfl) 25 _ _ rfl W1.heap.size (u8s x).toArray rfl rfl 25 _ (heap_alloc_new W1 _) (by rw [hxs.out]; exact hi32.out) (by rw [hxs.out, hzs.out]) (all_oneCell_toArray u8s_one) ?_)
    obtain ⟨W2, hW2⟩ : ∃ W2, (W1.alloc (.cells (u8s (zeros 32)).toArray 25)).setRow W1.heap.size (u8s x).toArray = W2 := ⟨_, rfl⟩
    rw [hW2] at hkc hbn hw2 ⊢
    clear hW2
    refine ⟨keepsFrom_below hbn.out, fun W3 hp => ?_⟩
    have hw3 := Lib.hid (hw2.out.puts hp hsz2.out hlD'.out)
    have hk3 := Lib.hid (hp.cells _ _ _ _ hkc.out)
    have hs13 : Hid (W1.heap.size ≤ W3.heap.size) := Lib.hid (Nat.le_trans hbn.out.size hp.bel.size)
    clear hp
    obtain ⟨gk, hgk⟩ : ∃ gk, W1.heap.size = gk := ⟨_, rfl⟩
    rw [hgk] at hk3 ⊢
    clear hgk
    have hd : Hid (TeK w g1 g2 gi2 gk (.func (.func 53) #[] #[.pointer (some ⟨gI, 0, none⟩)]) (some ⟨b, off, none⟩) N c Ds i x W3.drew) := Lib.hid (by
      have h := hw3.out.keep (below_drewN (Below.refl _ _) 1)
      exact ⟨h.te, h.cnt, h.loi, hk3.out⟩)
    gi_wp2_with fail
    refine wpIn_region_calm (S := TeK w g1 g2 gi2 gk (.func (.func 53) #[] #[.pointer (some ⟨gI, 0, none⟩)]) (some ⟨b, off, none⟩) N c Ds i x) (by kernel_rfl) (by
        intro i o ho c hc
        rcases i with _ | _ | _ | _ | _ | _ | _ | _ | _ | _ | _ | _ | _ | _ | i <;> simp at ho
        all_goals (subst ho; simp at hc)) ?_
    change wpAnyH _ _ _ _ _ _ _ _ (World.drew _)
    refine tk (i := 0) (d := 16) (v := (.int .i64 (i : Int))) rfl rfl (Or.inl ⟨by rfl, by intro W hW; have c0 := hW.celi; clear hW; go_simp⟩) hd.out (hQ := calm_panic) ?_
    simp only [List.setIfInBounds_toArray, List.set_cons_zero, List.set_cons_succ]
    refine tk (i := 1) (d := 17) (v := (.pointer (some ⟨g1, 1, none⟩))) rfl rfl (Or.inl ⟨by rfl, by intro W hW; clear hW; go_simp⟩) hd.out (hQ := calm_panic) ?_
    simp only [List.setIfInBounds_toArray, List.set_cons_zero, List.set_cons_succ]
    refine tk (i := 2) (d := 18) (v := (.slice (some ⟨b, off, none⟩) N c)) rfl rfl (Or.inl ⟨by rfl, by intro W hW; have c1 := hW.te.box1; clear hW; go_simp⟩) hd.out (hQ := calm_panic) ?_
    simp only [List.setIfInBounds_toArray, List.set_cons_zero, List.set_cons_succ]
    refine tk (i := 3) (d := 19) (v := (.int .i64 (N : Int))) rfl rfl (Or.inl ⟨by rfl, by intro W hW; clear hW; go_simp⟩) hd.out (hQ := calm_panic) ?_
    simp only [List.setIfInBounds_toArray, List.set_cons_zero, List.set_cons_succ]
    refine tk (i := 4) (d := 20) (v := (.bool false)) rfl rfl (Or.inl ⟨by rfl, by intro W hW; have hh := hlt2; clear hW; go_simp⟩) hd.out (hQ := calm_panic) ?_
    simp only [List.setIfInBounds_toArray, List.set_cons_zero, List.set_cons_succ]
    refine tk (i := 5) (d := 21) (v := (.bool false)) rfl rfl (Or.inl ⟨by rfl, by intro W hW; clear hW; go_simp⟩) hd.out (hQ := calm_panic) ?_
    simp only [List.setIfInBounds_toArray, List.set_cons_zero, List.set_cons_succ]
    refine tk (i := 6) (d := 22) (v := (.agg (u8s x).toArray)) rfl rfl (yieldsIf_load_row (by rfl) 25 _ rfl gk rfl 25 (u8s x).toArray (0, 0) _ (fun W hW => hW.key) Try.underlying25 rfl (by rw [hxs.out]; exact hi32.out)) hd.out (hQ := calm_panic) ?_
    simp only [List.setIfInBounds_toArray, List.set_cons_zero, List.set_cons_succ]
    refine tk (i := 7) (d := 23) (v := (.pointer (some ⟨g1, 1, none⟩))) rfl rfl (Or.inl ⟨by rfl, by intro W hW; clear hW; go_simp⟩) hd.out (hQ := calm_panic) ?_
    simp only [List.setIfInBounds_toArray, List.set_cons_zero, List.set_cons_succ]
    refine tk (i := 8) (d := 24) (v := (.slice (some ⟨b, off, none⟩) N c)) rfl rfl (Or.inl ⟨by rfl, by intro W hW; have c1 := hW.te.box1; clear hW; go_simp⟩) hd.out (hQ := calm_panic) ?_
    simp only [List.setIfInBounds_toArray, List.set_cons_zero, List.set_cons_succ]
    refine tk (i := 9) (d := 25) (v := (.int .i64 (i : Int))) rfl rfl (Or.inl ⟨by rfl, by intro W hW; have c0 := hW.celi; clear hW; go_simp⟩) hd.out (hQ := calm_panic) ?_
    simp only [List.setIfInBounds_toArray, List.set_cons_zero, List.set_cons_succ]
    refine tk (i := 10) (d := 26) (v := (.pointer (some ⟨b, off + i * 32, none⟩))) rfl rfl (Or.inl ⟨by rfl, by intro W hW; clear hW; go_simp⟩) hd.out (hQ := calm_panic) ?_
    simp only [List.setIfInBounds_toArray, List.set_cons_zero, List.set_cons_succ]
    refine tk (i := 11) (d := 27) (v := (.agg (u8s x).toArray)) rfl rfl (yieldsIf_load_mid (by rfl) 25 _ rfl b (off + i * 32) rfl (u8s x) _ (fun W hW => hrk.out W hW.te.bel) Try.underlying25 rfl (by rw [hx32.out]; exact hi32.out)) hd.out (hQ := calm_panic) ?_
    simp only [List.setIfInBounds_toArray, List.set_cons_zero, List.set_cons_succ]
    refine tk (i := 12) (d := 28) (v := (.bool false)) rfl rfl (yieldsIf_binA (by rfl) .neq 25 _ _ _ rfl (.agg (u8s x).toArray) (.agg (u8s x).toArray) rfl rfl (.bool false) (fun _ => rfl) (fun W _ => hcmp.out W)) hd.out (hQ := calm_panic) ?_
    simp only [List.setIfInBounds_toArray, List.set_cons_zero, List.set_cons_succ]
    refine tk (i := 13) (d := 29) (v := (.bool false)) rfl rfl (Or.inl ⟨by rfl, by intro W hW; clear hW; go_simp⟩) hd.out (hQ := calm_panic) ?_
    simp only [List.setIfInBounds_toArray, List.set_cons_zero, List.set_cons_succ]
    refine wpAnyH_done (by kernel_rfl) ?_ _
    refine ⟨rfl, ?_⟩
    have hdz := hd
    have ci := hdz.out.celi
    have fi : W3.drew.frozen? ⟨gi2, 0, none⟩ = false := frozen_of_row _ _ _ _ _ hdz.out.cnt
    gi_wp2_with fail
    have hj : Hid (TeJ w g1 g2 gi2 (.func (.func 53) #[] #[.pointer (some ⟨gI, 0, none⟩)]) (some ⟨b, off, none⟩) N c Ds i W3) := hw3
    have hfin : TeJ w g1 g2 gi2 (.func (.func 53) #[] #[.pointer (some ⟨gI, 0, none⟩)]) (some ⟨b, off, none⟩) N c Ds (i + 1) ((W3.setCell ⟨gi2, 0, none⟩ (.int .i64 ((i : Int) + 1))).drew) := (show TeJ w g1 g2 gi2 (.func (.func 53) #[] #[.pointer (some ⟨gI, 0, none⟩)]) (some ⟨b, off, none⟩) N c Ds (i + 1) (W3.setCell ⟨gi2, 0, none⟩ (.int .i64 ((i : Int) + 1))) from hj.out.set (j := i + 1)).keep (below_drewN (Below.refl _ _) 1)
    refine ⟨(keepsFrom_set _ _ _ _).trans (keepsFrom_drewN _ _ 1), mid_of hok.out hw1.out.te.bel hfin.te.bel ?_, ?_⟩
    · have := hs13.out
      show W1.heap.size ≤ (W3.setCell _ _).heap.size
      simpa [World.setCell] using this
    · show TeJ _ _ _ _ _ _ _ _ _ (pre ++ [x]).length _
      rw [hps.out, hDs'.out]
      exact hfin
  rintro Da2 xs Wa2 hDa2 hxs hIa2 hma2
  rw [hxs, hN'.out] at hIa2
  have hJa2 : Hid (TeJ w g1 g2 gi2 (.func (.func 53) #[] #[.pointer (some ⟨gI, 0, none⟩)]) A N c [Da2, Db1, Da1] N Wa2) := Lib.hid ⟨hIa2.te.mark hma2, hIa2.cnt, hIa2.loi⟩
  have hDa2' := Lib.hid hDa2
  clear hxs hIa2 hma2 hDa2 c0
  have c0 := hJa2.out.te.box0
  have c1 := hJa2.out.te.box1
  have ci := hJa2.out.celi
  go_wp2_with fail
  have hlE2 := Lib.hid hJa2.out.te.lts
  have hszb2 : Hid (w.heap.size ≤ Wa2.heap.size) := Lib.hid hJa2.out.te.bel.size
  refine wp_rangeFunc (gf := 53) (lb := #[.pointer (some ⟨gI, 0, none⟩)]) rfl (enters_of Try.func53 (by kernel_rfl) rfl) (encs := fun x : List Nat => #[Value.agg (u8s x).toArray]) (fun _ => rfl) (G := KyG ks) (fun h => h.2)
    (allK_seq w gI cI AI ks (fun j => j = gI ∨ blockOf AI = some j) hat'.out hr'.out (by rw [hN'.out]; omega) (Or.inl rfl) (fun j hj => Or.inr hj) hok.out) (Mid.of_below hJa2.out.te.bel hok.out) (fun j hj => Nat.lt_of_lt_of_le (hok.out j hj) hszb2.out)
    (fun pre W => pre = [] ∧ TeI w g1 g2 (.func (.func 53) #[] #[.pointer (some ⟨gI, 0, none⟩)]) A N c [Da2, Db1, Da1] W) (fun cd pre W => cd = .exit 4 ∧ pre ≠ [] ∧ TeI w g1 g2 (.func (.func 53) #[] #[.pointer (some ⟨gI, 0, none⟩)]) A N c [Da2, Db1, Da1] W) ?_ ?_ ?_ ⟨rfl, hJa2.out.te⟩ ?_ ?_ ?_
  · rintro pre W W' ⟨h1, h⟩ hp
    exact ⟨h1, h.puts hp hszb2.out hlE2.out⟩
  · rintro cd pre W W' ⟨h0, h1, h⟩ hp
    exact ⟨h0, h1, h.puts hp hszb2.out hlE2.out⟩
  · rintro pre W W' ⟨h1, h⟩ hb
    exact ⟨h1, h.keep hb⟩
  · rintro lp pre x W0 W1 hlp ⟨rfl, hw0⟩ hlt ⟨hpre, hbel⟩
    have hw1 := Lib.hid (hw0.keep hbel)
    clear hw0 hpre hbel hlt
    gi_wp2_with fail
    refine ⟨keepsFrom_below (Below.refl _ _), fun W3 hp => ?_⟩
    have hw3 := Lib.hid (hw1.out.puts hp hszb2.out hlE2.out)
    clear hp
    gi_wp2_with fail
    exact ⟨keepsFrom_below (Below.refl _ _), rfl, by simp, hw3.out⟩
  · rintro Db xs W hD hxs ⟨h1, _⟩ _
    exact absurd (hxs.symm.trans h1) hz'.out
  rintro Db2 cd pre Wb2 hDb2 hpre ⟨rfl, _, hIb2⟩ hmb2
  have hTb2 : Hid (TeI w g1 g2 (.func (.func 53) #[] #[.pointer (some ⟨gI, 0, none⟩)]) A N c [Db2, Da2, Db1, Da1] Wb2) := Lib.hid (hIb2.mark hmb2)
  have hDb2' := Lib.hid hDb2
  clear hIb2 hmb2 hDb2 c0 c1 ci
  go_wp2_with fail
  rw [rounds_succ]
  have f0 : Wb2.frozen? ⟨g2, 0, none⟩ = false := frozen_of_row _ _ _ _ _ hTb2.out.res
  have c0 := hTb2.out.resc
  go_wp2_with fail
  have e1 := hlE1.out Da1 (by simp)
  have e2 := hlD2.out Db1 (by simp)
  have e3 := hlE2.out Da2 (by simp)
  have e4 := hDb1'.out
  have e5 := hDa2'.out
  have e6 := hDb2'.out
  have e7 := hDa1'.out
  have e8 := hsz1.out
  refine leaves_marksC (v := .bool true) [Db2, Da2, Db1, Da1] (Wb2.setCell ⟨g2, 0, none⟩ (.bool true)) (by simp; omega) (fun D hD => ?_) (fun W hp => ?_)
  · have h1 := hTb2.out.ds D hD
    refine (Below.heap_setCell Wb2 ⟨g2, 0, none⟩ _ D fun e => ?_).trans h1
    have h2 := hTb2.out.res
    rw [show D = g2 from e, h2] at h1
    cases h1
  · have hp2 := hp va1.heap.size (fun D hD => by simp at hD; rcases hD with rfl | rfl | rfl | rfl <;> omega)
    refine ⟨results_cell1 rfl rfl (loadVar_boolK (hp2.cell (World.cell?_setCell_same _ _ _ c0))), rfl, ?_⟩
    exact below_puts (hTb2.out.bel.setCell (p := ⟨g2, 0, none⟩) hTb2.out.lo.2.1 _) hp2 e8
end Go.Proofs.Ytlolnpilpdkbkaa

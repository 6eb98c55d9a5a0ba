/- slices.AppendSeq, slices.Collect over a set's keys. -/
import Derived.Test.YtgjokkjmljdmbaaKyI
namespace Go.Proofs.Ytgjokkjmljdmbaa
open Go.RowKit Go.Maps Go.Shelf
set_option linter.unusedSimpArgs false
set_option linter.unusedVariables false
attribute [local go_sem] Oper.semAt_some

theorem leaves_marksQ {P : Program} {fn : Func} {tmps : Array Value} {R : Ending → World → Prop} {v : Value} : ∀ (Ds : List Nat) (w : World), Ds.Nodup → (∀ D ∈ Ds, w.heap[D]? = some (.deferred (some []))) →
    (∀ W, (results fn tmps).run P W = .ok v W) → (∀ W, (∀ lo, (∀ D ∈ Ds, lo ≤ D) → Puts lo w W) → R (.returned v) W) → LeavesInM Fence.wide 0 P fn tmps R (Ds.map mark) .returning w
  | [], w, _, _, hr, h => ⟨v, hr w, h w fun lo _ => ⟨Below.refl _ _, fun _ _ _ _ hk => hk⟩⟩
  | D :: Ds, w, hn, hD, hr, h => by
    obtain ⟨h1, h2⟩ := List.nodup_cons.1 hn
    have hd := hD D (by simp)
    refine ⟨by simp, .inl ⟨_, _, rfl, run_takeDeferred hd, leaves_marksQ Ds _ h2 (fun E hE => ?_) hr fun W hW => h W fun lo hlo => ?_⟩⟩
    · exact (World.putObj_heap_other (by rintro rfl; exact h1 hE)).trans (hD E (by simp [hE]))
    · exact (Puts.putObj _ hd rfl (hlo D (by simp))).trans (hW lo fun E hE => hlo E (by simp [hE]))
/-- What which has laid in so far. -/
def takeK (t : List Nat → Bool) (pre ks : List (List Nat)) : List (List Nat) := insAll (pre.filter t) ks
section
variable {F : Fence} {fn : Nat} {ops : Array Oper} {rest : List Oper} {o : Oper} {a : Act} {w : World} {Q : Exit → Act → World → Prop}
theorem wpListIn_bslQ {x : List Nat} (hg : o.guard = none) (t1 : Operand) (ho : o.op = .buildSlice 32 1 #[(0, t1)]) (hx : a.eval t1 = .agg (u8s x).toArray) (hl : (u8s x).toArray.size = 32)
    (hb : Try.prog.builtSlice 29 1 [(0, .agg (u8s x).toArray)] = some (u8s x).toArray)
    (h : wpListIn F fn Try.prog ops Q rest (a.put o.dst (.slice (some ⟨w.heap.size, 0, none⟩) 1 1)) (w.alloc (.cells (u8s x).toArray 29))) : wpListIn F fn Try.prog ops Q (o :: rest) a w :=
  wpListIn_val (by simp [Region.wanted, hg]) (by rw [ho]; intro c hc; cases hc) (by simp [Oper.about, ho]) (by
    unfold execOp
    simp only [ho, List.map_toArray, List.map_cons, List.map_nil, hx, Sem.run_bind, run_bslice w _ _ _ _ _ Try.underlying32 hb, Result.andThen_ok, Sem.run_pure]) h
end
/-- Between two rounds of told: the list's variable g, its row. -/
def TqI (w : World) (g lo : Nat) (pre : List (List Nat)) (W : World) : Prop :=
  ∃ A c, W.cell? ⟨g, 0, none⟩ = some (.slice A pre.length c) ∧ W.frozen? ⟨g, 0, none⟩ = false ∧ g < W.heap.size ∧ w.heap.size ≤ g ∧ Below w.heap.size w W ∧ Own W lo 29 32 A pre.length c (rowsK pre)
theorem TqI.keep {w W W' : World} {g lo : Nat} {pre : List (List Nat)} (h : TqI w g lo pre W) (hb : Below W.heap.size W W') : TqI w g lo pre W' := by
  obtain ⟨A, c, h1, h2, h3, h4, h5, h6⟩ := h
  exact ⟨A, c, (hb.cell (p := ⟨g, 0, none⟩) h3).trans h1, (hb.frozen (p := ⟨g, 0, none⟩) h3).trans h2, Nat.lt_of_lt_of_le h3 hb.size, h4, h5.trans (hb.mono h5.size), h6.below hb (fun k hk => (h6.lt k hk).2)⟩
theorem TqI.puts {w W W' : World} {g lo D : Nat} {pre : List (List Nat)} (h : TqI w g lo pre W) (hp : Puts D W W') (hD : w.heap.size ≤ D) : TqI w g lo pre W' := by
  obtain ⟨A, c, h1, h2, h3, h4, h5, h6⟩ := h
  exact ⟨A, c, hp.cell h1, (hp.frozen h1).trans h2, Nat.lt_of_lt_of_le h3 hp.bel.size, h4, below_puts h5 hp hD, h6.puts hp⟩
/-- A key is laid behind. -/
theorem TqI.app {w W W4 : World} {g lo c4 : Nat} {pre : List (List Nat)} {x : List Nat} {A A4 : Option Addr} {c : Nat} (h3 : g < W.heap.size) (hlo : g < lo) (h4 : w.heap.size ≤ g) (h5 : Below w.heap.size w W) (q4 : W4.cell? ⟨g, 0, none⟩ = some (.slice A pre.length c)) (f4 : W4.frozen? ⟨g, 0, none⟩ = false)
    (b4 : Below lo W W4) (o4 : Own W4 lo 29 32 A4 (pre.length + 1) c4 (rowsK (pre ++ [x]))) : TqI w g lo (pre ++ [x]) (W4.setCell ⟨g, 0, none⟩ (.slice A4 (pre.length + 1) c4)) := by
  refine ⟨A4, c4, ?_, ?_, ?_, h4, ?_, ?_⟩
  · rw [World.cell?_setCell_same W4 _ _ q4]
    simp
  · rw [World.frozen?_setCell]
    exact f4
  · have := b4.size
    simp [World.setCell]
    omega
  · exact (h5.trans (b4.mono (by omega))).setCell (p := ⟨g, 0, none⟩) h4 _
  · rw [show (pre ++ [x]).length = pre.length + 1 by simp]
    exact o4.setFar hlo _
def ColP (w : World) (ks : List (List Nat)) (e : Ending) (w' : World) : Prop :=
  ∃ A c, e = .returned (.slice A ks.length c) ∧ Own w' w.heap.size 29 32 A ks.length c (rowsK ks) ∧ Below w.heap.size w w'
set_option maxRecDepth 100000 in
set_option maxHeartbeats 4000000 in
theorem appendSeq_any (w : World) (gI cI : Nat) (AI : Option Addr) (ks : List (List Nat)) (h : AllAt w gI AI cI ks) (hr0 : Rise32 ks) (hl : ks.length ≤ 4398046511104) :
    Calls Try.prog 48 #[.slice none 0 0, .func (.func 50) #[] #[.pointer (some ⟨gI, 0, none⟩)]] w (ColP w ks) := by
  obtain ⟨va, hva⟩ : ∃ va, w.alloc (.cells #[.slice none 0 0] 32) = va := ⟨_, rfl⟩
  have hB : Hid (Below w.heap.size w va) := Lib.hid (by rw [← hva]; exact (Below.refl _ _).alloc (Nat.le_refl _) _)
  have hI0 : Hid (va.cell? ⟨w.heap.size, 0, none⟩ = some (.slice none 0 0) ∧ va.frozen? ⟨w.heap.size, 0, none⟩ = false ∧ w.heap.size < va.heap.size) := Lib.hid (by
    have hx : va.heap[w.heap.size]? = some (.cells #[.slice none 0 0] 32 (0, 0)) := by rw [← hva]; exact heap_alloc_new w _
    exact ⟨by simp [World.cell?, hx], by simp [World.frozen?, hx], (Array.getElem?_eq_some_iff.1 hx).1⟩)
  have hat' := Lib.hid (h.below hB.out (Nat.le_refl _))
  have hlts := Lib.hid h.lts
  have hr := Lib.hid hr0
  have hi32 : Hid ((Try.prog.info? 29).map (·.size) = some 32) := Lib.hid (by kernel_rfl)
  have hzs : Hid ((u8s (zeros 32)).toArray.size = 32) := Lib.hid (by simp [u8s, zeros])
  have hzk := zeroKy
  have hq : ∀ (g : Nat) (w : World), (binOp .eql 82 (.func (.func 50) #[] #[.pointer (some ⟨g, 0, none⟩)]) .nilFunc).run Try.prog w = .ok (.bool false) w := fun _ _ => by kernel_rfl
  have hva' := Lib.hid hva
  clear h hr0
  refine calls_marks Try.func48 rfl ?_
  simp only [Try.ntmps48, List.size_toArray, List.length_cons, List.length_nil, Nat.reduceAdd, Nat.reduceSub, Array.replicate_succ, Array.replicate_zero, List.push_toArray, List.append_toArray, List.nil_append, List.cons_append]
  go_wp2_with fail
  clear hva
  have hbl' : Hid (Below va.heap.size va va) := Lib.hid (Below.refl _ _)
  have hI1 : Hid (TqI w w.heap.size va.heap.size [] va) := Lib.hid (by
    obtain ⟨h1, h2, h3⟩ := hI0.out
    exact ⟨none, 0, (hbl'.out.cell (p := ⟨w.heap.size, 0, none⟩) h3).trans h1, (hbl'.out.frozen (p := ⟨w.heap.size, 0, none⟩) h3).trans h2, Nat.lt_of_lt_of_le h3 hbl'.out.size, Nat.le_refl _, hB.out.trans (hbl'.out.mono hB.out.size), Own.nil _ _ _ _⟩)
  have hszD : Hid (w.heap.size ≤ va.heap.size) := Lib.hid (Nat.le_trans hB.out.size hbl'.out.size)
  have hgw : Hid (w.heap.size < va.heap.size) := Lib.hid hI0.out.2.2
  refine wp_rangeFunc (gf := 50) (lb := #[.pointer (some ⟨gI, 0, none⟩)]) rfl (enters_of Try.func50 (by kernel_rfl) rfl) (encs := fun x : List Nat => #[Value.agg (u8s x).toArray]) (fun _ => rfl) (G := KyG ks) (fun h => h.2)
    (allK_seq va gI cI AI ks (fun j => j = gI ∨ blockOf AI = some j) hat'.out hr.out (by omega) (Or.inl rfl) (fun j hj => Or.inr hj) (fun j hj => by rcases hj with rfl | hj; exact hat'.out.lts.1; exact hat'.out.lts.2 j hj)) (Mid.refl _ _) (fun j hj => by rcases hj with rfl | hj; exact hat'.out.lts.1; exact hat'.out.lts.2 j hj)
    (fun pre W => TqI w w.heap.size va.heap.size pre W) (fun _ _ _ => False) ?_ (fun _ _ _ _ h _ => h) ?_ hI1.out ?_ ?_ (fun _ _ _ _ _ _ h _ => h.elim)
  · rintro pre W W' h hp
    exact h.puts hp hszD.out
  · rintro pre W W' h hb
    exact h.keep hb
  · rintro lp pre x W0 W1 hlp hw0 hlt ⟨hpre, hbel⟩
    have hxm : x ∈ ks := hpre.subset (by simp)
    have hxk : IsK x := hr.out.ok x hxm
    have hpl : pre.length + 1 ≤ 4398046511104 := by have := hpre.length_le; simp at this; omega
    have hva := Lib.hid (hw0.keep hbel)
    have hxs : Hid ((u8s x).toArray.size = 32) := Lib.hid (by simp [u8s, hxk.1])
    have hbK : Hid _ := Lib.hid (builtK x hxk.1)
    have hone : Hid (∀ u ∈ (u8s x).toArray.toList, u.oneCell' = true) := Lib.hid (fun u hu => u8s_one u (by simpa using hu))
    have hsn : Hid (rowsK pre ++ (u8s x).toArray.toList = rowsK (pre ++ [x])) := Lib.hid (by simp [rowsK])
    have hkn := key_new W1 x
    have hkc := Lib.hid hkn.1
    have hbn := Lib.hid hkn.2
    have hw2 := Lib.hid (hva.out.keep hbn.out)
    have hok1 : Hid (∀ j, (j = gI ∨ blockOf AI = some j) → j < W1.heap.size ∧ j ≠ w.heap.size ∧ j < va.heap.size) := Lib.hid fun j hj => by
      have h1 : j < w.heap.size := by
        rcases hj with rfl | hj
        · exact hlts.out.1
        · exact hlts.out.2 j hj
      have h2 := hbel.size
      have h3 := hgw.out
      exact ⟨by omega, by omega, by omega⟩
    have hlt9 : Hid (va.heap.size < W1.heap.size) := Lib.hid (Nat.lt_of_lt_of_le hlt hbel.size)
    clear hxm hxk hkn hw0 hpre hbel hlt
    gi_wp2_with (refine wpListIn_store_row (by rfl) 29 _ _ rfl W1.heap.size (u8s x).toArray rfl rfl 29 _ (heap_alloc_new W1 _) (by rw [hxs.out]; exact hi32.out) (by rw [hxs.out, hzs.out]) (all_oneCell_toArray u8s_one) ?_)
    obtain ⟨W2, hW2⟩ : ∃ W2, (W1.alloc (.cells (u8s (zeros 32)).toArray 29)).setRow W1.heap.size (u8s x).toArray = W2 := ⟨_, rfl⟩
    rw [hW2] at hkc hbn hw2 ⊢
    clear hW2
    refine ⟨keepsFrom_below hbn.out, fun W3 hp => ?_⟩
    have hw3 := Lib.hid (hw2.out.puts hp hszD.out)
    have hk3 := Lib.hid (hp.cells _ _ _ _ hkc.out)
    have hbl3 := Lib.hid hp.bel.size
    have hg3 : Hid (W1.heap.size < W3.heap.size) := Lib.hid (Array.getElem?_eq_some_iff.1 hk3.out).1
    have m3 : Hid (Mid (fun j => j = gI ∨ blockOf AI = some j) W1 W3) := Lib.hid ((Mid.of_below hbn.out (fun j hj => (hok1.out j hj).1)).trans (Mid.of_below hp.bel (fun j hj => by rcases hj with rfl | hj; exact hat'.out.lts.1; exact hat'.out.lts.2 j hj)))
    clear hp
    obtain ⟨A, c, q3, f3, l3, l4, b3, o3⟩ := hw3.out
    have o3' := Lib.hid o3
    have b3' := Lib.hid b3
    have l3' := Lib.hid l3
    clear o3 b3 l3 l4 hw3 hw2 hva
    have hvW : Hid (w.heap.size < va.heap.size) := Lib.hid (Nat.lt_of_lt_of_le hgw.out hbl'.out.size)
    have hB3 : Hid (va.heap.size ≤ W3.heap.size) := Lib.hid (Nat.le_trans (Nat.le_of_lt hlt9.out) (Nat.le_trans hbn.out.size hbl3.out))
    have hdis : Hid (∀ j, (j = gI ∨ blockOf AI = some j) → blockOf A ≠ some j) := Lib.hid fun j hj e => by
      have h1 := (hok1.out j hj).2.2
      have h2 := (o3'.out.lt j e).1
      omega
    obtain ⟨gk, hgk⟩ : ∃ gk, W1.heap.size = gk := ⟨_, rfl⟩
    rw [hgk] at hk3 ⊢
    clear hgk
    gi_wp2_with (first
      | (refine wpListIn_load_row (by rfl) 29 _ rfl gk rfl 29 (u8s x).toArray (0, 0) _ hk3.out Try.underlying29 rfl (by rw [hxs.out]; exact hi32.out) ?_)
      | (refine wpListIn_bslQ rfl _ rfl rfl hxs.out hbK.out ?_)
      | (gi_at_builtin; refine wpListIn_app1 elK W3 (u8s x).toArray hxs.out rfl _ _ rfl rfl o3'.out rfl hone.out (by unfold maxLen; omega) (by omega) hB3.out (pre.length + 1) rfl (rowsK (pre ++ [x])) hsn.out ?_
         intro A4 c4 w4 o4 at4 b4
         have q4 := (b4.cell (p := ⟨w.heap.size, 0, none⟩) hvW.out).trans q3
         have f4 := (b4.frozen (p := ⟨w.heap.size, 0, none⟩) hvW.out).trans f3
         have k4 := Lib.hid (at4.keeps o3'.out)
         have hI4 := Lib.hid (TqI.app l3'.out hvW.out (Nat.le_refl _) b3'.out q4 f4 b4 o4)
         have m4 : Hid (Mid (fun j => j = gI ∨ blockOf AI = some j) W3 w4) := Lib.hid ⟨at4.grown.size, fun j hj => at4.grown.block j (Nat.lt_of_lt_of_le (hok1.out j hj).1 m3.out.size) (fun e => hdis.out j hj e.symm)⟩
         clear o4 at4 b4))
    exact ⟨(k4.out.trans (KeepsOthers.setCell _ _ _)).from _, (m3.out.trans m4.out).setCell (p := ⟨w.heap.size, 0, none⟩) (fun h => (hok1.out _ h).2.1 rfl) _, hI4.out⟩
  · rintro D xs W hD hxs hI hmark
    rw [hxs] at hI
    have hm' := Lib.hid hmark
    obtain ⟨A, c, q3, f3, l3, l4, b3, o3⟩ := hI
    have o3' := Lib.hid o3
    have b3' := Lib.hid b3
    clear hmark o3 b3 hxs
    go_wp2_with fail
    refine leaves_marksQ [D] W (by simp) (fun E hE => by simp at hE; subst hE; exact hm'.out) (fun W => results_tmp rfl _ _ _) (fun W9 hp => ?_)
    have hp2 := hp D (fun E hE => by simp at hE; omega)
    exact ⟨A, c, rfl, (o3'.out.puts hp2).base hszD.out, below_puts b3'.out hp2 (Nat.le_trans hszD.out hD)⟩
set_option maxRecDepth 100000 in
theorem collect_any (w : World) (gI cI : Nat) (AI : Option Addr) (ks : List (List Nat)) (h : AllAt w gI AI cI ks) (hr0 : Rise32 ks) (hl : ks.length ≤ 4398046511104) :
    Calls Try.prog 45 #[.func (.func 50) #[] #[.pointer (some ⟨gI, 0, none⟩)]] w (ColP w ks) := by
  have ha := Lib.hid (appendSeq_any w gI cI AI ks h hr0 hl)
  obtain ⟨Q, hQ⟩ : ∃ Q, ColP w ks = Q := ⟨_, rfl⟩
  have hf : Hid (∀ e w', ColP w ks e w' → ∃ v, e = .returned v ∧ Q (.returned v) w') := Lib.hid fun e w' hc => by
    obtain ⟨A, c, rfl, h2⟩ := hc
    exact ⟨_, rfl, by rw [← hQ]; exact ⟨A, c, rfl, h2⟩⟩
  rw [hQ]
  clear h hr0 hQ
  go_enter Try.func45, Try.ntmps45
  go_wp2_with (go_at_call 48; refine ha.out.mono ?_; intro e w' hc; obtain ⟨v, rfl, hv⟩ := hf.out e w' hc; have hv' := Lib.hid hv; clear hc hv ha)
  exact hv'.out
end Go.Proofs.Ytgjokkjmljdmbaa

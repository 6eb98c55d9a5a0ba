/- Rows of roots; append inside a fence; listed. -/
import Derived.Test.YtakcnkmlglkkpaaPkR4
import Derived.Test.YtakcnkmlglkkpaaPkR3
import Derived.Great.Walk

namespace Go.Proofs.Ytakcnkmlglkkpaa
open Go.RowKit Go.Shelf
set_option linter.unusedSimpArgs false
set_option linter.unusedVariables false
attribute [local go_sem] Oper.semAt_some

/-- The cells of a row of roots. -/
def rowsR (l : List RootT) : List Value := l.flatMap encR
theorem rowsR_snoc (l : List RootT) (x : RootT) : rowsR (l ++ [x]) = rowsR l ++ encR x := by simp [rowsR]
theorem rowsR_length : ∀ l : List RootT, (rowsR l).length = l.length * 33
  | [] => rfl
  | x :: l => by
    have := rowsR_length l
    simp only [rowsR, List.flatMap_cons, List.length_append, encR_length, List.length_cons] at this ⊢
    omega
theorem elR : ElemOk Try.prog 24 61 (.agg (encR rZ).toArray) 33 48 := ⟨Try.underlying24, by kernel_rfl, by simp [Value.cells, encR_length], by decide⟩

section
variable {F : Fence} {fn : Nat} {P : Program} {ops : Array Oper} {rest : List Oper} {o : Oper} {a : Act} {Q : Exit → Act → World → Prop}
theorem wpListIn_app {t e : TypeId} {z : Value} {size bytes : Nat} (E : ElemOk P t e z size bytes) (w : World) (hgd : o.guard = none) (s x : Operand)
    (ho : o.op = .call { callee := .builtin .append, args := #[s, x], argTypes := #[t, t] })
    {B : Nat} {A : Option Addr} {n c : Nat} {xs : List Value} (hs : a.eval s = .slice A n c) (hown : Own w B e size A n c xs)
    {B2 : Nat} {A2 : Option Addr} {m c2 : Nat} {g : Nat → Value} (hx : a.eval x = .slice A2 m c2) (hr : Rd w B2 A2 (m * size) g) (h1 : ∀ j, j < m * size → (g j).oneCell' = true)
    (hn : n + m ≤ maxLen) (hb : (n + m + (n + m) / 4 + 192) * bytes ≤ 281474976710656) (hB : B ≤ w.heap.size) (N : Nat) (hN : n + m = N) (ys : List Value) (hys : xs ++ (List.range (m * size)).map g = ys)
    (h : ∀ A' c' w', Own w' B e size A' N c' ys → AppAt w w' A A' → Below B w w' →
      wpListIn F fn P ops Q rest (a.put o.dst (.slice A' N c')) w') : wpListIn F fn P ops Q (o :: rest) a w := by
  subst hN hys
  refine wpListIn_plain hgd fun K hK => ?_
  obtain ⟨A', c', w', hrun, h2, h3⟩ := run_app (P := P) E o.type w hown hr h1 hn hb hB (c2 := c2)
  unfold Oper.wpIn
  refine ⟨?_, ?_⟩
  · simp [Oper.about, ho, resolve, Target.leads, Sem.run_pure]
  · rw [Oper.semAt_plain F _ _ (by rw [ho]; intro c hc'; cases hc')]
    simp only [execOp, ho, resolve, invoke, builtin, Sem.run_bind, Sem.run_pure, Result.andThen_ok, List.map_toArray, List.map_cons, List.map_nil, hs, hx, hrun]
    exact hK _ _ (h A' c' w' h2 h3 (h3.below hown hB))
theorem wpListIn_app1 {t e : TypeId} {z : Value} {size bytes : Nat} (E : ElemOk P t e z size bytes) (w : World) (cs : Array Value) (hcs : cs.size = size) (hgd : o.guard = none) (s x : Operand)
    (ho : o.op = .call { callee := .builtin .append, args := #[s, x], argTypes := #[t, t] })
    {B : Nat} {A : Option Addr} {n c : Nat} {xs : List Value} (hs : a.eval s = .slice A n c) (hown : Own w B e size A n c xs)
    (hx : a.eval x = .slice (some ⟨w.heap.size, 0, none⟩) 1 1) (h1 : ∀ u ∈ cs.toList, u.oneCell' = true)
    (hn : n + 1 ≤ maxLen) (hb : (n + 1 + (n + 1) / 4 + 192) * bytes ≤ 281474976710656) (hB : B ≤ w.heap.size) (N : Nat) (hN : n + 1 = N) (ys : List Value) (hys : xs ++ cs.toList = ys)
    (h : ∀ A' c' w', Own w' B e size A' N c' ys → AppAt w w' A A' → Below B w w' →
      wpListIn F fn P ops Q rest (a.put o.dst (.slice A' N c')) w') : wpListIn F fn P ops Q (o :: rest) a (w.alloc (.cells cs e)) := by
  subst hN hys
  have hrd : Rd (w.alloc (.cells cs e)) (w.heap.size + 1) (some ⟨w.heap.size, 0, none⟩) (1 * size) (fun j => cs.toList[j]?.getD undef) := fun _ => by
    refine ⟨w.heap.size, 0, rfl, by omega, fun j hj => ?_⟩
    rw [cell_of_row (w.alloc (.cells cs e)) w.heap.size (0 + j) cs e (0, 0) (heap_alloc_new w _)]
    simp [show j < cs.size by omega]
  refine wpListIn_app E (w.alloc (.cells cs e)) hgd s x ho hs (hown.alloc _) hx hrd ?_ hn hb (by simp; omega) (n + 1) rfl _ rfl ?_
  · intro j hj
    have hj' : j < cs.toList.length := by simp; omega
    simp only [List.getElem?_eq_getElem hj', Option.getD_some]
    exact h1 _ (List.getElem_mem hj')
  · intro A' c' w' h2 h3 h5
    have hl : (List.range (1 * size)).map (fun j => cs.toList[j]?.getD undef) = cs.toList := by
      apply List.ext_getElem
      · simp [hcs]
      · intro j hj _
        have hj' : j < cs.toList.length := by simp at hj ⊢; omega
        simp [show j < cs.size by simpa using hj']
    rw [hl] at h2
    have back : ∀ row, (w.alloc (.cells cs e)).grownBy w' row → w.grownBy w' row := fun row hg =>
      ⟨hg.os, hg.tape, hg.output, by have := hg.size; simp at this; omega, fun k hk hne => (hg.block k (by simp; omega) hne).trans (Below.heap_alloc w _ k hk)⟩
    refine h A' c' w' h2 ?_ (((Below.refl B w).alloc hB _).trans h5)
    rcases h3 with ⟨h6, h7⟩ | ⟨k, h6, h7, h8⟩
    · exact .inl ⟨h6, back _ h7⟩
    · exact .inr ⟨k, h6, by simp at h7; omega, back _ h8⟩
end
theorem run_bslice {P : Program} (w : World) (t e : TypeId) (len : Nat) (parts : Array (Nat × Value)) (cells : Array Value) (hu : P.underlying t = some (.slice e))
    (hf : P.builtSlice e len parts.toList = some cells) : (Instr.buildSlice t len parts).run P w = .ok (.slice (some ⟨w.heap.size, 0, none⟩) len len) (w.alloc (.cells cells e)) := by
  unfold Program.builtSlice at hf
  cases hie : P.info? e with
  | none => simp [hie] at hf
  | some ie =>
    simp only [hie] at hf
    cases hz : ie.zero with
    | none => simp [hz] at hf
    | some z =>
      simp only [hz] at hf
      by_cases hc : len * ie.size > 2 ^ 24 ∨ len * ie.size = 0
      · simp [hc] at hf
      · rw [if_neg hc] at hf
        exact run_buildSlice w t e len parts cells ie z hu hie hz (fun h' => hc (Or.inl h')) (fun h' => hc (Or.inr h')) hf
theorem builtRL (s : ByteArray) (a0 a1 a2 a3 a4 a5 a6 a7 a8 a9 a10 a11 a12 a13 a14 a15 a16 a17 a18 a19 a20 a21 a22 a23 a24 a25 a26 a27 a28 a29 a30 a31 : Nat) :
    Try.prog.builtSlice 61 1 [(0, .agg (.string s :: u8s [a0, a1, a2, a3, a4, a5, a6, a7, a8, a9, a10, a11, a12, a13, a14, a15, a16, a17, a18, a19, a20, a21, a22, a23, a24, a25, a26, a27, a28, a29, a30, a31]).toArray)] = some (.string s :: u8s [a0, a1, a2, a3, a4, a5, a6, a7, a8, a9, a10, a11, a12, a13, a14, a15, a16, a17, a18, a19, a20, a21, a22, a23, a24, a25, a26, a27, a28, a29, a30, a31]).toArray := by kernel_rfl
theorem builtR (r : RootT) : Try.prog.builtSlice 61 1 [(0, .agg (encR r).toArray)] = some (encR r).toArray := by
  obtain ⟨s, l, hl⟩ := r
  match l, hl with
  | [a0, a1, a2, a3, a4, a5, a6, a7, a8, a9, a10, a11, a12, a13, a14, a15, a16, a17, a18, a19, a20, a21, a22, a23, a24, a25, a26, a27, a28, a29, a30, a31], _ => exact builtRL s a0 a1 a2 a3 a4 a5 a6 a7 a8 a9 a10 a11 a12 a13 a14 a15 a16 a17 a18 a19 a20 a21 a22 a23 a24 a25 a26 a27 a28 a29 a30 a31
theorem bslR (r : RootT) (w : World) : (Instr.buildSlice 24 1 #[(0, .agg (encR r).toArray)]).run Try.prog w = .ok (.slice (some ⟨w.heap.size, 0, none⟩) 1 1) (w.alloc (.cells (encR r).toArray 61)) :=
  run_bslice w _ _ _ _ _ Try.underlying24 (builtR r)
section
variable {F : Fence} {fn : Nat} {ops : Array Oper} {rest : List Oper} {o : Oper} {a : Act} {w : World} {Q : Exit → Act → World → Prop}
theorem wpListIn_bslR (r : RootT) (hg : o.guard = none) (t1 : Operand) (ho : o.op = .buildSlice 24 1 #[(0, t1)]) (hx : a.eval t1 = .agg (encR r).toArray)
    (h : wpListIn F fn Try.prog ops Q rest (a.put o.dst (.slice (some ⟨w.heap.size, 0, none⟩) 1 1)) (w.alloc (.cells (encR r).toArray 61))) : wpListIn F fn Try.prog ops Q (o :: rest) a w :=
  wpListIn_val (by simp [Region.wanted, hg]) (by rw [ho]; intro c hc; cases hc) (by simp [Oper.about, ho]) (by
    unfold execOp
    simp only [ho, List.map_toArray, List.map_cons, List.map_nil, hx, Sem.run_bind, bslR r, Result.andThen_ok, Sem.run_pure]) h
end
/-- What an append keeps that is no cells. -/
theorem AppAt.keeps {w w' : World} {A A' : Option Addr} {B : Nat} {e : TypeId} {size n c : Nat} {xs : List Value} (h : AppAt w w' A A') (ho : Own w B e size A n c xs) : KeepsOthers w w' :=
  KeepsOthers.of_grownBy h.grown fun j o hj hk => by
    rcases ho.2 with ⟨hv, _⟩ | ⟨g, cap, cur, hv, _, hg, _⟩
    · injection hv with hA
      rw [hA] at hj
      cases hj
    · injection hv with hA
      rw [hA] at hj
      cases hj
      rw [hg] at hk
      cases hk
      rfl
/-- Between two rounds of listed. -/
def LsI (L : List RootT) (w : World) (pre : List RootT) (W : World) : Prop :=
  ∃ A c, W.cell? ⟨w.heap.size, 0, none⟩ = some (.slice A pre.length c) ∧ W.frozen? ⟨w.heap.size, 0, none⟩ = false ∧ w.heap.size < W.heap.size ∧ Below w.heap.size w W ∧ Own W (w.heap.size + 2) 61 33 A pre.length c (rowsR pre) ∧ pre <+: L
set_option maxRecDepth 20000 in
set_option maxHeartbeats 2000000 in
theorem listed_any (w : World) (T : Tr) (v : Value) (ht : TreeAt w T v) (hn : T.cnt ≤ 999000) :
    Calls Try.prog 45 #[v] w fun e w' => (∃ A c, e = .returned (.slice A T.cnt c) ∧ Own w' w.heap.size 61 33 A T.cnt c (rowsR T.list)) ∧ Below w.heap.size w w' := by
  obtain ⟨ad, rfl⟩ := ht.ptr
  have hbv := ht.blk_le
  have hlen := Tr.cnt_list T
  obtain ⟨w2, hw2⟩ : ∃ w2, Hid (∀ _ : Unit, (w.alloc (.cells #[.slice none 0 0] 24)).alloc (.cells #[.pointer ad] 81) = w2) := ⟨_, Lib.hid fun _ => rfl⟩
  have hB2 : Below w.heap.size w w2 := by rw [← hw2.out ()]; exact ((Below.refl _ _).alloc (Nat.le_refl _) _).alloc (by simp) _
  have hs2 : w2.heap.size = w.heap.size + 2 := by rw [← hw2.out ()]; simp
  have hx0 : (w.alloc (.cells #[.slice none 0 0] 24)).heap[w.heap.size]? = some (.cells #[.slice none 0 0] 24 (0, 0)) := heap_alloc_new w _
  have hx1 : w2.heap[w.heap.size]? = some (.cells #[.slice none 0 0] 24 (0, 0)) := by
    rw [← hw2.out ()]
    exact (heap_alloc_old _ _ (by simp)).trans hx0
  have hx2 : w2.heap[w.heap.size + 1]? = some (.cells #[.pointer ad] 81 (0, 0)) := by
    rw [← hw2.out ()]
    have := heap_alloc_new (w.alloc (.cells #[.slice none 0 0] 24)) (.cells #[.pointer ad] 81)
    rwa [World.size_alloc] at this
  have c0 : w2.cell? ⟨w.heap.size, 0, none⟩ = some (.slice none 0 0) := by simp [World.cell?, hx1]
  have f0 : w2.frozen? ⟨w.heap.size, 0, none⟩ = false := by simp [World.frozen?, hx1]
  have c1 : w2.cell? ⟨w.heap.size + 1, 0, none⟩ = some (.pointer ad) := by simp [World.cell?, hx2]
  have hseq := all1_seq T (.pointer ad) (w.heap.size + 1) w.heap.size (fun k => k < w.heap.size + 2 ∧ k ≠ w.heap.size) w2 (fun k hk => ⟨by omega, by omega⟩) ⟨by omega, by omega⟩ c1 (TreeAt.below hB2 _ _ ht) hbv
  have hall := Lib.hid (all_tree (w.alloc (.cells #[.slice none 0 0] 24)) ad)
  refine calls_marks Try.func45 rfl ?_
  simp only [Try.ntmps45, List.size_toArray, List.length_cons, List.length_nil, Nat.reduceAdd, Nat.reduceSub, Array.replicate_succ, Array.replicate_zero, List.push_toArray, List.append_toArray, List.nil_append, List.cons_append]
  go_wp2_with (go_at_call 50; refine hall.out.mono ?_; rintro e w9 ⟨rfl, rfl⟩)
  rw [hw2.out ()]
  have l33 : Hid (∀ r : RootT, (encR r).toArray.size = 33) := Lib.hid fun r => by simp [encR_length]
  have hi33 : Hid ((Try.prog.info? 61).map (·.size) = some 33) := Lib.hid (by kernel_rfl)
  have hone := Lib.hid encR_all
  have hzero := zeroRt
  have hB2' := Lib.hid hB2
  have hn' : T.list.length ≤ 999000 := by omega
  clear hx0 hx1 hx2 c1 hall ht hB2 hn
  refine wp_rangeFunc (gf := 57) (lb := #[.pointer (some ⟨w.heap.size + 1, 0, none⟩)]) rfl (enters_of Try.func57 (by kernel_rfl) rfl) (encs := fun x : RootT => #[Value.agg (encR x).toArray]) (fun _ => rfl) (G := RtG T.list) (fun h => by rw [h.2]; exact Below.refl _ _)
    hseq (Mid.refl _ _) (fun k hk => by omega)
    (LsI T.list w) (fun _ _ _ => False) ?_ (fun _ _ _ _ h _ => h) ?_ ⟨none, 0, c0, f0, by omega, hB2'.out, Own.nil _ _ _ _, by simp⟩ ?_ ?_ (fun _ _ _ _ _ _ h _ => h.elim)
  · rintro s W W' ⟨A, c, h1, h2, h3, h4, h5, h6⟩ hp
    exact ⟨A, c, hp.cell h1, (hp.frozen h1).trans h2, Nat.lt_of_lt_of_le h3 hp.bel.size, below_puts h4 hp (by omega), h5.puts hp, h6⟩
  · rintro s W W' ⟨A, c, h1, h2, h3, h4, h5, h6⟩ hb
    exact ⟨A, c, (hb.cell (p := ⟨w.heap.size, 0, none⟩) h3).trans h1, (hb.frozen (p := ⟨w.heap.size, 0, none⟩) h3).trans h2, Nat.lt_of_lt_of_le h3 hb.size, h4.trans (hb.mono (by omega)), h5.below hb (fun k hk => (h5.lt k hk).2), h6⟩
  · rintro lp pre x W0 W1 hlp ⟨A, c, h1, h2, h3, h4, h5, h6⟩ hlt ⟨g1, rfl⟩
    have hpl : pre.length + 1 ≤ 999000 := by
      have := g1.length_le
      simp at this
      omega
    have hcel := Lib.hid fun cs : Array Value => setRow_heap (W0.alloc (.cells (encR rZ).toArray 61)) W0.heap.size _ cs 61 _ (heap_alloc_new W0 _)
    have h5' := Lib.hid h5
    have h4' := Lib.hid h4
    have g1' := Lib.hid g1
    clear h5 h4 g1
    gi_wp2_with (refine wpListIn_store_row (by rfl) 61 _ _ rfl W0.heap.size (encR x).toArray rfl rfl 61 _ (heap_alloc_new W0 _) (by rw [l33.out]; exact hi33.out) (by rw [l33.out, l33.out]) (hone.out _) ?_)
    obtain ⟨W1, hW1⟩ : ∃ W1, (W0.alloc (.cells (encR rZ).toArray 61)).setRow W0.heap.size (encR x).toArray = W1 := ⟨_, rfl⟩
    have hx := hcel.out (encR x).toArray
    have hb : Below W0.heap.size W0 W1 := by
      rw [← hW1]
      exact ((Below.refl _ W0).alloc (Nat.le_refl _) _).trans ⟨rfl, rfl, rfl, by simp, fun k hk => setRow_other _ _ _ _ (by omega)⟩
    rw [hW1] at hx ⊢
    clear hW1 hcel
    refine ⟨keepsFrom_below hb, fun W3 hp => ?_⟩
    have q3 := hp.cell ((hb.cell (p := ⟨w.heap.size, 0, none⟩) h3).trans h1)
    have f3 := (hp.frozen ((hb.cell (p := ⟨w.heap.size, 0, none⟩) h3).trans h1)).trans ((hb.frozen (p := ⟨w.heap.size, 0, none⟩) h3).trans h2)
    have x3 := Lib.hid (hp.cells _ _ _ _ hx)
    have b3 := Lib.hid (below_puts (h4'.out.trans (hb.mono (by omega))) hp (by omega))
    have o3 := Lib.hid ((h5'.out.below hb (fun k hk => (h5'.out.lt k hk).2)).puts hp)
    have m3 : Hid (Mid (fun k => k < w.heap.size + 2 ∧ k ≠ w.heap.size) W0 W3) := Lib.hid ((Mid.of_below hb (fun k hk => by omega)).trans (Mid.of_below hp.bel (fun k hk => by omega)))
    have s3 : w.heap.size + 2 < W3.heap.size := by have := hb.size; have := hp.bel.size; omega
    clear hp hb hx h1 h2 h3 h5' h4'
    gi_wp2_with (first
      | (refine wpListIn_load_row (by rfl) 61 _ rfl W0.heap.size rfl 61 (encR x).toArray (0, 0) _ x3.out Try.underlying61 rfl (by rw [l33.out]; exact hi33.out) ?_)
      | (refine wpListIn_bslR x rfl _ rfl rfl ?_)
      | (gi_at_builtin; refine wpListIn_app1 elR W3 (encR x).toArray (l33.out x) rfl _ _ rfl rfl o3.out rfl (by intro u hu; exact Array.all_eq_true_iff_forall_mem.1 (hone.out x) u (by simpa using hu)) (by unfold maxLen; omega) (by omega) (by omega) (pre.length + 1) rfl (rowsR (pre ++ [x])) (by rw [rowsR_snoc]) ?_
         intro A4 c4 w4 o4 at4 b4
         have q4 := (b4.cell (p := ⟨w.heap.size, 0, none⟩) (Nat.lt_add_of_pos_right (by decide))).trans q3
         have f4 := (b4.frozen (p := ⟨w.heap.size, 0, none⟩) (Nat.lt_add_of_pos_right (by decide))).trans f3
         have o4' := Lib.hid o4
         have k4 := Lib.hid (at4.keeps o3.out)
         have b4' := Lib.hid b4
         clear o4 at4 b4))
    refine ⟨(k4.out.trans (KeepsOthers.setCell _ _ _)).from _, (m3.out.trans (Mid.of_below b4'.out (fun k hk => by omega))).setCell (p := ⟨w.heap.size, 0, none⟩) (fun h => h.2 rfl) _, A4, c4, ?_, ?_, ?_, ?_, ?_, g1'.out⟩
    · rw [World.cell?_setCell_same w4 _ _ q4]
      simp
    · rw [World.frozen?_setCell]
      exact f4
    · have := b4'.out.size
      simp [World.setCell]
      omega
    · exact (b3.out.trans (b4'.out.mono (by omega))).setCell (p := ⟨w.heap.size, 0, none⟩) (Nat.le_refl _) _
    · have := o4'.out
      rw [show (pre ++ [x]).length = pre.length + 1 by simp]
      exact this.setFar (Nat.lt_add_of_pos_right (by decide)) _
  · rintro D xs W hD rfl ⟨A, c, h1, h2, h3, h4, h5, h6⟩ hmark
    have hm' := Lib.hid hmark
    have h5' := Lib.hid h5
    have h4' := Lib.hid h4
    rw [hlen] at h1
    clear hmark h5 h4
    go_wp2_with fail
    refine ⟨by simp, .inl ⟨_, _, rfl, run_takeDeferred hm'.out, ?_⟩⟩
    refine ⟨_, results_tmp rfl _ _ _, ⟨⟨A, c, rfl, ?_⟩, below_puts h4'.out (Puts.putObj _ hm'.out rfl hD) (by omega)⟩⟩
    have := h5'.out.puts (Puts.putObj (D := D) (.deferred none) hm'.out rfl (Nat.le_refl _))
    rw [hlen] at this
    exact this.base (by omega)
end Go.Proofs.Ytakcnkmlglkkpaa

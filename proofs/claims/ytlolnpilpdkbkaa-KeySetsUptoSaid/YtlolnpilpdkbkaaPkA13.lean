/- Find, at digits. -/
import Derived.Test.YtlolnpilpdkbkaaPkA12

namespace Go.Proofs.Ytlolnpilpdkbkaa
open Go.RowKit Go.Maps Go.Shelf
set_option linter.unusedSimpArgs false
set_option linter.unusedVariables false
attribute [local go_sem] Oper.semAt_some

/-- One mark, and cells behind it. -/
theorem leaves_mark1 {P : Program} {fn : Func} {tmps : Array Value} {R : Ending → World → Prop} {w : World} {D : Nat} {v : Value} (hD : w.heap[D]? = some (.deferred (some [])))
    (h : ∀ W, Puts D w W → (results fn tmps).run P W = .ok v W ∧ R (.returned v) W) : LeavesInM Fence.wide 0 P fn tmps R [mark D] .returning w :=
  leaves_mark hD (h _ (Puts.putObj _ hD rfl (Nat.le_refl _))).1 (h _ (Puts.putObj _ hD rfl (Nat.le_refl _))).2
def HxS (w3 : World) (gk g3 : Nat) (kv : Array Value) (p : ByteArray) (W : World) : Prop :=
  Below w3.heap.size w3 W ∧ W.heap[gk]? = some (.cells kv 25 (0, 0)) ∧ W.cell? ⟨g3, 0, none⟩ = some (.string p)
set_option maxRecDepth 100000 in
set_option maxHeartbeats 4000000 in
theorem find_any (w : World) (s m n : Nat) (ks : List (List Nat)) (h : SetK w s m n ks) (hl : ks.length ≤ 4194304) (p : ByteArray) (hp : p.size ≤ 9223372036854775807) :
    Calls Try.prog 19 #[.pointer (some ⟨s, 0, none⟩), .string p] w (FindP w (findQ ks p.data.toList)) := by
  by_cases hbad : 64 < p.size ∨ allDig p.data.toList = false
  · have := find_bad w (.pointer (some ⟨s, 0, none⟩)) p hp hbad
    unfold findQ
    rw [if_pos (by rwa [← Lib.size_eq])]
    exact this
  have hQ : Hid (findQ ks p.data.toList = findL (ks.filter (begK p.data.toList))) := Lib.hid (by unfold findQ; rw [if_neg (by rwa [← Lib.size_eq])])
  obtain ⟨r, hr0⟩ : ∃ r, findQ ks p.data.toList = r := ⟨_, rfl⟩
  rw [hr0] at hQ ⊢
  have hg1 : decide ((64 : Int) < (p.size : Int)) = false := by simp; omega
  have hdg : allDig p.data.toList = true := by simpa using fun e => hbad (Or.inr e)
  clear hbad hr0
  have hz := zeroKy
  have hbl0 := zeroKf
  have hi32 : Hid ((Try.prog.info? 25).map (·.size) = some 32) := Lib.hid (by kernel_rfl)
  have hzs : Hid ((u8s (zeros 32)).toArray.size = 32) := Lib.hid (by simp [u8s, zeros])
  obtain ⟨wa, hwa⟩ : ∃ wa, w.alloc (.cells #[.string p] 9) = wa := ⟨_, rfl⟩
  obtain ⟨w2, hw2⟩ : ∃ w2, wa.alloc (.cells (u8s (zeros 32)).toArray 25) = w2 := ⟨_, rfl⟩
  obtain ⟨w1, hw1⟩ : ∃ w1, w2.alloc (.cells #[.slice none 0 0] 34) = w1 := ⟨_, rfl⟩
  have hBa : Below w.heap.size w wa := by rw [← hwa]; exact (Below.refl _ _).alloc (Nat.le_refl _) _
  have hB2 : Hid (Below w.heap.size w w2) := Lib.hid (by rw [← hw2]; exact hBa.alloc hBa.size _)
  have hk2 : Hid (w2.heap[wa.heap.size]? = some (.cells (u8s (zeros 32)).toArray 25 (0, 0))) := Lib.hid (by rw [← hw2]; exact heap_alloc_new wa _)
  have hst : w2.heap[w.heap.size]? = some (.cells #[.string p] 9 (0, 0)) := by
    rw [← hw2, heap_alloc_old _ _ (by rw [← hwa]; simp), ← hwa]
    exact heap_alloc_new w _
  have hst' := Lib.hid hst
  have hc2 : w2.cell? ⟨w.heap.size, 0, none⟩ = some (.string p) := by simp [World.cell?, hst]
  have hle : Hid (w.heap.size ≤ wa.heap.size) := Lib.hid hBa.size
  have hB : Hid (Below w2.heap.size w2 w1) := Lib.hid (by rw [← hw1]; exact (Below.refl _ _).alloc (Nat.le_refl _) _)
  have hI0 : Hid (w1.cell? ⟨w2.heap.size, 0, none⟩ = some (.slice none 0 0) ∧ w1.frozen? ⟨w2.heap.size, 0, none⟩ = false ∧ w2.heap.size < w1.heap.size) := Lib.hid (by
    have hx : w1.heap[w2.heap.size]? = some (.cells #[.slice none 0 0] 34 (0, 0)) := by rw [← hw1]; exact heap_alloc_new w2 _
    exact ⟨by simp [World.cell?, hx], by simp [World.frozen?, hx], (Array.getElem?_eq_some_iff.1 hx).1⟩)
  have hdgc := areDigits_any p w2 hp
  rw [hdg] at hdgc
  have hdgc' := Lib.hid hdgc
  have lts := h.lts
  have hA := Lib.hid (allK_any w1 s m n ks (h.keep ((hB.out.block _ (Nat.lt_of_lt_of_le lts.1 hB2.out.size)).trans (hB2.out.block _ lts.1)) ((hB.out.block _ (Nat.lt_of_lt_of_le lts.2 hB2.out.size)).trans (hB2.out.block _ lts.2))) (by omega))
  have hr := Lib.hid h.rise
  have hq : ∀ (g : Nat) (w : World), (binOp .eql 64 (.func (.func 53) #[] #[.pointer (some ⟨g, 0, none⟩)]) .nilFunc).run Try.prog w = .ok (.bool false) w := fun _ _ => by kernel_rfl
  have hwa' := Lib.hid hwa
  have hw2' := Lib.hid hw2
  have hw1' := Lib.hid hw1
  clear h lts hw1 hw2 hwa hst hdg hdgc hBa
  refine calls_marks Try.func19 rfl ?_
  simp only [Try.ntmps19, List.size_toArray, List.length_cons, List.length_nil, Nat.reduceAdd, Nat.reduceSub, Array.replicate_succ, Array.replicate_zero, List.push_toArray, List.append_toArray, List.nil_append, List.cons_append]
  go_wp2_with (first
    | (rw [hwa'.out])
    | (rw [hw2'.out])
    | (rw [hw1'.out])
    | (go_at_call 29; refine hdgc'.out.mono ?_; rintro e wq ⟨rfl, h5⟩; have h6 := h5.symm; clear h5; subst h6)
    | (go_at_call 26; refine hA.out.mono ?_; rintro e va ⟨gI, AI, cI, rfl, hat, hbl, hlg, hlA⟩; have hat' := Lib.hid hat; have hbl' := Lib.hid hbl; have hlg' := Lib.hid hlg; have hlA' := Lib.hid hlA; clear hat hbl hlg hlA))
  have hI1 : Hid (ToI w2 w2.heap.size va.heap.size [] va) := Lib.hid (by
    obtain ⟨h1, h2, h3⟩ := hI0.out
    exact ⟨none, 0, (hbl'.out.cell (p := ⟨w2.heap.size, 0, none⟩) h3).trans h1, (hbl'.out.frozen (p := ⟨w2.heap.size, 0, none⟩) h3).trans h2, Nat.lt_of_lt_of_le h3 hbl'.out.size, Nat.le_refl _, hB.out.trans (hbl'.out.mono hB.out.size), Own.nil _ _ _ _⟩)
  have hszD : Hid (w2.heap.size ≤ va.heap.size) := Lib.hid (Nat.le_trans hB.out.size hbl'.out.size)
  have hgw : Hid (w2.heap.size < w1.heap.size) := Lib.hid hI0.out.2.2
  refine wp_rangeFunc (gf := 53) (lb := #[.pointer (some ⟨gI, 0, none⟩)]) rfl (enters_of Try.func53 (by kernel_rfl) rfl) (encs := fun x : List Nat => #[Value.agg (u8s x).toArray]) (fun _ => rfl) (G := KyG ks) (fun h => h.2)
    (allK_seq va gI cI AI ks (fun j => j = gI ∨ blockOf AI = some j) hat'.out hr.out (by omega) (Or.inl rfl) (fun j hj => Or.inr hj) (fun j hj => by rcases hj with rfl | hj; exact hat'.out.lts.1; exact hat'.out.lts.2 j hj)) (Mid.refl _ _) (fun j hj => by rcases hj with rfl | hj; exact hat'.out.lts.1; exact hat'.out.lts.2 j hj)
    (fun pre W => ToI w2 w2.heap.size va.heap.size (pre.filter (begK p.data.toList)) W) (fun _ _ _ => False) ?_ (fun _ _ _ _ h _ => h) ?_ hI1.out ?_ ?_ (fun _ _ _ _ _ _ h _ => h.elim)
  · rintro pre W W' h hp
    exact h.puts hp hszD.out
  · rintro pre W W' h hb
    exact h.keep hb
  · rintro lp pre x W0 W1 hlp hw0 hlt ⟨hpre, hbel⟩
    have hxm : x ∈ ks := hpre.subset (by simp)
    have hxk : IsK x := hr.out.ok x hxm
    have hpl : (pre.filter (begK p.data.toList)).length + 1 ≤ 4194304 := by
      have := hpre.length_le
      have := List.length_filter_le (begK p.data.toList) pre
      simp at *; omega
    have hsnt : Hid ((pre ++ [x]).filter (begK p.data.toList) = if begK p.data.toList x then pre.filter (begK p.data.toList) ++ [x] else pre.filter (begK p.data.toList)) := Lib.hid (by
      rw [List.filter_append]
      cases hb : begK p.data.toList x <;> simp [List.filter_cons, hb])
    obtain ⟨fl, hfl⟩ : ∃ fl, pre.filter (begK p.data.toList) = fl := ⟨_, rfl⟩
    rw [hfl] at hw0 hpl hsnt
    have hxk' := Lib.hid hxk
    have hw1 := Lib.hid (hw0.keep hbel)
    have hxs : Hid ((u8s x).toArray.size = 32) := Lib.hid (by simp [u8s, hxk.1])
    have hbK : Hid _ := Lib.hid (builtK x hxk.1)
    have hone : Hid (∀ u ∈ (u8s x).toArray.toList, u.oneCell' = true) := Lib.hid (fun u hu => u8s_one u (by simpa using hu))
    have hsn : Hid (rowsK fl ++ (u8s x).toArray.toList = rowsK (fl ++ [x])) := Lib.hid (by simp [rowsK])
    have hkn := key_new W1 x
    have hkc := Lib.hid hkn.1
    have hbn := Lib.hid hkn.2
    have hw2 := Lib.hid (hw1.out.keep hbn.out)
    have hok1 : Hid (∀ j, (j = gI ∨ blockOf AI = some j) → j < W1.heap.size ∧ j ≠ w2.heap.size ∧ j < va.heap.size) := Lib.hid fun j hj => by
      have h1 : j < va.heap.size ∧ w1.heap.size ≤ j := by
        rcases hj with rfl | hj
        · exact ⟨hat'.out.lts.1, hlg'.out⟩
        · exact ⟨hat'.out.lts.2 j hj, hlA'.out j hj⟩
      have h2 := hbel.size
      have h3 := hgw.out
      exact ⟨by omega, by omega, by omega⟩
    have hlt9 : Hid (va.heap.size < W1.heap.size) := Lib.hid (Nat.lt_of_lt_of_le hlt hbel.size)
    clear hxm hxk hkn hw0 hpre hbel hlt hfl
    gi_wp2_with (refine wpListIn_store_row (by rfl) 25 _ _ rfl W1.heap.size (u8s x).toArray rfl rfl 25 _ (heap_alloc_new W1 _) (by rw [hxs.out]; exact hi32.out) (by rw [hxs.out, hzs.out]) (all_oneCell_toArray u8s_one) ?_)
    obtain ⟨W2, hW2⟩ : ∃ W2, (W1.alloc (.cells (u8s (zeros 32)).toArray 25)).setRow W1.heap.size (u8s x).toArray = W2 := ⟨_, rfl⟩
    rw [hW2] at hkc hbn hw2 ⊢
    clear hW2
    refine ⟨keepsFrom_below hbn.out, fun W3 hp => ?_⟩
    have hw3 := Lib.hid (hw2.out.puts hp hszD.out)
    have hk3 := Lib.hid (hp.cells _ _ _ _ hkc.out)
    have hbl3 := Lib.hid hp.bel.size
    have hg3 : Hid (W1.heap.size < W3.heap.size) := Lib.hid (Array.getElem?_eq_some_iff.1 hk3.out).1
    have m3 : Hid (Mid (fun j => j = gI ∨ blockOf AI = some j) W1 W3) := Lib.hid ((Mid.of_below hbn.out (fun j hj => (hok1.out j hj).1)).trans (Mid.of_below hp.bel (fun j hj => by rcases hj with rfl | hj; exact hat'.out.lts.1; exact hat'.out.lts.2 j hj)))
    clear hp
    have hB3 : Hid (va.heap.size ≤ W3.heap.size) := Lib.hid (Nat.le_trans (Nat.le_of_lt hlt9.out) (Nat.le_trans hbn.out.size hbl3.out))
    have hst3 : Hid (W3.cell? ⟨w.heap.size, 0, none⟩ = some (.string p)) := Lib.hid (by
      obtain ⟨A, c, q3, f3, l3, l4, b3, o3⟩ := hw3.out
      exact (b3.cell (p := ⟨w.heap.size, 0, none⟩) (Array.getElem?_eq_some_iff.1 hst'.out).1).trans hc2)
    obtain ⟨gk, hgk⟩ : ∃ gk, W1.heap.size = gk := ⟨_, rfl⟩
    rw [hgk] at hk3 ⊢
    clear hgk
    have hH0 : HxS W3 gk w.heap.size (u8s x).toArray p W3 := ⟨Below.refl _ _, hk3.out, hst3.out⟩
    refine wpIn_block ?_
    refine wpIn_seq ?_
    have hd : Hid (HxS W3 gk w.heap.size (u8s x).toArray p W3.drew) := Lib.hid ⟨below_drewN hH0.1 1, hH0.2.1, hH0.2.2⟩
    have hxk2 := hxk'.out
    refine wpIn_region_held (S := HxS W3 gk w.heap.size (u8s x).toArray p) (by kernel_rfl) (by rintro ⟨a, w, h⟩; exact h) (by
      intro i o ho c hc
      rcases i with _ | _ | _ | _ | i <;> simp at ho
      all_goals (subst ho; simp at hc)) ?_
    change wpAnyH _ _ _ _ _ _ _ _ (World.drew _)
    refine tk (i := 0) (d := 20) (v := (.agg (u8s x).toArray)) rfl rfl (yieldsIf_load_row (by rfl) 25 _ rfl gk rfl 25 (u8s x).toArray (0, 0) _ (fun W hW => hW.2.1) Try.underlying25 rfl (by rw [hxs.out]; exact hi32.out)) hd.out ?_
    simp only [List.setIfInBounds_toArray, List.set_cons_zero, List.set_cons_succ]
    refine tk (i := 2) (d := 22) (v := (.string p)) rfl rfl (Or.inl ⟨by rfl, by intro W hW; have c := hW.2.2; clear hW; go_simp⟩) hd.out ?_
    simp only [List.setIfInBounds_toArray, List.set_cons_zero, List.set_cons_succ]
    refine wpAnyH_ready (rs := [1]) (by kernel_rfl) (by simp) ?_
    refine AllReadyH.cons rfl (fun K hK => ?_) AllReadyH.nil
    have hHx0 := hex_any x W3.drew hxk2.1 hxk2.2
    obtain ⟨hx, hhx⟩ : ∃ hx, (⟨(hexL x).toArray⟩ : ByteArray) = hx := ⟨_, rfl⟩
    rw [hhx] at hHx0
    have hHx := Lib.hid hHx0
    have hbx : Hid (Lib.hasPrefix hx.data.toList p.data.toList = begK p.data.toList x) := Lib.hid (by rw [← hhx]; rfl)
    clear hHx0 hhx
    go_simp
    refine hHx.out.mono ?_
    rintro e v1 ⟨rfl, b1⟩
    have hd1 : Hid (HxS W3 gk w.heap.size (u8s x).toArray p v1) := Lib.hid ⟨hd.out.1.trans (b1.mono hd.out.1.size), (b1.block _ (Array.getElem?_eq_some_iff.1 hd.out.2.1).1).trans hd.out.2.1, (b1.cell (p := ⟨w.heap.size, 0, none⟩) (by
      have := hd.out.2.2
      unfold World.cell? at this
      rcases Nat.lt_or_ge w.heap.size W3.drew.heap.size with h | h
      · exact h
      · simp [Array.getElem?_eq_none h] at this)).trans hd.out.2.2⟩
    refine hK.out _ _ hd1.out (fun _ => ?_)
    clear hK K b1 hd hHx hxk2
    refine wpAnyH_ready (rs := [3]) (by kernel_rfl) (by simp) ?_
    refine AllReadyH.cons rfl (fun K hK => ?_) AllReadyH.nil
    have hPx0 := pfx_any hx p v1
    rw [hbx.out] at hPx0
    obtain ⟨tb, htb⟩ : ∃ tb, begK p.data.toList x = tb := ⟨_, rfl⟩
    rw [htb] at hPx0 hsnt
    have hPx := Lib.hid hPx0
    clear hPx0 hbx htb
    go_simp
    refine hPx.out.mono ?_
    rintro e v2 ⟨rfl, h5⟩
    have h6 := h5.symm
    clear h5
    subst h6
    refine hK.out _ _ hd1.out (fun _ => ?_)
    clear hK K hPx
    refine wpAnyH_done (by kernel_rfl) ?_ _
    have hw4 := Lib.hid (hw3.out.keep hd1.out.1)
    have hk4 := Lib.hid hd1.out.2.1
    have hbl4 := Lib.hid hd1.out.1.size
    have b34 := Lib.hid hd1.out.1
    clear hd1 hw3 hw2 hw1 hk3 hst3 hH0 hbn hkc
    have m4 : Hid (Mid (fun j => j = gI ∨ blockOf AI = some j) W1 v1) := Lib.hid (m3.out.trans (Mid.of_below b34.out (fun j hj => Nat.lt_of_lt_of_le (hok1.out j hj).1 m3.out.size)))
    cases tb
    · skip
      have hsn0 : Hid ((pre ++ [x]).filter (begK p.data.toList) = fl) := Lib.hid hsnt.out
      clear hsnt
      gi_wp2_with fail
      exact ⟨keepsFrom_below b34.out, m4.out, by show ToI _ _ _ (List.filter _ _) _; rw [hsn0.out]; exact hw4.out⟩
    · skip
      have hsn0 : Hid ((pre ++ [x]).filter (begK p.data.toList) = fl ++ [x]) := Lib.hid hsnt.out
      clear hsnt
      obtain ⟨A, c, q3, f3, l3, l4, b3, o3⟩ := hw4.out
      have o3' := Lib.hid o3
      have b3' := Lib.hid b3
      have l3' := Lib.hid l3
      clear o3 b3 l3 l4 hw4
      have hvW : Hid (w2.heap.size < va.heap.size) := Lib.hid (Nat.lt_of_lt_of_le hgw.out hbl'.out.size)
      have hB4 : Hid (va.heap.size ≤ v1.heap.size) := Lib.hid (Nat.le_trans hB3.out hbl4.out)
      have hdis : Hid (∀ j, (j = gI ∨ blockOf AI = some j) → blockOf A ≠ some j) := Lib.hid fun j hj e => by
        have h1 := (hok1.out j hj).2.2
        have h2 := (o3'.out.lt j e).1
        omega
      gi_wp2_with (first
        | (refine wpListIn_load_row (by rfl) 25 _ rfl gk rfl 25 (u8s x).toArray (0, 0) _ hk4.out Try.underlying25 rfl (by rw [hxs.out]; exact hi32.out) ?_)
        | (refine wpListIn_bslK rfl _ rfl rfl hxs.out hbK.out ?_)
        | (gi_at_builtin; refine wpListIn_app1 elK v1 (u8s x).toArray hxs.out rfl _ _ rfl rfl o3'.out rfl hone.out (by unfold maxLen; omega) (by omega) hB4.out (fl.length + 1) rfl (rowsK (fl ++ [x])) hsn.out ?_
           intro A4 c4 w4 o4 at4 b4
           have q4 := (b4.cell (p := ⟨w2.heap.size, 0, none⟩) hvW.out).trans q3
           have f4 := (b4.frozen (p := ⟨w2.heap.size, 0, none⟩) hvW.out).trans f3
           have k4 := Lib.hid (at4.keeps o3'.out)
           have hI4 := Lib.hid (ToI.app l3'.out hvW.out (Nat.le_refl _) b3'.out q4 f4 b4 o4)
           have m5 : Hid (Mid (fun j => j = gI ∨ blockOf AI = some j) v1 w4) := Lib.hid ⟨at4.grown.size, fun j hj => at4.grown.block j (Nat.lt_of_lt_of_le (hok1.out j hj).1 m4.out.size) (fun e => hdis.out j hj e.symm)⟩
           clear o4 at4 b4))
      exact ⟨(keepsFrom_below b34.out).trans ((k4.out.trans (KeepsOthers.setCell _ _ _)).from _), (m4.out.trans m5.out).setCell (p := ⟨w2.heap.size, 0, none⟩) (fun h => (hok1.out _ h).2.1 rfl) _, by show ToI _ _ _ (List.filter _ _) _; rw [hsn0.out]; exact hI4.out⟩
  · rintro D xs W hD hxs hI hmark
    rw [hxs] at hI
    have hm' := Lib.hid hmark
    obtain ⟨A, c, q3, f3, l3, l4, b3, o3⟩ := hI
    have o3' := Lib.hid o3
    have b3' := Lib.hid b3
    have hfk : Hid (∀ y ∈ ks.filter (begK p.data.toList), y.length = 32) := Lib.hid fun y hy => (hr.out.ok y (List.mem_filter.1 hy).1).1
    have hwa2 : Hid (wa.heap.size < w2.heap.size) := Lib.hid (Array.getElem?_eq_some_iff.1 hk2.out).1
    have hkW : Hid (W.heap[wa.heap.size]? = some (.cells (u8s (zeros 32)).toArray 25 (0, 0))) := Lib.hid ((b3.block _ hwa2.out).trans hk2.out)
    have hD2 : Hid (w2.heap.size ≤ D) := Lib.hid (Nat.le_trans hszD.out hD)
    have fin : Hid (∀ (fn : Func), fn.results = #[.cell 4 25, .tmp 5] → ∀ (y : List Nat) (e : Nat) (tmps : Array Value), y.length = 32 → r = (y, e) → tmps.getD 4 undef = .pointer (some ⟨wa.heap.size, 0, none⟩) → tmps.getD 5 undef = .int .i64 e →
        LeavesInM Fence.wide 0 Try.prog fn tmps (FindP w r) [mark D] .returning (W.setRow wa.heap.size (u8s y).toArray)) := Lib.hid fun fn hfn y e tmps hy he h4 h5 => by
      have h1 := setRow_heap W wa.heap.size _ (u8s y).toArray 25 _ hkW.out
      have h2 := hwa2.out
      have h3 := hD2.out
      refine leaves_mark1 (v := .tuple #[.agg (u8s y).toArray, .int .i64 e]) ((setRow_other _ _ _ _ (by omega)).trans hm'.out) fun W9 hp9 => ?_
      refine ⟨res_row_tmp hfn _ _ wa.heap.size 25 (u8s y).toArray (0, 0) _ (.int .i64 e) h4 h5 (hp9.cells _ _ _ _ h1) Try.underlying25 rfl (by rw [show (u8s y).toArray.size = 32 by simp [u8s, hy]]; exact hi32.out), by rw [he], ?_⟩
      have h6 := hle.out
      exact below_puts (setRow_below (hB2.out.trans (b3'.out.mono hB2.out.size)) h6 _) hp9 (Nat.le_trans hB2.out.size h3)
    clear hmark o3 b3 l3 l4 hxs
    obtain ⟨fl, hfl⟩ : ∃ fl, ks.filter (begK p.data.toList) = fl := ⟨_, rfl⟩
    rw [hfl] at q3 o3' hfk hQ
    clear hfl hA hat' hbl' hlg' hlA' hI1
    rcases fl with _ | ⟨y, _ | ⟨z, fl⟩⟩
    · skip
      go_wp2_with (first
        | (refine wpList_blF rfl 25 _ rfl #[] (by rfl) _ (fun W => zeroKf W) ?_)
        | (refine wpList_store_row rfl 25 _ _ rfl wa.heap.size (u8s (zeros 32)).toArray rfl rfl 25 _ hkW.out (by rw [hzs.out]; exact hi32.out) rfl (all_oneCell_toArray u8s_one) ?_))
      refine fin.out _ ?_ (zeros 32) 31 _ (by simp [zeros]) hQ.out ?_ ?_ <;> rfl
    · skip
      have hy : y.length = 32 := hfk.out y (by simp)
      have hys : Hid ((u8s y).toArray.size = 32) := Lib.hid (by simp [u8s, hy])
      obtain ⟨b, off, rfl, hb, hrg⟩ := ownK_at o3'.out hfk.out (j := 0) (x := y) rfl
      have hrg' := Lib.hid (show W.rangeAt b off (u8s y) by simpa using hrg)
      have hy' := Lib.hid hy
      clear hrg hb hy
      go_wp2_with (first
        | (refine wpList_load_mid rfl 25 _ rfl b off rfl (u8s y) _ hrg'.out Try.underlying25 rfl (by rw [u8s_length, hy'.out]; exact hi32.out) ?_)
        | (refine wpList_store_row rfl 25 _ _ rfl wa.heap.size (u8s y).toArray rfl rfl 25 _ hkW.out (by rw [hys.out]; exact hi32.out) (by rw [hys.out, hzs.out]) (all_oneCell_toArray u8s_one) ?_))
      refine fin.out _ ?_ y 0 _ hy'.out hQ.out ?_ ?_ <;> rfl
    · skip
      have hln : ((y :: z :: fl).length : Int) = (fl.length : Int) + 2 := by simp; omega
      obtain ⟨L, hL⟩ : ∃ L, (y :: z :: fl).length = L := ⟨_, rfl⟩
      rw [hL] at q3 hln
      have e0 : decide ((L : Int) = 0) = false := by simp; omega
      have e1 : decide ((L : Int) = 1) = false := by simp; omega
      have n0 : ¬ L = 0 := by omega
      have n1 : ¬ L = 1 := by omega
      clear hln hL o3' hfk
      go_wp2_with (first
        | (refine wpList_blF rfl 25 _ rfl #[] (by rfl) _ (fun W => zeroKf W) ?_)
        | (refine wpList_store_row rfl 25 _ _ rfl wa.heap.size (u8s (zeros 32)).toArray rfl rfl 25 _ hkW.out (by rw [hzs.out]; exact hi32.out) rfl (all_oneCell_toArray u8s_one) ?_))
      refine fin.out _ ?_ (zeros 32) 32 _ (by simp [zeros]) hQ.out ?_ ?_ <;> rfl
end Go.Proofs.Ytlolnpilpdkbkaa

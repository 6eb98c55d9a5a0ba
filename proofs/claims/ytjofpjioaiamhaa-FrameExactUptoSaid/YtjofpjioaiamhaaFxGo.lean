/- FrameExact: goes. -/
import Derived.Test.YtjofpjioaiamhaaFxGs
namespace Go.Proofs.Ytjofpjioaiamhaa
open Go.RowKit Go.Shelf
set_option linter.unusedVariables false
attribute [local go_sem] Oper.semAt_some

theorem fx_equalIn_func {P : Program} (w : World) (d : Nat) (t : TypeId) {ps rs : Array TypeId} {v : Bool} (h : P.underlying t = some (.func ps rs v)) (f : Fn) (a b : Array Value) : (Op.equalIn (d + 1) t (.func f a b) .nilFunc).run P w = .ok false w := by
  simp [Op.equalIn, run_underlying h]
theorem fx_equal_func {P : Program} (w : World) (t : TypeId) {ps rs : Array TypeId} {v : Bool} (h : P.underlying t = some (.func ps rs v)) (f : Fn) (a b : Array Value) : (Op.equal t (.func f a b) .nilFunc).run P w = .ok false w := fx_equalIn_func w 9999 t h f a b
theorem fx_eql_seq (w : World) (f : Fn) (a b : Array Value) : (binOp .eql 50 (.func f a b) .nilFunc).run Try.prog w = .ok (.bool false) w := by
  simp [binOp, fx_equal_func w _ Try.underlying50 f a b]
theorem mid_of2 {lo B K : Nat} {w7 W1 W2 : World} (h1 : Below K w7 W1) (h2 : Below K w7 W2) (hs : W1.heap.size ≤ W2.heap.size) (hB : B ≤ K) : Mid lo B W1 W2 :=
  ⟨hs, fun k _ hk => (h2.block k (by omega)).trans (h1.block k (by omega)).symm⟩
/-- The next round's variable. -/
theorem GoI.next {w7 W : World} {gI : Nat} {Ds : List Nat} {k D : Nat} {zs : List In} {AL : Option Addr} {cL : Nat} (h : GoI w7 gI Ds k zs AL cL W) (hD : W.heap[D]? = some (.deferred (some []))) :
    GoI w7 W.heap.size (D :: Ds) 0 zs AL cL (W.alloc (.cells #[.int .i64 0] 3)) := by
  have hs := h.bel.size
  have hl := lt_of_heap h.li
  exact ⟨h.bel.alloc (by omega) _, (heap_alloc_old _ _ (lt_of_heap h.ok)).trans h.ok, (heap_alloc_old _ _ hl).trans h.li, h.own.alloc _, fun x hx => (h.each x hx).alloc _, h.len, h.dis, heap_alloc_new W _, by omega, fun E hE => by
    rcases List.mem_cons.1 hE with rfl | hE
    · exact (heap_alloc_old _ _ (lt_of_heap hD)).trans hD
    · exact (heap_alloc_old _ _ (lt_of_heap (h.ds E hE))).trans (h.ds E hE)⟩
theorem own_setCellOk {W7 W : World} {A : Option Addr} {n c : Nat} {xs : List Value} (h : Own W (W7.heap.size + 2) 5 1 A n c xs) (mm : Nat) :
    Own ((W.drewN mm).setCell ⟨W7.heap.size, 0, none⟩ (.bool true)) (W7.heap.size + 2) 5 1 A n c xs := (h.drewN mm).setFar (p := ⟨W7.heap.size, 0, none⟩) (Nat.lt_add_of_pos_right (by decide)) _
set_option maxRecDepth 100000 in
set_option maxHeartbeats 2000000 in
theorem fxgoes_any (rl : List Nat) (AR : Option Addr) (v0 v2 v3 : Value) (gr n cR cr D : Nat) (w : World) (hl : ∀ b ∈ rl, b < 256) (hn : rl.length = n) (hnR : n ≤ 1048576) (h1 : Byt w D AR rl) (hD : D ≤ w.heap.size)
    (ho : Own w D 5 1 (some ⟨gr, 0, none⟩) (n + 70) cr (u8s (roomL rl))) :
    Calls Try.prog 20 #[.agg #[v0, .slice AR n cR, v2, v3], .slice (some ⟨gr, 0, none⟩) n cr] w fun e w' => e = .returned (.bool true) ∧ w.grownBy w' (some gr) ∧ Own w' D 5 1 (some ⟨gr, 0, none⟩) (n + 70) cr (u8s (roomL rl)) := by
  have hgr := ho.lt gr rfl
  have hle := ho.le
  have hrt : (roomL rl).take n = rl := by rw [← hn]; exact roomL_take rl
  have hbr := byt_take (m := n) ho.byt (by rw [roomL_length]; omega)
  rw [hrt] at hbr
  have hp1 : Hid (∀ (W : World), Below w.heap.size w W → Calls Try.prog 33 #[.slice AR n cR] W fun e w' => ∃ (xs : List Rec) (A' : Option Addr) (c' : Nat), e = .returned (.slice A' xs.length c') ∧ xs.map Rec.pr = allL rl ∧ Own w' W.heap.size 61 2 A' xs.length c' (recsL xs) ∧ (∀ x ∈ xs, Own w' W.heap.size 5 1 x.2.2.1 x.2.1.length x.2.2.2 (u8s x.2.1)) ∧ Below W.heap.size W w') := Lib.hid fun W hb =>
    all2_any rl AR n cR D W hl hn (by omega) (Nat.le_trans hD hb.size) (h1.below (hb.mono hD))
  obtain ⟨e1, e2, hea⟩ : ∃ e1 e2, endAns rl = (e1, e2) := ⟨_, _, rfl⟩
  have hp2 : Hid (∀ (W : World), Below w.heap.size w W → Calls Try.prog 22 #[.slice (some ⟨gr, 0, none⟩) n cr] W fun e w' => e = .returned (.tuple #[.int .i64 (e1 : Nat), .int .i64 (e2 : Nat)]) ∧ Below W.heap.size W w') := Lib.hid fun W hb => by
    have := end_any rl (some ⟨gr, 0, none⟩) n cr w.heap.size W hl hn (by omega) hle.2 (by omega) hb.size (hbr.below hb)
    rw [hea] at this
    exact this
  have hp3 : Hid (∀ (W : World), Below w.heap.size w W → Calls Try.prog 34 #[.slice AR n cR] W fun e w' => e = .returned (.tuple #[.int .i64 (e1 : Nat), .int .i64 (e2 : Nat)]) ∧ Below W.heap.size W w') := Lib.hid fun W hb => by
    have := end2_any rl AR n cR D W hl hn (by omega) (Nat.le_trans hD hb.size) (h1.below (hb.mono hD))
    rw [hea] at this
    exact this
  have hp4 : Hid (∀ (W : World), Byt W W.heap.size (some ⟨gr, 0, none⟩) rl → Calls Try.prog 23 #[.slice (some ⟨gr, 0, none⟩) n cr] W fun e w' => (∃ g A' c', e = .returned (.func (.func 35) #[] #[.pointer (some ⟨g, 0, none⟩)]) ∧ W.heap.size ≤ g ∧ g < w'.heap.size ∧ w'.cell? ⟨g, 0, none⟩ = some (.slice A' n c') ∧ Own w' W.heap.size 5 1 A' n c' (u8s rl)) ∧ Below W.heap.size W w') := Lib.hid fun W hb =>
    all_any rl (some ⟨gr, 0, none⟩) n cr W.heap.size W hn (by omega) (Nat.le_refl _) hb
  have hb0 := Lib.hid (Hb.new w 39 v0 (.slice AR n cR) v2 v3)
  have ho' := Lib.hid ho
  have hl' := Lib.hid hl
  have hn' := Lib.hid hn
  have hbr' := Lib.hid hbr
  clear hl hn h1 ho hrt hea hbr
  refine calls_marks Try.func20 rfl ?_
  simp only [Try.ntmps20, List.size_toArray, List.length_cons, List.length_nil, Nat.reduceAdd, Nat.reduceSub, Array.replicate_succ, Array.replicate_zero, List.push_toArray, List.append_toArray, List.nil_append, List.cons_append]
  go_wp2_with fail
  have hs1 : w.heap.size < (w.alloc (.cells #[v0, .slice AR n cR, v2, v3] 39)).heap.size := by simp
  obtain ⟨w1, hw1⟩ : ∃ w1, w.alloc (.cells #[v0, .slice AR n cR, v2, v3] 39) = w1 := ⟨_, rfl⟩
  rw [hw1] at hb0 hs1 ⊢
  clear hw1
  obtain ⟨_, q1, _, _, hb1⟩ := hb0.out
  have hb1' := Lib.hid hb1
  clear hb1
  go_wp2_with (go_at_call 33; refine (hp1.out _ hb1'.out).mono ?_; rintro e w2 ⟨xs, AW, cW, rfl, hxs, ow, hbod, hb2⟩
               generalize hmx : xs.length = m at ow ⊢
               have hm' := Lib.hid hmx
               have hxs' := Lib.hid hxs
               have ow' := Lib.hid ow
               have hbod' := Lib.hid hbod
               have hb2' := Lib.hid hb2
               have q12 := (hb2.cell (p := ⟨w.heap.size, 1, none⟩) hs1).trans q1
               clear hxs hmx ow hbod hb2 hp1 q1)
  have hml : Hid ((allL rl).length = m) := Lib.hid (by rw [← hxs'.out, List.length_map, hm'.out])
  have hmm : m ≤ 104857 := by
    have := allL_len rl
    rw [hml.out, hn'.out] at this
    omega
  have hs2 : w.heap.size < w2.heap.size := Nat.lt_of_lt_of_le hs1 hb2'.out.size
  have hB3 := Lib.hid ((hb1'.out.trans (hb2'.out.mono hb1'.out.size)).alloc (Nat.le_of_lt hs2) (.cells #[.slice AW m cW] 58))
  have ow3 := Lib.hid (ow'.out.alloc (.cells #[.slice AW m cW] 58))
  have hbod3 := Lib.hid fun x hx => (hbod'.out x hx).alloc (.cells #[.slice AW m cW] 58)
  have qW : Hid ((w2.alloc (.cells #[.slice AW m cW] 58)).cell? ⟨w2.heap.size, 0, none⟩ = some (.slice AW m cW)) := Lib.hid (cell_of_row _ _ 0 _ _ _ (heap_alloc_new w2 _))
  have hgW : Hid (w2.heap.size < (w2.alloc (.cells #[.slice AW m cW] 58)).heap.size) := Lib.hid (by simp)
  have q13 := ((Below.refl w2.heap.size w2).alloc (Nat.le_refl _) (.cells #[.slice AW m cW] 58) |>.cell (p := ⟨w.heap.size, 1, none⟩) hs2).trans q12
  clear ow' hbod' q12 hb2'
  obtain ⟨w3, hw3⟩ : ∃ w3, w2.alloc (.cells #[.slice AW m cW] 58) = w3 := ⟨_, rfl⟩
  rw [hw3] at hB3 ow3 hbod3 qW hgW q13 ⊢
  clear hw3
  generalize w2.heap.size = gW at qW hgW hs2 ⊢
  refine (hp2.out _ hB3.out).mono ?_
  rintro e w4 ⟨rfl, hb4⟩
  have hB4 := Lib.hid (hB3.out.trans (hb4.mono hB3.out.size))
  have hC4 := Lib.hid hb4
  have q14 := (hb4.cell (p := ⟨w.heap.size, 1, none⟩) (Nat.lt_trans hs2 hgW.out)).trans q13
  clear hb4 q13 hp2
  go_wp2_with (first
    | (go_at_call 34; refine (hp3.out _ hB4.out).mono ?_; rintro e w5 ⟨rfl, hb5⟩; have hB5 := Lib.hid (hB4.out.trans (hb5.mono hB4.out.size)); have hC5 := Lib.hid (hC4.out.trans (hb5.mono hC4.out.size)); clear hb5 hp3 q14)
    | (go_at_call 23; refine (hp4.out _ ((hbr'.out.below hB5.out).mono hB5.out.size)).mono ?_; rintro e w6 ⟨⟨g, A', c', rfl, hg1, hg2, hcg, oc⟩, hb6⟩
       have oc' := Lib.hid oc
       have hcg' := Lib.hid hcg
       have hB6 := Lib.hid (hB5.out.trans (hb6.mono hB5.out.size))
       have hC6 := Lib.hid (hC5.out.trans (hb6.mono hC5.out.size))
       have hg1' := Lib.hid hg1
       have hg2' := Lib.hid hg2
       clear oc hb6 hcg hg1 hg2))
  have hm0 := ho'.out.below hB6.out (fun k hk => (ho'.out.lt k hk).2)
  rw [← mixL_none 0 (roomL rl)] at hm0
  have hm0' := Lib.hid hm0
  clear hm0 ho'
  go_loopw [11] (fun i wr => ∃ k : Nat, k ≤ n ∧ i = .int .i64 k ∧ Hid (Own wr D 5 1 (some ⟨gr, 0, none⟩) (n + 70) cr (u8s (mixL 0 k (roomL rl))) ∧ w6.grownBy wr (some gr) ∧ wr.heap.size = w6.heap.size)) (fun i _ => n - (intOf i).toNat)
  case atStart => exact ⟨0, by omega, rfl, Lib.hid ⟨hm0'.out, World.grownBy.refl _ _, rfl⟩⟩
  case round =>
    clear hm0'
    obtain ⟨k, hk, rfl, hW⟩ := hrel
    by_cases hlt : k < n
    · have hrl := roomL_length rl
      rw [hn'.out] at hrl
      obtain ⟨x, hx⟩ : ∃ x, (roomL rl)[k]?.getD 0 = x := ⟨_, rfl⟩
      have q : wr.cell? ⟨gr, k, none⟩ = some (.int .u8 (x : Nat)) := (hW.out.1.cell k (by omega)).trans (by rw [u8s_get _ _ (by rw [mixL_length]; omega), mixL_at _ _ _ (by omega), if_neg (by omega), hx]; rfl)
      have qf := hW.out.1.frozen k
      have hmu := Lib.hid (mixL_up k (roomL rl) (by omega))
      rw [hx] at hmu
      obtain ⟨y, hy⟩ : ∃ y, (x + 1) % 256 = y := ⟨_, rfl⟩
      rw [hy] at hmu
      have hwr : IntKind.u8.wrap ((x : Int) + 1) = (y : Int) := by rw [IntKind.wrap_u8]; omega
      clear hy hx
      go_wp2_with fail
      go_roundw
      case rel => exact ⟨k + 1, by omega, by go_num, Lib.hid ⟨own_set_mix hW.out.1 hmu.out, hW.out.2.1.trans (hW.out.1.set_grown _ _), by have := hW.out.2.2; simp [World.setCell]; omega⟩⟩
      case measure => simp [intOf]; omega
    · obtain rfl : n = k := by omega
      clear hlt hk
      have hs6 : Hid (wr.heap.size = w6.heap.size) := Lib.hid hW.out.2.2
      have hbd := Lib.hid hW.out.1
      have hG6 := Lib.hid hW.out.2.1
      clear hW
      have hne : ∀ {e sz m c B : Nat} {A : Option Addr} {ys : List Value}, w.heap.size ≤ B → Own w6 B e sz A m c ys → Own wr B e sz A m c ys := fun hB h => h.kept hG6.out fun k hk e => by
        have := (h.lt k hk).1
        injection e
        omega
      have ow7 := Lib.hid (hne (Nat.le_of_lt hs1) (ow3.out.below hC6.out fun k hk => (ow3.out.lt k hk).2))
      have hbod7 := Lib.hid fun x hx => hne (Nat.le_of_lt hs1) ((hbod3.out x hx).below hC6.out fun k hk => ((hbod3.out x hx).lt k hk).2)
      have hgrW : gr < gW := by omega
      have qW7 := Lib.hid ((World.cell?_of_block (a := ⟨gW, 0, none⟩) (hG6.out.block gW (Nat.lt_of_lt_of_le hgW.out hC6.out.size) (by intro e; injection e; omega))).trans ((hC6.out.cell (p := ⟨gW, 0, none⟩) hgW.out).trans qW.out))
      have hgW7 : Hid (gW < wr.heap.size) := Lib.hid (by have := hC6.out.size; have := hgW.out; have := hs6.out; omega)
      have hM7 : Hid (Mid w5.heap.size w6.heap.size w6 wr) := Lib.hid ⟨by rw [hs6.out]; exact Nat.le_refl _, fun k h1 h2 => hG6.out.block k h2 (by intro e; injection e; have := hB5.out.size; omega)⟩
      have hwr7 : Hid (w.heap.size ≤ wr.heap.size) := Lib.hid (by have := hB6.out.size; have := hs6.out; omega)
      clear hne ow3 hbod3 qW hgW
      revert hs6 hbd hG6 ow7 hbod7 qW7 hgW7 hM7 hwr7
      generalize wr = w7
      intro hs6 hbd hG6 ow7 hbod7 qW7 hgW7 hM7 hwr7
      have hI0 : Hid (GoI w7 (w7.heap.size + 1 + 1) [] 0 [] none 0 (((w7.alloc (.cells #[.bool true] 4)).alloc (.cells #[.slice none 0 0] 43)).alloc (.cells #[.int .i64 0] 3))) := Lib.hid (by
        refine ⟨(((Below.refl _ _).alloc (Nat.le_refl _) _).alloc (by simp) _).alloc (by simp; omega) _, ?_, ?_, Own.nil _ _ _ _, by simp, by simp, List.Pairwise.nil, ?_, by omega, by simp⟩
        · rw [heap_alloc_old _ _ (by simp; omega), heap_alloc_old _ _ (by simp)]
          exact heap_alloc_new w7 _
        · rw [heap_alloc_old _ _ (by simp)]
          have := heap_alloc_new (w7.alloc (.cells #[.bool true] 4)) (.cells #[.slice none 0 0] 43)
          simpa using this
        · have := heap_alloc_new ((w7.alloc (.cells #[.bool true] 4)).alloc (.cells #[.slice none 0 0] 43)) (.cells #[.int .i64 0] 3)
          simpa using this)
      go_wp2_with fail
      refine wp_loop_rounds 3 ?_
      rw [rounds_succ]
      go_wp2_with fail
      have hsAa : Hid (w7.heap.size + 3 ≤ (((w7.alloc (.cells #[.bool true] 4)).alloc (.cells #[.slice none 0 0] 43)).alloc (.cells #[.int .i64 0] 3)).heap.size) := Lib.hid (by simp)
      have hbAa : Hid (Below w7.heap.size w7 (((w7.alloc (.cells #[.bool true] 4)).alloc (.cells #[.slice none 0 0] 43)).alloc (.cells #[.int .i64 0] 3))) := Lib.hid hI0.out.bel
      generalize (((w7.alloc (.cells #[.bool true] 4)).alloc (.cells #[.slice none 0 0] 43)).alloc (.cells #[.int .i64 0] 3)) = wAa at hI0 hsAa hbAa ⊢
      obtain ⟨gIa, hgI⟩ : ∃ gI, w7.heap.size + 1 + 1 = gI := ⟨_, rfl⟩
      rw [hgI] at hI0 ⊢
      have hIa := Lib.hid hI0.out
      have hdsa : Hid (∀ E ∈ ([] : List Nat), E < wAa.heap.size) := Lib.hid (by simp)
      clear hgI hI0
      refine wp_rangeFunc (gf := 35) (lb := #[.pointer (some ⟨g, 0, none⟩)]) rfl (enters_of Try.func35 (by kernel_rfl) rfl) (encs := recV) (fun _ => rfl) (G := RecG rl) (fun h => h.2.2.2.2)
        (all1_stops rl g A' n c' w5.heap.size w6 hl'.out hn'.out (by omega) hg1'.out hg2'.out hcg'.out oc'.out) (hM7.out.trans (Mid.of_below hbAa.out (by rw [hs6.out]; exact Nat.le_refl _))) (by have := hsAa.out; have := hs6.out; omega)
        (fun pre W => ∃ zs AL cL, zs.length = 0 + pre.length ∧ GoI w7 gIa [] pre.length zs AL cL W) (fun _ _ _ => False) ?_ (fun _ _ _ _ h _ => h) ?_ ⟨[], none, 0, rfl, hIa.out⟩ ?_ ?_ (fun _ _ _ _ _ _ h _ => h.elim)
      · rintro pre W W' ⟨zs, AL, cL, hz, h⟩ hp
        exact ⟨zs, AL, cL, hz, h.puts hp (by have := hsAa.out; omega) hdsa.out⟩
      · rintro pre W W' ⟨zs, AL, cL, hz, h⟩ hb
        exact ⟨zs, AL, cL, hz, h.keep hb⟩
      · rintro lp pre ⟨at_, body, A1, c1⟩ W0 W1 hlp ⟨zs, AL, cL, hz, hgo⟩ hlt ⟨g1, g2, g3, g4, g5⟩
        have hnx := g1.next g2
        rw [List.length_map, hml.out, ← hxs'.out] at hnx
        simp only at g3 g4 hnx
        rw [← g3] at hnx
        obtain ⟨k, hk⟩ : ∃ k, pre.length = k := ⟨_, rfl⟩
        rw [hk] at hnx hz hgo
        obtain ⟨hkm, hnx⟩ := hnx
        rw [List.getElem?_map] at hnx
        obtain ⟨y, hy, hyp⟩ : ∃ y, xs[k]? = some y ∧ y.pr = (at_, body) := by
          cases hq : xs[k]? with
          | none => rw [hq] at hnx; cases hnx
          | some y => rw [hq] at hnx; exact ⟨y, rfl, by injection hnx⟩
        obtain ⟨at2, body2, Ay, cy⟩ := y
        obtain ⟨rfl, rfl⟩ : at2 = at_ ∧ body2 = body := by
          simp only [Rec.pr, Prod.mk.injEq] at hyp
          exact hyp
        have hby := Lib.hid (hbod7.out _ (List.mem_of_getElem? hy))
        obtain ⟨r1, r2⟩ := recsL_at xs hy
        simp only at r1 r2 hby
        have hbl : body2.length ≤ 65536 := by
          have := (unpF_size g2).2.2
          rw [← g3] at this
          omega
        obtain ⟨gw, hgw0⟩ := ow7.out.head (by omega)
        have hgw := Lib.hid hgw0
        have owg := ow7.out
        rw [hgw0] at owg
        clear hgw0
        have hw1 := Lib.hid (hgo.keep g5)
        have o1 := Lib.hid (g4.base (show w7.heap.size + 2 ≤ W0.heap.size from Nat.le_trans (by have := hsAa.out; omega) (Nat.le_of_lt hlt)))
        have hdz : Hid (∀ y ∈ zs, Dis y.A A1) := Lib.hid fun y hy => Dis.of_lt (fun i hi => ((hgo.each y hy).lt i hi).2) (fun i hi => (g4.lt i hi).1)
        clear hyp hnx hy g1 g2 g3 g4 g5 hgo
        gi_wp2
        refine ⟨KeepsFrom.refl _ _, fun W3 hp => ?_⟩
        have h3 := Lib.hid (hw1.out.puts hp (by have := hsAa.out; omega) hdsa.out)
        have o3 := Lib.hid (o1.out.puts hp)
        have hp' := Lib.hid hp
        have hb1' := Lib.hid hw1.out.bel
        clear hp hw1 o1
        have b3 := h3.out.bel
        obtain ⟨cOk, fOk⟩ := h3.out.cellOk
        obtain ⟨cI, fI⟩ := h3.out.cellI
        obtain ⟨cL1, fL1⟩ := h3.out.cellLi
        have cW := (b3.cell (p := ⟨gW, 0, none⟩) hgW7.out).trans qW7.out
        rw [hgw.out] at cW
        have hlw := fun j => (owg.lt j · |>.2)
        have cR1 := (b3.cell (p := ⟨gw, k * 2, none⟩) (owg.lt gw rfl).2).trans ((owg.cell (k * 2) (by omega)).trans r1)
        have cR2 := (b3.cell (p := ⟨gw, k * 2 + 1, none⟩) (owg.lt gw rfl).2).trans ((owg.cell (k * 2 + 1) (by omega)).trans r2)
        have hby3 := Lib.hid (hby.out.below b3 fun j hj => (hby.out.lt j hj).2)
        have i1 : (k : Int) < (m : Int) := by omega
        have i0 : (0 : Int) ≤ (k : Int) := by omega
        have hI2 := h3.out.hI
        have hgw7 := hgW7.out
        have n1 : ¬ gIa = w7.heap.size := by omega
        have n2 : ¬ gIa = w7.heap.size + 1 := by omega
        have n3 : ¬ gW = w7.heap.size := by omega
        have n4 : ¬ gW = w7.heap.size + 1 := by omega
        have n5 : ¬ gW = gIa := by omega
        have hsame := Lib.hid (same_eq A1 Ay c1 cy body2.length (fun j => ((body2[j]?.getD 0 : Nat) : Int)) _ _ W3 (by omega) (o3.out.bs rfl) (hby3.out.bs rfl))
        have hz' := Lib.hid hz
        have hlz : zs.length ≤ 209714 := by omega
        clear b3 hlw owg hby r1 r2 hz
        gi_wp2_with (first
          | (refine ⟨trivial, rfl, ?_⟩; gi_at_call 15; refine (CallsIn.inRound lp (callsIn_wide.2 hsame.out)).mono ?_; rintro e w' ⟨rfl, mm, rfl⟩
             have h4 := Lib.hid (GoI.setOk (h3.out.keep (below_drewN (Below.refl W3.heap.size W3) mm)))
             clear hsame)
          | (gi_at_builtin; refine wpListIn_app1h elSl _ #[_] rfl rfl _ _ rfl rfl h4.out.own _ (by simp [World.setCell]) rfl (by intro u hu; simp at hu; subst hu; rfl) (by unfold maxLen; omega) (by omega) (by have := lt_of_heap h4.out.li; omega) (zs.length + 1) rfl _ rfl ?_
             intro A5 c5 w5 o5 at5 b5
             have h5 := Lib.hid (GoI.app (x := ⟨A1, body2, c1⟩) h4.out at5 o5 (own_setCellOk o3.out mm) hbl hdz.out)
             have q5 := (b5.cell (p := ⟨w7.heap.size + 1, 0, none⟩) (Nat.lt_succ_self _)).trans h4.out.cellLi.1
             have f5 := (b5.frozen (p := ⟨w7.heap.size + 1, 0, none⟩) (Nat.lt_succ_self _)).trans h4.out.cellLi.2
             have q6 := h5.out.cellI.1
             have f6 := h5.out.cellI.2
             have q7 := (h5.out.bel.cell (p := ⟨gW, 0, none⟩) hgW7.out).trans qW7.out
             have at5' := Lib.hid at5
             clear o5 at5 b5 cOk fOk cI fI cL1 fL1 cW cR1 cR2))
        have h6 := h5.out.inc (k + 1)
        have ek : ((k + 1 : Nat) : Int) = (k : Int) + 1 := by omega
        rw [ek] at h6
        have hkf := (keepsFrom_drewN wAa.heap.size W3 mm).trans ((keepsFrom_set _ _ ⟨w7.heap.size, 0, none⟩ (.bool true)).trans (((at5'.out.keeps h4.out.own).from _).trans ((keepsFrom_set _ _ ⟨w7.heap.size + 1, 0, none⟩ (.slice A5 (zs.length + 1) c5)).trans (keepsFrom_set _ _ ⟨gIa, 0, none⟩ (.int .i64 ((k : Int) + 1))))))
        refine ⟨hkf, mid_of2 hb1'.out h6.bel (Nat.le_trans hp'.out.bel.size hkf.size) (by rw [hs6.out]; exact Nat.le_refl _), zs ++ [⟨A1, body2, c1⟩], A5, c5, ?_, ?_⟩
        · rw [List.length_append, List.length_append, hk, hz'.out]
          simp
          try omega
        · rw [List.length_append, hk]
          exact h6
      · rintro Da xsa Wa hDa hxsa ⟨zsA, ALA, cLA, hza, hga⟩ hmarka
        have hla : xsa.length = m := by rw [← hml.out, ← hxsa, List.length_map]
        rw [hla] at hza hga
        have hDa' := Lib.hid hDa
        have hza' := Lib.hid hza
        have hgs := Lib.hid hga.setOk
        have hma : Hid ((Wa.setCell ⟨w7.heap.size, 0, none⟩ (.bool true)).heap[Da]? = some (.deferred (some []))) := Lib.hid ((heap_setCell_other Wa _ Da _ (by have := hsAa.out; simp only; omega)).trans hmarka)
        obtain ⟨cOk, fOk⟩ := hga.cellOk
        obtain ⟨cI, fI⟩ := hga.cellI
        have cW := (hga.bel.cell (p := ⟨gW, 0, none⟩) hgW7.out).trans qW7.out
        clear hla hxsa hDa hza hga hmarka
        go_wp2_with fail
        rw [rounds_succ]
        go_wp2_with fail
        have hsz : (Wa.setCell ⟨w7.heap.size, 0, none⟩ (.bool true)).heap.size = Wa.heap.size := by simp [World.setCell]
        have hnb := GoI.next hgs.out hma.out
        rw [hsz] at hnb
        have hsAb : Hid (w7.heap.size + 3 ≤ ((Wa.setCell ⟨w7.heap.size, 0, none⟩ (.bool true)).alloc (.cells #[.int .i64 0] 3)).heap.size) := Lib.hid (by
          have h1 := lt_of_heap hma.out
          have h2 := hsAa.out
          have h3 := hDa'.out
          rw [World.size_alloc]
          omega)
        have hdsb : Hid (∀ E ∈ [Da], E < ((Wa.setCell ⟨w7.heap.size, 0, none⟩ (.bool true)).alloc (.cells #[.int .i64 0] 3)).heap.size) := Lib.hid fun E hE => by
          simp only [List.mem_singleton] at hE
          have h1 := lt_of_heap hma.out
          rw [World.size_alloc]
          omega
        have hIb := Lib.hid hnb
        have hbAb := Lib.hid hnb.bel
        clear hnb hsz cOk fOk cI fI cW hgs hma
        generalize ((Wa.setCell ⟨w7.heap.size, 0, none⟩ (.bool true)).alloc (.cells #[.int .i64 0] 3)) = wAb at hIb hsAb hbAb hdsb ⊢
        generalize Wa.heap.size = gIb at hIb ⊢
        refine wp_rangeFunc (gf := 35) (lb := #[.pointer (some ⟨g, 0, none⟩)]) rfl (enters_of Try.func35 (by kernel_rfl) rfl) (encs := recV) (fun _ => rfl) (G := RecG rl) (fun h => h.2.2.2.2)
          (all1_stops rl g A' n c' w5.heap.size w6 hl'.out hn'.out (by omega) hg1'.out hg2'.out hcg'.out oc'.out) (hM7.out.trans (Mid.of_below hbAb.out (by rw [hs6.out]; exact Nat.le_refl _))) (by have := hsAb.out; have := hs6.out; omega)
          (fun pre W => ∃ zs AL cL, zs.length = m + pre.length ∧ GoI w7 gIb [Da] pre.length zs AL cL W) (fun _ _ _ => False) ?_ (fun _ _ _ _ h _ => h) ?_ ⟨zsA, ALA, cLA, (by rw [hza'.out]; simp), hIb.out⟩ ?_ ?_ (fun _ _ _ _ _ _ h _ => h.elim)
        · rintro pre W W' ⟨zs, AL, cL, hz, h⟩ hp
          exact ⟨zs, AL, cL, hz, h.puts hp (by have := hsAb.out; omega) hdsb.out⟩
        · rintro pre W W' ⟨zs, AL, cL, hz, h⟩ hb
          exact ⟨zs, AL, cL, hz, h.keep hb⟩
        · rintro lp pre ⟨at_, body, A1, c1⟩ W0 W1 hlp ⟨zs, AL, cL, hz, hgo⟩ hlt ⟨g1, g2, g3, g4, g5⟩
          have hnx := g1.next g2
          rw [List.length_map, hml.out, ← hxs'.out] at hnx
          simp only at g3 g4 hnx
          rw [← g3] at hnx
          obtain ⟨k, hk⟩ : ∃ k, pre.length = k := ⟨_, rfl⟩
          rw [hk] at hnx hz hgo
          obtain ⟨hkm, hnx⟩ := hnx
          rw [List.getElem?_map] at hnx
          obtain ⟨y, hy, hyp⟩ : ∃ y, xs[k]? = some y ∧ y.pr = (at_, body) := by
            cases hq : xs[k]? with
            | none => rw [hq] at hnx; cases hnx
            | some y => rw [hq] at hnx; exact ⟨y, rfl, by injection hnx⟩
          obtain ⟨at2, body2, Ay, cy⟩ := y
          obtain ⟨rfl, rfl⟩ : at2 = at_ ∧ body2 = body := by
            simp only [Rec.pr, Prod.mk.injEq] at hyp
            exact hyp
          have hby := Lib.hid (hbod7.out _ (List.mem_of_getElem? hy))
          obtain ⟨r1, r2⟩ := recsL_at xs hy
          simp only at r1 r2 hby
          have hbl : body2.length ≤ 65536 := by
            have := (unpF_size g2).2.2
            rw [← g3] at this
            omega
          obtain ⟨gw, hgw0⟩ := ow7.out.head (by omega)
          have hgw := Lib.hid hgw0
          have owg := ow7.out
          rw [hgw0] at owg
          clear hgw0
          have hw1 := Lib.hid (hgo.keep g5)
          have o1 := Lib.hid (g4.base (show w7.heap.size + 2 ≤ W0.heap.size from Nat.le_trans (by have := hsAb.out; omega) (Nat.le_of_lt hlt)))
          have hdz : Hid (∀ y ∈ zs, Dis y.A A1) := Lib.hid fun y hy => Dis.of_lt (fun i hi => ((hgo.each y hy).lt i hi).2) (fun i hi => (g4.lt i hi).1)
          clear hyp hnx hy g1 g2 g3 g4 g5 hgo
          gi_wp2
          refine ⟨KeepsFrom.refl _ _, fun W3 hp => ?_⟩
          have h3 := Lib.hid (hw1.out.puts hp (by have := hsAb.out; omega) hdsb.out)
          have o3 := Lib.hid (o1.out.puts hp)
          have hp' := Lib.hid hp
          have hb1' := Lib.hid hw1.out.bel
          clear hp hw1 o1
          have b3 := h3.out.bel
          obtain ⟨cOk, fOk⟩ := h3.out.cellOk
          obtain ⟨cI, fI⟩ := h3.out.cellI
          obtain ⟨cL1, fL1⟩ := h3.out.cellLi
          have cW := (b3.cell (p := ⟨gW, 0, none⟩) hgW7.out).trans qW7.out
          rw [hgw.out] at cW
          have hlw := fun j => (owg.lt j · |>.2)
          have cR1 := (b3.cell (p := ⟨gw, k * 2, none⟩) (owg.lt gw rfl).2).trans ((owg.cell (k * 2) (by omega)).trans r1)
          have cR2 := (b3.cell (p := ⟨gw, k * 2 + 1, none⟩) (owg.lt gw rfl).2).trans ((owg.cell (k * 2 + 1) (by omega)).trans r2)
          have hby3 := Lib.hid (hby.out.below b3 fun j hj => (hby.out.lt j hj).2)
          have i1 : (k : Int) < (m : Int) := by omega
          have i0 : (0 : Int) ≤ (k : Int) := by omega
          have hI2 := h3.out.hI
          have hgw7 := hgW7.out
          have n1 : ¬ gIb = w7.heap.size := by omega
          have n2 : ¬ gIb = w7.heap.size + 1 := by omega
          have n3 : ¬ gW = w7.heap.size := by omega
          have n4 : ¬ gW = w7.heap.size + 1 := by omega
          have n5 : ¬ gW = gIb := by omega
          have hsame := Lib.hid (same_eq A1 Ay c1 cy body2.length (fun j => ((body2[j]?.getD 0 : Nat) : Int)) _ _ W3 (by omega) (o3.out.bs rfl) (hby3.out.bs rfl))
          have hz' := Lib.hid hz
          have hlz : zs.length ≤ 209714 := by omega
          clear b3 hlw owg hby r1 r2 hz
          gi_wp2_with (first
            | (refine ⟨trivial, rfl, ?_⟩; gi_at_call 15; refine (CallsIn.inRound lp (callsIn_wide.2 hsame.out)).mono ?_; rintro e w' ⟨rfl, mm, rfl⟩
               have h4 := Lib.hid (GoI.setOk (h3.out.keep (below_drewN (Below.refl W3.heap.size W3) mm)))
               clear hsame)
            | (gi_at_builtin; refine wpListIn_app1h elSl _ #[_] rfl rfl _ _ rfl rfl h4.out.own _ (by simp [World.setCell]) rfl (by intro u hu; simp at hu; subst hu; rfl) (by unfold maxLen; omega) (by omega) (by have := lt_of_heap h4.out.li; omega) (zs.length + 1) rfl _ rfl ?_
               intro A5 c5 w5 o5 at5 b5
               have h5 := Lib.hid (GoI.app (x := ⟨A1, body2, c1⟩) h4.out at5 o5 (own_setCellOk o3.out mm) hbl hdz.out)
               have q5 := (b5.cell (p := ⟨w7.heap.size + 1, 0, none⟩) (Nat.lt_succ_self _)).trans h4.out.cellLi.1
               have f5 := (b5.frozen (p := ⟨w7.heap.size + 1, 0, none⟩) (Nat.lt_succ_self _)).trans h4.out.cellLi.2
               have q6 := h5.out.cellI.1
               have f6 := h5.out.cellI.2
               have q7 := (h5.out.bel.cell (p := ⟨gW, 0, none⟩) hgW7.out).trans qW7.out
               have at5' := Lib.hid at5
               clear o5 at5 b5 cOk fOk cI fI cL1 fL1 cW cR1 cR2))
          have h6 := h5.out.inc (k + 1)
          have ek : ((k + 1 : Nat) : Int) = (k : Int) + 1 := by omega
          rw [ek] at h6
          have hkf := (keepsFrom_drewN wAb.heap.size W3 mm).trans ((keepsFrom_set _ _ ⟨w7.heap.size, 0, none⟩ (.bool true)).trans (((at5'.out.keeps h4.out.own).from _).trans ((keepsFrom_set _ _ ⟨w7.heap.size + 1, 0, none⟩ (.slice A5 (zs.length + 1) c5)).trans (keepsFrom_set _ _ ⟨gIb, 0, none⟩ (.int .i64 ((k : Int) + 1))))))
          refine ⟨hkf, mid_of2 hb1'.out h6.bel (Nat.le_trans hp'.out.bel.size hkf.size) (by rw [hs6.out]; exact Nat.le_refl _), zs ++ [⟨A1, body2, c1⟩], A5, c5, ?_, ?_⟩
          · rw [List.length_append, List.length_append, hk, hz'.out]
            simp
            try omega
          · rw [List.length_append, hk]
            exact h6
        · rintro Db xsb Wb hDb hxsb ⟨zsB, ALB, cLB, hzb, hgb⟩ hmarkb
          have hlb : xsb.length = m := by rw [← hml.out, ← hxsb, List.length_map]
          rw [hlb] at hzb hgb
          have hDb' := Lib.hid hDb
          have hzb' := Lib.hid hzb
          have hgs := Lib.hid hgb.setOk
          have hmb : Hid ((Wb.setCell ⟨w7.heap.size, 0, none⟩ (.bool true)).heap[Db]? = some (.deferred (some []))) := Lib.hid ((heap_setCell_other Wb _ Db _ (by have := hsAb.out; simp only; omega)).trans hmarkb)
          obtain ⟨cOk, fOk⟩ := hgb.cellOk
          obtain ⟨cI, fI⟩ := hgb.cellI
          have cW := (hgb.bel.cell (p := ⟨gW, 0, none⟩) hgW7.out).trans qW7.out
          clear hlb hxsb hDb hzb hgb hmarkb
          go_wp2_with fail
          rw [rounds_succ]
          go_wp2_with fail
          clear cOk fOk cI fI cW
          have hm0 := hbd.out.below hgs.out.bel (fun k hk => (hbd.out.lt k hk).2)
          have hm0' := Lib.hid hm0
          clear hm0
          generalize (Wb.setCell ⟨w7.heap.size, 0, none⟩ (.bool true)) = WB at hgs hmb hm0' ⊢
          go_loopw [18] (fun i wr => ∃ k : Nat, k ≤ n ∧ i = .int .i64 k ∧ Hid (Own wr D 5 1 (some ⟨gr, 0, none⟩) (n + 70) cr (u8s (mixL k n (roomL rl))) ∧ WB.grownBy wr (some gr))) (fun i _ => n - (intOf i).toNat)
          case atStart => exact ⟨0, by omega, rfl, Lib.hid ⟨hm0'.out, World.grownBy.refl _ _⟩⟩
          case round =>
            clear hm0'
            obtain ⟨k, hk, rfl, hW⟩ := hrel
            by_cases hlt : k < n
            · have hrl := roomL_length rl
              rw [hn'.out] at hrl
              obtain ⟨x, hx⟩ : ∃ x, (roomL rl)[k]?.getD 0 = x := ⟨_, rfl⟩
              have hxl : x < 256 := by rw [← hx]; exact getD_lt (roomL_lt rl hl'.out) k
              obtain ⟨y, hy⟩ : ∃ y, (x + 1) % 256 = y := ⟨_, rfl⟩
              have q : wr.cell? ⟨gr, k, none⟩ = some (.int .u8 (y : Nat)) := (hW.out.1.cell k (by omega)).trans (by rw [u8s_get _ _ (by rw [mixL_length]; omega), mixL_at _ _ _ (by omega), if_pos ⟨Nat.le_refl _, hlt⟩, hx, hy]; rfl)
              have qf := hW.out.1.frozen k
              have hmu := Lib.hid (mixL_dn k n (roomL rl) (by omega))
              rw [hx] at hmu
              have hwr : IntKind.u8.wrap ((y : Int) - 1) = (x : Int) := by rw [IntKind.wrap_u8]; omega
              clear hy hx
              go_wp2_with fail
              go_roundw
              case rel => exact ⟨k + 1, by omega, by go_num, Lib.hid ⟨own_set_mix hW.out.1 hmu.out, hW.out.2.trans (hW.out.1.set_grown _ _)⟩⟩
              case measure => simp [intOf]; omega
            · obtain rfl : n = k := by omega
              have hbdE := hW.out.1
              rw [mixL_none] at hbdE
              have hbr2 := byt_take (m := n) hbdE.byt (by rw [roomL_length]; have := hn'.out; omega)
              have hrt : (roomL rl).take n = rl := by rw [← hn'.out]; exact roomL_take rl
              rw [hrt] at hbr2
              have hbr2' := Lib.hid hbr2
              have hbdE' := Lib.hid hbdE
              have hGE := Lib.hid hW.out.2
              clear hbr2 hbdE hrt hW hlt hk
              revert hbr2' hbdE' hGE
              generalize wr = w8
              intro hbr2' hbdE' hGE
              have e0 := fun w f a b => fx_eql_seq w f a b
              go_wp2_with (go_at_call 23; refine (hp4.out _ hbr2'.out).mono ?_; rintro e wE ⟨⟨g2, A2, c2, rfl, hg12, hg22, hcg2, oc2⟩, hbE⟩)
              clear e0
              have hKa : Hid (w7.heap.size + 3 ≤ Da) := Lib.hid (Nat.le_trans hsAa.out hDa'.out)
              have hKb : Hid (w7.heap.size + 3 ≤ Db) := Lib.hid (Nat.le_trans hsAb.out hDb'.out)
              have hFE : Hid (FinI w7.heap.size [Db, Da] zsB ALB cLB wE) := Lib.hid ((((hgs.out.fin (fun D hD => by
                simp only [List.mem_singleton] at hD
                subst hD
                have := hKa.out
                omega)).mark hmb.out (by have := hKb.out; omega)).other hGE.out (by have := hwr7.out; omega)).below hbE)
              have hab : Hid (Da < Db) := Lib.hid (Nat.lt_of_lt_of_le (hdsb.out Da (by simp)) hDb'.out)
              have hg8 : Hid (w.grownBy w8 (some gr)) := Lib.hid ((grown_then ((grown_then (World.grownBy.refl w (some gr)) hB6.out).trans hG6.out) (hgs.out.bel.mono hwr7.out)).trans hGE.out)
              have hbdE2 : Hid (Own wE D 5 1 (some ⟨gr, 0, none⟩) (n + 70) cr (u8s (roomL rl))) := Lib.hid (hbdE'.out.below hbE fun k hk => (hbdE'.out.lt k hk).2)
              have hgE : Hid (w.grownBy wE (some gr)) := Lib.hid (grown_then hg8.out (hbE.mono hg8.out.size))
              have hDbE : Hid (Db < wE.heap.size) := Lib.hid (lt_of_heap (hFE.out.ds Db (by simp)))
              have hzl : Hid (zsB.length ≤ 1048576) := Lib.hid (by have := hzb'.out; omega)
              clear hbE hGE hgs hmb hg8 hbdE' hbr2' hp4 hDb' hDa' hza' hzb'
              refine wp_rangeFunc (gf := 35) (lb := #[.pointer (some ⟨g2, 0, none⟩)]) rfl (enters_of Try.func35 (by kernel_rfl) rfl) (encs := recV) (fun _ => rfl) (G := RecG rl) (fun h => h.2.2.2.2)
                (all1_stops rl g2 A2 n c2 w8.heap.size wE hl'.out hn'.out (by omega) hg12 hg22 hcg2 oc2) (Mid.refl _ _ _) (Nat.le_refl _)
                (fun pre W => pre = [] ∧ Below wE.heap.size wE W) (fun c _ W => c = .exit 8 ∧ Below wE.heap.size wE W) ?_ ?_ ?_ ⟨rfl, Below.refl _ _⟩ ?_ ?_ ?_
              · rintro pre W W' ⟨h1, h⟩ hp
                exact ⟨h1, below_puts h hp (Nat.le_refl _)⟩
              · rintro c pre W W' ⟨h1, h⟩ hp
                exact ⟨h1, below_puts h hp (Nat.le_refl _)⟩
              · rintro pre W W' ⟨h1, h⟩ hb
                exact ⟨h1, h.trans (hb.mono h.size)⟩
              · rintro lp pre ⟨at_, body, A1, c1⟩ W0 W1 hlp ⟨_, hbe⟩ hlt ⟨_, _, _, _, g5⟩
                have hbe1 := Lib.hid (hbe.trans (g5.mono hbe.size))
                clear hbe g5
                gi_wp2
                refine ⟨KeepsFrom.refl _ _, fun W3 hp => ?_⟩
                have hbe3 := Lib.hid (below_puts hbe1.out hp (Nat.le_refl _))
                clear hp
                gi_wp2
                exact ⟨KeepsFrom.refl _ _, rfl, hbe3.out⟩
              · rintro De xse We hDe hxse ⟨_, hbe⟩ hmk
                have hFW := Lib.hid ((hFE.out.below hbe).mark hmk (Nat.le_trans (by have := hDbE.out; have := hKb.out; omega) hDe))
                have hbdW := Lib.hid (hbdE2.out.below hbe fun k hk => (hbdE2.out.lt k hk).2)
                have hgW2 := Lib.hid (grown_then hgE.out (hbe.mono hgE.out.size))
                have hDe' := Lib.hid hDe
                have cOk := hFW.out.cellOk
                have cLi := hFW.out.cellLi
                clear hbe hmk hDe
                go_wp2_with (go_at_call 31; refine (hFW.out.calls hzl.out).mono ?_; rintro e w9 ⟨rfl, hb9, ho9⟩; have hb9' := Lib.hid hb9; have ho9' := Lib.hid ho9; clear hb9 ho9 cOk cLi)
                refine leaves_marksF [De, Db, Da] w9 (by have := hab.out; have := hDbE.out; have := hDe'.out; simp; omega) (fun D hD => ho9'.out.same D _ (hFW.out.ds D hD) rfl) (fun W => results_tmp rfl _ _ _) (fun W hp => ?_)
                have hp2 := hp (w7.heap.size + 3) (fun D hD => by
                  have := hKa.out
                  have := hKb.out
                  have := hDbE.out
                  have := hDe'.out
                  simp only [List.mem_cons, List.not_mem_nil, or_false] at hD
                  rcases hD with rfl | rfl | rfl <;> omega)
                have hlow : Below w.heap.size We W := (hb9'.out.mono (by have := hwr7.out; omega)).trans (hp2.bel.mono (by have := hwr7.out; omega))
                exact ⟨rfl, grown_then hgW2.out hlow, hbdW.out.below hlow fun k hk => by cases hk; exact hgr.2⟩
              · rintro De cE pre We hDe _ ⟨rfl, hbe⟩ hmk
                have hFW := Lib.hid ((hFE.out.below hbe).mark hmk (Nat.le_trans (by have := hDbE.out; have := hKb.out; omega) hDe))
                have hbdW := Lib.hid (hbdE2.out.below hbe fun k hk => (hbdE2.out.lt k hk).2)
                have hgW2 := Lib.hid (grown_then hgE.out (hbe.mono hgE.out.size))
                have hDe' := Lib.hid hDe
                have cOk := hFW.out.cellOk
                have cLi := hFW.out.cellLi
                clear hbe hmk hDe
                go_wp2_with (go_at_call 31; refine (hFW.out.calls hzl.out).mono ?_; rintro e w9 ⟨rfl, hb9, ho9⟩; have hb9' := Lib.hid hb9; have ho9' := Lib.hid ho9; clear hb9 ho9 cOk cLi)
                refine leaves_marksF [De, Db, Da] w9 (by have := hab.out; have := hDbE.out; have := hDe'.out; simp; omega) (fun D hD => ho9'.out.same D _ (hFW.out.ds D hD) rfl) (fun W => results_tmp rfl _ _ _) (fun W hp => ?_)
                have hp2 := hp (w7.heap.size + 3) (fun D hD => by
                  have := hKa.out
                  have := hKb.out
                  have := hDbE.out
                  have := hDe'.out
                  simp only [List.mem_cons, List.not_mem_nil, or_false] at hD
                  rcases hD with rfl | rfl | rfl <;> omega)
                have hlow : Below w.heap.size We W := (hb9'.out.mono (by have := hwr7.out; omega)).trans (hp2.bel.mono (by have := hwr7.out; omega))
                exact ⟨rfl, grown_then hgW2.out hlow, hbdW.out.below hlow fun k hk => by cases hk; exact hgr.2⟩

end Go.Proofs.Ytjofpjioaiamhaa

/- ObjectFresh: the law's walk. ObjectFresh: the arguments opened. -/
import Derived.Test.YtkjndgapejbgcaaDoorPkE5
import Derived.BigRegion
import Derived.Test.YtkjndgapejbgcaaDoorPkE6
import Derived.Test.YtkjndgapejbgcaaDoorPkD25

namespace Go.Proofs.YtkjndgapejbgcaaDoor
open Go.RowKit
set_option linter.unusedSimpArgs false
set_option linter.unusedVariables false

set_option maxRecDepth 100000 in
set_option maxHeartbeats 8000000 in
theorem fresh_ok (w : World) (a b : ObjT) (p q : Lay) (ha : EncIn w a p) (hb : EncIn w b q) (hf1 : fewB a = true) (hf2 : fewB b = true) (hE0 : encE a = 0) :
    Calls Tryd.prog 8 #[.agg (ocells a p).toArray, .agg (ocells b q).toArray] w fun e w' => e = .returned (.bool true) ∧ Below w.heap.size w w' := by
  have hz := zeroO
  have hi39 : (Tryd.prog.info? 31).map (·.size) = some 39 := by kernel_rfl
  have hi39' := Lib.hid hi39
  have h39' := Lib.hid (fun (x : ObjT) (q : Lay) => show (ocells x q).toArray.size = 39 by simp [ocells_length])
  have hone' := Lib.hid (fun (x : ObjT) (q : Lay) => show (ocells x q).toArray.all (·.oneCell') = true from all_oneCell_toArray (ocells_one x q))
  have hB : Below w.heap.size w ((w.alloc (.cells (ocells a p).toArray 31)).alloc (.cells (ocells b q).toArray 31)) := ((Below.refl _ _).alloc (Nat.le_refl _) _).alloc (by simp) _
  have hs0 := Lib.hid (show UnS w ((w.alloc (.cells (ocells a p).toArray 31)).alloc (.cells (ocells b q).toArray 31)) a b p q from ⟨hB, heap_alloc2_old w _ _, heap_alloc2_new w _ _⟩)
  have ha' := Lib.hid ha
  have hb' := Lib.hid hb
  have hf1 := Lib.hid hf1
  have hf2 := Lib.hid hf2
  obtain ⟨E, hE⟩ : ∃ E, Hid (∀ _ : Unit, encE a = E) := ⟨_, Lib.hid fun _ => rfl⟩
  obtain ⟨L1, hL1⟩ : ∃ L, Hid (∀ _ : Unit, encL a = L) := ⟨_, Lib.hid fun _ => rfl⟩
  obtain ⟨n1, hn1⟩ : ∃ n, Hid (∀ _ : Unit, L1.length = n) := ⟨_, Lib.hid fun _ => rfl⟩
  obtain ⟨F, hF⟩ : ∃ E, Hid (∀ _ : Unit, encE b = E) := ⟨_, Lib.hid fun _ => rfl⟩
  obtain ⟨L2, hL2⟩ : ∃ L, Hid (∀ _ : Unit, encL b = L) := ⟨_, Lib.hid fun _ => rfl⟩
  obtain ⟨n2, hn2⟩ : ∃ n, Hid (∀ _ : Unit, L2.length = n) := ⟨_, Lib.hid fun _ => rfl⟩
  have hx1 : Hid (n1 ≤ 8192) := Lib.hid (by rw [← hn1.out (), ← hL1.out ()]; exact encL_len a)
  have hlt1 : Hid (∀ x ∈ L1, x < 256) := Lib.hid (by rw [← hL1.out ()]; exact encL_lt ha.good ha.may.fit.b ha.good.kind)
  have hlt2 : Hid (∀ x ∈ L2, x < 256) := Lib.hid (by rw [← hL2.out ()]; exact encL_lt hb.good hb.may.fit.b hb.good.kind)
  have hde : Hid (decM L1 = (0, a)) := Lib.hid (by rw [← hL1.out ()]; unfold encL; rw [if_pos hE0]; exact decM_back hE0 ha.good ha.may.fit.b)
  have hd8 : Hid (a.data.length ≤ 8192) := Lib.hid (by
    have h := hE0
    unfold encE at h
    rw [if_neg (by simp [encE_taken hE0])] at h
    by_cases h8 : 8192 ≤ a.data.length
    · rw [if_pos h8] at h; cases h
    · omega)
  have hnm : Hid (n1 ≤ 140737488355328) := Lib.hid (by have := hx1.out; omega)
  have hE : Hid (∀ _ : Unit, encE a = 0) := Lib.hid fun _ => hE0
  clear hE0
  clear ha hb hi39 hB
  go_enter Tryd.func8, Tryd.ntmps8
  go_wp2_with (first | (refine wpList_load_row_g rfl 31 _ rfl w.heap.size rfl 31 _ (0, 0) _ hs0.out.oa Tryd.underlying31 rfl (by rw [h39'.out]; exact hi39'.out) ?_))
  refine (few_any _ a p hf1.out).mono ?_
  rintro e w1 ⟨rfl, b1⟩
  have hs1 := Lib.hid (hs0.out.below b1)
  clear hs0 b1
  go_wp2_with (first | (refine wpList_load_row_g rfl 31 _ rfl (w.heap.size + 1) rfl 31 _ (0, 0) _ hs1.out.ob Tryd.underlying31 rfl (by rw [h39'.out]; exact hi39'.out) ?_))
  refine (few_any _ b q hf2.out).mono ?_
  rintro e w2 ⟨rfl, b2⟩
  have hs2 := Lib.hid (hs1.out.below b2)
  clear hs1 b2
  go_wp2_with (first | (refine wpList_load_row_g rfl 31 _ rfl w.heap.size rfl 31 _ (0, 0) _ hs2.out.oa Tryd.underlying31 rfl (by rw [h39'.out]; exact hi39'.out) ?_))
  refine (renc_l _ a p (enc_to ha'.out hs2.out.bel) (hE.out ()) (hL1.out ()) (hn1.out ())).mono ?_
  rintro e w3 ⟨⟨A1, c1, rfl, o1⟩, b3⟩
  have hs3 := Lib.hid (hs2.out.below b3)
  have oW3 := Lib.hid o1
  clear hs2 b3 o1
  go_wp2_with (first | (refine wpList_load_row_g rfl 31 _ rfl w.heap.size rfl 31 _ (0, 0) _ hs3.out.oa Tryd.underlying31 rfl (by rw [h39'.out]; exact hi39'.out) ?_))
  refine (copied_any _ a p (enc_to ha'.out hs3.out.bel).may.oin ha'.out.may.fit).mono ?_
  rintro e w4 ⟨⟨p4, rfl, l4⟩, b4⟩
  have hs4 := Lib.hid (hs3.out.below b4)
  have oW4 := Lib.hid (oW3.out.below b4 fun k hk => (oW3.out.lt k hk).2)
  have e4 : Hid (EncIn w4 a p4) := Lib.hid ⟨⟨u8t_keep ha'.out.may.tabs hs4.out.bel, l4.objIn, ha'.out.may.fit, ha'.out.may.ps, ha'.out.may.note⟩, ha'.out.good⟩
  clear hs3 b4 oW3 l4
  go_wp2_with (first | fail)
  refine (enc_l w4 a p4 e4.out (hE.out ()) (hL1.out ()) (hn1.out ())).mono ?_
  rintro e w5 ⟨⟨A2, c2, rfl, o2⟩, b5⟩
  have hs5 := Lib.hid (hs4.out.below b5)
  obtain ⟨lo, hlo⟩ : ∃ lo, Hid (w4.heap.size = lo) := ⟨_, Lib.hid rfl⟩
  obtain ⟨hi, hhi⟩ : ∃ hi, Hid (w5.heap.size = hi) := ⟨_, Lib.hid rfl⟩
  have hlh : Hid (lo ≤ hi) := Lib.hid (by rw [← hlo.out, ← hhi.out]; exact b5.size)
  have hlw : Hid (w.heap.size + 2 ≤ lo) := Lib.hid (by have := lt_of_block hs4.out.ob; rw [← hlo.out]; omega)
  have fW : Hid (∀ k, blockOf A1 = some k → k < lo) := Lib.hid fun k hk => by rw [← hlo.out]; exact (oW4.out.lt k hk).2
  have fA : Hid (∀ k, blockOf A2 = some k → lo ≤ k ∧ k < hi) := Lib.hid fun k hk => by have := o2.lt k hk; rw [hlo.out, hhi.out] at this; exact this
  have oW5 := Lib.hid (oW4.out.below b5 fun k hk => (oW4.out.lt k hk).2)
  have oA5 : Hid (Own w5 lo 5 1 A2 n1 c2 (u8s L1)) := Lib.hid (by rw [← hlo.out]; exact o2)
  clear hs4 b5 oW4 o2 e4
  go_wp2_with (first | (refine wpList_load_row_g rfl 31 _ rfl w.heap.size rfl 31 _ (0, 0) _ hs5.out.oa Tryd.underlying31 rfl (by rw [h39'.out]; exact hi39'.out) ?_))
  refine (copied_any _ a p (enc_to ha'.out hs5.out.bel).may.oin ha'.out.may.fit).mono ?_
  rintro e w6 ⟨⟨p6, rfl, l6⟩, b6⟩
  have hs6 := Lib.hid (hs5.out.below b6)
  have oW6 := Lib.hid (oW5.out.below b6 fun k hk => (oW5.out.lt k hk).2)
  have oA6 := Lib.hid (oA5.out.below b6 fun k hk => (oA5.out.lt k hk).2)
  have e6 : Hid (EncIn w6 a p6) := Lib.hid ⟨⟨u8t_keep ha'.out.may.tabs hs6.out.bel, l6.objIn, ha'.out.may.fit, ha'.out.may.ps, ha'.out.may.note⟩, ha'.out.good⟩
  have hh6 : Hid (hi ≤ w6.heap.size) := Lib.hid (by rw [← hhi.out]; exact b6.size)
  clear hs5 b6 oW5 oA5 l6
  go_wp2_with (first | fail)
  refine (enc_l w6 a p6 e6.out (hE.out ()) (hL1.out ()) (hn1.out ())).mono ?_
  rintro e w7 ⟨⟨A3, c3, rfl, o3⟩, b7⟩
  have hs7 := Lib.hid (hs6.out.below b7)
  have oW7 := Lib.hid (oW6.out.below b7 fun k hk => (oW6.out.lt k hk).2)
  have oA7 := Lib.hid (oA6.out.below b7 fun k hk => (oA6.out.lt k hk).2)
  have oB7 := Lib.hid (o3.base hh6.out)
  have hh7 : Hid (hi ≤ w7.heap.size) := Lib.hid (Nat.le_trans hh6.out b7.size)
  clear hs6 b7 oW6 oA6 o3 e6 hh6
  go_wp2_with (first | (refine wpList_load_row_g rfl 31 _ rfl (w.heap.size + 1) rfl 31 _ (0, 0) _ hs7.out.ob Tryd.underlying31 rfl (by rw [h39'.out]; exact hi39'.out) ?_))
  refine (copied_any _ b q (enc_to hb'.out hs7.out.bel).may.oin hb'.out.may.fit).mono ?_
  rintro e w8 ⟨⟨p8, rfl, l8⟩, b8⟩
  have hs8 := Lib.hid (hs7.out.below b8)
  have oW8 := Lib.hid (oW7.out.below b8 fun k hk => (oW7.out.lt k hk).2)
  have oA8 := Lib.hid (oA7.out.below b8 fun k hk => (oA7.out.lt k hk).2)
  have oB8 := Lib.hid (oB7.out.below b8 fun k hk => (oB7.out.lt k hk).2)
  have e8 : Hid (EncIn w8 b p8) := Lib.hid ⟨⟨u8t_keep hb'.out.may.tabs hs8.out.bel, l8.objIn, hb'.out.may.fit, hb'.out.may.ps, hb'.out.may.note⟩, hb'.out.good⟩
  have hh8 : Hid (hi ≤ w8.heap.size) := Lib.hid (Nat.le_trans hh7.out b8.size)
  clear hs7 b8 oW7 oA7 oB7 l8 hh7
  go_wp2_with (first | fail)
  refine (enc_l w8 b p8 e8.out (hF.out ()) (hL2.out ()) (hn2.out ())).mono ?_
  rintro e w9 ⟨⟨A4, c4, rfl, o4⟩, b9⟩
  have hs9 := Lib.hid (hs8.out.below b9)
  have oW9 := Lib.hid (oW8.out.below b9 fun k hk => (oW8.out.lt k hk).2)
  have oA9 := Lib.hid (oA8.out.below b9 fun k hk => (oA8.out.lt k hk).2)
  have oB9 := Lib.hid (oB8.out.below b9 fun k hk => (oB8.out.lt k hk).2)
  have oC9 := Lib.hid (o4.base hh8.out)
  have hh9 : Hid (hi ≤ w9.heap.size) := Lib.hid (Nat.le_trans hh8.out b9.size)
  clear hs8 b9 oW8 oA8 oB8 o4 e8 hh8
  go_wp2_with (first | (refine wpList_load_row_g rfl 31 _ rfl (w.heap.size + 1) rfl 31 _ (0, 0) _ hs9.out.ob Tryd.underlying31 rfl (by rw [h39'.out]; exact hi39'.out) ?_))
  refine (renc_l _ b q (enc_to hb'.out hs9.out.bel) (hF.out ()) (hL2.out ()) (hn2.out ())).mono ?_
  rintro e w10 ⟨⟨A5, c5, rfl, o5⟩, b10⟩
  have hs10 := Lib.hid (hs9.out.below b10)
  have oW10 := Lib.hid (oW9.out.below b10 fun k hk => (oW9.out.lt k hk).2)
  have oA10 := Lib.hid (oA9.out.below b10 fun k hk => (oA9.out.lt k hk).2)
  have oB10 := Lib.hid (oB9.out.below b10 fun k hk => (oB9.out.lt k hk).2)
  have oC10 := Lib.hid (oC9.out.below b10 fun k hk => (oC9.out.lt k hk).2)
  have oT10 := Lib.hid (o5.base hh9.out)
  have hh10 : Hid (hi ≤ w10.heap.size) := Lib.hid (Nat.le_trans hh9.out b10.size)
  clear hs9 b10 oW9 oA9 oB9 oC9 o5 hh9
  go_wp2_with fail
  go_loopw [15] (fun iv wr => ∃ (k : Nat) (xs : List Value), k ≤ n1 ∧ iv = .int .i64 (k : Int) ∧ Hid (Own wr lo 5 1 A2 n1 c2 xs) ∧ Hid (Has8 xs 1 0 n1 .u8) ∧ Hid (Gap lo hi w10 wr)) (fun iv _ => n1 - (intOf iv).toNat)
  case atStart => exact ⟨0, _, by omega, rfl, oA10, Lib.hid (has8_u8 L1 (hn1.out ())), Lib.hid (Gap.refl _)⟩
  case round =>
    clear oA10
    obtain ⟨k, xs, hk, rfl, ho, h8, hg⟩ := hrel
    by_cases hlt : k < n1
    · have hk8 : k < 8192 := by have := hx1.out; omega
      obtain ⟨g, hgA⟩ := ho.out.head (by omega)
      subst hgA
      obtain ⟨z, hz8⟩ := h8.out k hlt
      have q1 := ho.out.cell k (by omega)
      rw [show k = k * 1 + 0 by omega, hz8, show k * 1 + 0 = k by omega] at q1
      have qf := ho.out.frozen k
      have fg := fA.out g rfl
      have hcap := ho.out.le
      have hnx : ∀ z', Hid (Own (wr.setCell ⟨g, k, none⟩ (.int .u8 z')) lo 5 1 (some ⟨g, 0, none⟩) n1 c2 (xs.set k (.int .u8 z'))) := fun z' => Lib.hid (ho.out.set k _)
      have hn8 : ∀ z', Hid (Has8 (xs.set k (.int .u8 z')) 1 0 n1 .u8) := fun z' => Lib.hid (h8.out.put k z')
      have hng : ∀ z', Hid (Gap lo hi w10 (wr.setCell ⟨g, k, none⟩ (.int .u8 z'))) := fun z' => Lib.hid (hg.out.grown (grown_set wr g k _) (fun j hj _ => by injection hj with hj; omega))
      have hnx' := Lib.hid hnx
      have hn8' := Lib.hid hn8
      have hng' := Lib.hid hng
      clear hnx hn8 hng hz8 hcap
      go_wp2_with fail
      go_roundw
      case rel => exact ⟨k + 1, _, by omega, by go_num, hnx'.out _, hn8'.out _, hng'.out _⟩
      case measure => simp [intOf]; omega
    · go_wp2_with (first
        | (go_at_call 26
           refine (grown_any wr ho.out (by have := hx1.out; omega) (by have := hg.out.size; have := hh10.out; have := hlh.out; omega)).mono ?_
           rintro e w11 ⟨⟨A6, n6, c6, rfl⟩, g6⟩
           have hg6 : Hid (Gap lo hi w10 w11) := Lib.hid (hg.out.grown g6 (fun j hj _ => fA.out j hj))
           have hb6 : Hid (Below w.heap.size w w11) := Lib.hid (hs10.out.bel.trans (hg6.out.below (by have := hlw.out; omega) hs10.out.bel.size))
           have oW := Lib.hid (oW10.out.gap hg6.out fun j hj => .inl (fW.out j hj))
           have oB := Lib.hid (oB10.out.gap hg6.out fun j hj => .inr (oB10.out.lt j hj).1)
           have oC := Lib.hid (oC10.out.gap hg6.out fun j hj => .inr (oC10.out.lt j hj).1)
           have oT := Lib.hid (oT10.out.gap hg6.out fun j hj => .inr (oT10.out.lt j hj).1)
           have v1 := conv_bytes w11 L1 A3 c3 _ (show Byt w11 w11.heap.size A3 L1 from oB.out.byt) hlt1.out
           have v2 := conv_bytes w11 L1 A1 c1 _ (show Byt w11 w11.heap.size A1 L1 from oW.out.byt) hlt1.out
           have v3 := conv_bytes w11 L2 A4 c4 _ (show Byt w11 w11.heap.size A4 L2 from oC.out.byt) hlt2.out
           have v4 := conv_bytes w11 L2 A5 c5 _ (show Byt w11 w11.heap.size A5 L2 from oT.out.byt) hlt2.out
           rw [hn1.out ()] at v1 v2
           rw [hn2.out ()] at v3 v4
           clear g6 oB oC oT)
        | (go_at_call 18
           refine (spare_to w11 L1 (hn1.out ()) A1 c1 oW.out.byt hnm.out).mono ?_
           rintro e w12 ⟨⟨gi, ci, rfl, oi⟩, b12⟩
           obtain ⟨l3, hl3⟩ : ∃ l, Hid (w11.heap.size = l) := ⟨_, Lib.hid rfl⟩
           obtain ⟨l2, hl2⟩ : ∃ l, Hid (w12.heap.size = l) := ⟨_, Lib.hid rfl⟩
           have hB12 := Lib.hid (hb6.out.trans (b12.mono hb6.out.size))
           have hl23 : Hid (w.heap.size + 2 ≤ l3 ∧ l3 ≤ l2) := Lib.hid (by have h1 := b12.size; have h2 := hg6.out.size; have h4 := lt_of_block hs10.out.ob; rw [← hl3.out, ← hl2.out]; omega)
           have fI : Hid (l3 ≤ gi ∧ gi < l2) := Lib.hid (by have := oi.lt gi rfl; rw [hl3.out, hl2.out] at this; exact this)
           have fW2 : Hid (∀ k, blockOf A1 = some k → k < l3) := Lib.hid fun k hk => by rw [← hl3.out]; exact (oW.out.lt k hk).2
           have oW12 := Lib.hid (oW.out.below b12 fun k hk => (oW.out.lt k hk).2)
           have oI12 : Hid (Own w12 l3 5 1 (some ⟨gi, 0, none⟩) (L1.length + 70) ci (u8s (marked L1 70))) := Lib.hid (by rw [← hl3.out]; exact oi)
           have bk11 : Hid (OBlk w11 w.heap.size a p) := Lib.hid (hg6.out.keep hs10.out.oa (lt_of_block hs10.out.oa) (.inl (by have := hlw.out; omega)))
           have bk12 : Hid (OBlk w12 w.heap.size a p) := Lib.hid (bk11.out.below b12 (lt_of_block bk11.out))
           clear oi b12 oW bk11 v1 v2 v3 v4)
        | (go_at_call 19
           refine (dec_own w12 (u8t_keep ha'.out.may.tabs hB12.out) L1 (hn1.out ()) (spare_own (hn1.out ()) oI12.out) hnm.out hlt1.out hde.out).mono ?_
           rintro e w13 ⟨⟨qp, rfl, op⟩, b13⟩
           have hB13 := Lib.hid (hB12.out.trans (b13.mono hB12.out.size))
           have oP13 : Hid (OOwn w13 l2 a qp) := Lib.hid (by rw [← hl2.out]; exact op)
           have oW13 := Lib.hid (oW12.out.below b13 fun k hk => (oW12.out.lt k hk).2)
           have oI13 := Lib.hid (oI12.out.below b13 fun k hk => (oI12.out.lt k hk).2)
           have bk13 : Hid (OBlk w13 w.heap.size a p) := Lib.hid (bk12.out.below b13 (lt_of_block bk12.out))
           have s13 : Hid (l2 ≤ w13.heap.size) := Lib.hid (by rw [← hl2.out]; exact b13.size)
           have fP : Hid (∀ A, A = qp.Ad ∨ A = qp.Ap ∨ A = qp.Ai ∨ A = qp.Ak → ∀ j, blockOf A = some j → j < w13.heap.size) := Lib.hid fun A hA j hj => by
             rcases hA with rfl | rfl | rfl | rfl
             · exact (oP13.out.d.lt j hj).2
             · exact (oP13.out.ps.lt j hj).2
             · exact (oP13.out.xs.lt j hj).2
             · exact (oP13.out.ks.lt j hj).2
           clear op b13 oW12 oI12 bk12 hB12)
        | (refine wpList_store_row rfl 31 _ _ rfl w13.heap.size (ocells a qp).toArray rfl rfl 31 _ (heap_alloc_new w13 _) (by rw [h39'.out]; exact hi39'.out) (by rw [h39'.out, h39'.out]) (hone'.out _ _) ?_
           have hnw := row_new w13 31 (ocells oZ pZ).toArray (ocells a qp).toArray
           have hbb := hnw.2 w13.heap.size (Nat.le_refl _)
           generalize ((w13.alloc (.cells (ocells oZ pZ).toArray 31)).setRow w13.heap.size (ocells a qp).toArray) = w14 at hnw hbb ⊢
           have hB14 := Lib.hid (hB13.out.trans (hbb.mono hB13.out.size))
           have oP14 := Lib.hid (oP13.out.below hbb)
           have oW14 := Lib.hid (oW13.out.below hbb fun k hk => (oW13.out.lt k hk).2)
           have oI14 := Lib.hid (oI13.out.below hbb fun k hk => (oI13.out.lt k hk).2)
           have bk14 : Hid (OBlk w14 w.heap.size a p) := Lib.hid (bk13.out.below hbb (lt_of_block bk13.out))
           have xP14 : Hid (OBlk w14 w13.heap.size a qp) := Lib.hid hnw.1
           obtain ⟨h2, hh2⟩ : ∃ h, Hid (w14.heap.size = h) := ⟨_, Lib.hid rfl⟩
           have sP : Hid (l2 ≤ w13.heap.size ∧ w13.heap.size < h2) := Lib.hid ⟨s13.out, by rw [← hh2.out]; exact lt_of_block hnw.1⟩
           clear hnw hbb hB13 oP13 oW13 oI13 bk13 s13
           generalize w13.heap.size = SP at xP14 sP fP ⊢)
        | (go_at_call 19
           refine (dec_own w14 (u8t_keep ha'.out.may.tabs hB14.out) L1 (hn1.out ()) (spare_own (hn1.out ()) oI14.out) hnm.out hlt1.out hde.out).mono ?_
           rintro e w15 ⟨⟨qq, rfl, oq⟩, b15⟩
           have hB15 := Lib.hid (hB14.out.trans (b15.mono hB14.out.size))
           have oQ15 : Hid (OOwn w15 h2 a qq) := Lib.hid (by rw [← hh2.out]; exact oq)
           have oP15 := Lib.hid (oP14.out.below b15)
           have oW15 := Lib.hid (oW14.out.below b15 fun k hk => (oW14.out.lt k hk).2)
           have oI15 := Lib.hid (oI14.out.below b15 fun k hk => (oI14.out.lt k hk).2)
           have bk15 : Hid (OBlk w15 w.heap.size a p) := Lib.hid (bk14.out.below b15 (lt_of_block bk14.out))
           have xP15 : Hid (OBlk w15 SP a qp) := Lib.hid (xP14.out.below b15 (lt_of_block xP14.out))
           have s15 : Hid (h2 ≤ w15.heap.size) := Lib.hid (by rw [← hh2.out]; exact b15.size)
           clear oq b15 oP14 oW14 oI14 bk14 xP14 hB14)
        | (refine wpList_store_row rfl 31 _ _ rfl w15.heap.size (ocells a qq).toArray rfl rfl 31 _ (heap_alloc_new w15 _) (by rw [h39'.out]; exact hi39'.out) (by rw [h39'.out, h39'.out]) (hone'.out _ _) ?_
           have hnw := row_new w15 31 (ocells oZ pZ).toArray (ocells a qq).toArray
           have hbb := hnw.2 w15.heap.size (Nat.le_refl _)
           generalize ((w15.alloc (.cells (ocells oZ pZ).toArray 31)).setRow w15.heap.size (ocells a qq).toArray) = w16 at hnw hbb ⊢
           have hB16 := Lib.hid (hB15.out.trans (hbb.mono hB15.out.size))
           have oP16 := Lib.hid (oP15.out.below hbb)
           have oQ16 := Lib.hid (oQ15.out.below hbb)
           have oW16 := Lib.hid (oW15.out.below hbb fun k hk => (oW15.out.lt k hk).2)
           have oI16 := Lib.hid (oI15.out.below hbb fun k hk => (oI15.out.lt k hk).2)
           have bk16 : Hid (OBlk w16 w.heap.size a p) := Lib.hid (bk15.out.below hbb (lt_of_block bk15.out))
           have xP16 : Hid (OBlk w16 SP a qp) := Lib.hid (xP15.out.below hbb (lt_of_block xP15.out))
           have xQ16 : Hid (OBlk w16 w15.heap.size a qq) := Lib.hid hnw.1
           have s16 : Hid (h2 ≤ w16.heap.size) := Lib.hid (Nat.le_trans s15.out hbb.size)
           clear hnw hbb hB15 oP15 oQ15 oW15 oI15 bk15 xP15
           generalize w15.heap.size = SQ at xQ16 s15 ⊢))
      have hp16 : Hid (PS l2 h2 w16 w16 SP a qp) := Lib.hid (PS.start oP16.out xP16.out (Gap.refl _) (Nat.le_refl _) sP.out fP.out)
      clear oP16 xP16 hs10 oW10 oB10 oC10 oT10 ho h8 hg hg6
      obtain ⟨m0, hm0⟩ : ∃ n, Hid (∀ _ : Unit, a.data.length = n) := ⟨_, Lib.hid fun _ => rfl⟩
      have hqm0 : m0 ≤ 140737488355328 := by
        rw [← hm0.out ()]
        have := ha'.out.may.fit.d
        omega
      go_wp2_with fail
      go_loopw [19] (fun iv wr => ∃ k : Nat, k ≤ m0 ∧ iv = .int .i64 (k : Int) ∧ Hid (PS l2 h2 w16 wr SP a qp)) (fun iv _ => m0 - (intOf iv).toNat)
      case atStart => exact ⟨0, by omega, rfl, hp16⟩
      case round =>
        clear hp16
        obtain ⟨k0, hk0, rfl, hp0⟩ := hrel
        have xc := hp0.out.blk.c1
        rw [hm0.out ()] at xc
        by_cases hlt : k0 < m0
        · obtain ⟨xs, od, h8⟩ := hp0.out.d
          rw [hm0.out ()] at od h8
          obtain ⟨g, hgA⟩ := od.head (by omega)
          obtain ⟨z, hz8⟩ := h8 k0 hlt
          have hst := Lib.hid (fun z' : Int => hp0.out.stepD hgA (k0) z')
          rw [hgA] at xc od
          have q1 := od.cell (k0) (by omega)
          rw [show k0 = k0 * 1 + 0 by omega, hz8, show k0 * 1 + 0 = k0 by omega] at q1
          have qf := od.frozen (k0)
          have hle := od.le
          clear hp0 od h8 hz8
          go_wp2_with fail
          go_region
          go_wp2_with fail
          go_roundw
          case rel => exact ⟨k0 + 1, by omega, by go_num, Lib.hid (hst.out _).drew⟩
          case measure => simp [intOf]; omega
        · obtain ⟨m1, hm1⟩ : ∃ n, Hid (∀ _ : Unit, a.parts.length = n) := ⟨_, Lib.hid fun _ => rfl⟩
          have hqm1 : m1 ≤ 140737488355328 := by
            rw [← hm1.out ()]
            have := ha'.out.may.fit.ps
            omega
          go_wp2_with fail
          go_loopw [20] (fun iv wr => ∃ k : Nat, k ≤ m1 ∧ iv = .int .i64 (k : Int) ∧ Hid (PS l2 h2 w16 wr SP a qp)) (fun iv _ => m1 - (intOf iv).toNat)
          case atStart => exact ⟨0, by omega, rfl, hp0⟩
          case round =>
            clear hp0
            obtain ⟨k1, hk1, rfl, hp1⟩ := hrel
            have xc := hp1.out.blk.c2
            rw [hm1.out ()] at xc
            by_cases hlt : k1 < m1
            · obtain ⟨xs, od, h8⟩ := hp1.out.ps
              rw [hm1.out ()] at od h8
              obtain ⟨g, hgA⟩ := od.head (by omega)
              obtain ⟨z, hz8⟩ := h8 k1 hlt
              have hst := Lib.hid (fun z' : Int => hp1.out.stepP hgA (k1 * 33 + 32) z')
              rw [hgA] at xc od
              have q1 := od.cell (k1 * 33 + 32) (by omega)
              rw [hz8] at q1
              have qf := od.frozen (k1 * 33 + 32)
              have hle := od.le
              clear hp1 od h8 hz8
              go_wp2_with fail
              go_region
              go_wp2_with fail
              go_roundw
              case rel => exact ⟨k1 + 1, by omega, by go_num, Lib.hid (hst.out _).drew⟩
              case measure => simp [intOf]; omega
            · obtain ⟨m2, hm2⟩ : ∃ n, Hid (∀ _ : Unit, a.items.length = n) := ⟨_, Lib.hid fun _ => rfl⟩
              have hqm2 : m2 ≤ 140737488355328 := by
                rw [← hm2.out ()]
                have := ha'.out.may.fit.xs
                omega
              go_wp2_with fail
              go_loopw [21] (fun iv wr => ∃ k : Nat, k ≤ m2 ∧ iv = .int .i64 (k : Int) ∧ Hid (PS l2 h2 w16 wr SP a qp)) (fun iv _ => m2 - (intOf iv).toNat)
              case atStart => exact ⟨0, by omega, rfl, hp1⟩
              case round =>
                clear hp1
                obtain ⟨k2, hk2, rfl, hp2⟩ := hrel
                have xc := hp2.out.blk.c3
                rw [hm2.out ()] at xc
                by_cases hlt : k2 < m2
                · obtain ⟨xs, od⟩ := hp2.out.xs
                  rw [hm2.out ()] at od
                  obtain ⟨g, hgA⟩ := od.head (by omega)
                  have hst := Lib.hid (fun z' : Value => hp2.out.stepI hgA (k2 * 35) z')
                  rw [hgA] at xc od
                  have hlen : k2 * 35 < xs.length := by rw [od.len]; omega
                  have q1 := od.cell (k2 * 35) (by omega)
                  rw [List.getElem?_eq_getElem hlen] at q1
                  have qf := od.frozen (k2 * 35)
                  have hle := od.le
                  generalize xs[k2 * 35] = z at q1
                  clear hp2 od hlen
                  go_wp2_with fail
                  go_roundw
                  case rel => exact ⟨k2 + 1, by omega, by go_num, Lib.hid (hst.out _)⟩
                  case measure => simp [intOf]; omega
                · obtain ⟨m3, hm3⟩ : ∃ n, Hid (∀ _ : Unit, a.parents.length = n) := ⟨_, Lib.hid fun _ => rfl⟩
                  have hqm3 : m3 ≤ 140737488355328 := by
                    rw [← hm3.out ()]
                    have := ha'.out.may.fit.ks
                    omega
                  go_wp2_with fail
                  go_loopw [22] (fun iv wr => ∃ k : Nat, k ≤ m3 ∧ iv = .int .i64 (k : Int) ∧ Hid (PS l2 h2 w16 wr SP a qp)) (fun iv _ => m3 - (intOf iv).toNat)
                  case atStart => exact ⟨0, by omega, rfl, hp2⟩
                  case round =>
                    clear hp2
                    obtain ⟨k3, hk3, rfl, hp3⟩ := hrel
                    have xc := hp3.out.blk.c36
                    rw [hm3.out ()] at xc
                    by_cases hlt : k3 < m3
                    · obtain ⟨xs, od, h8⟩ := hp3.out.ks
                      rw [hm3.out ()] at od h8
                      obtain ⟨g, hgA⟩ := od.head (by omega)
                      obtain ⟨z, hz8⟩ := h8 k3 hlt
                      have hst := Lib.hid (fun z' : Int => hp3.out.stepK hgA (k3 * 32 + 5) z')
                      rw [hgA] at xc od
                      have q1 := od.cell (k3 * 32 + 5) (by omega)
                      rw [hz8] at q1
                      have qf := od.frozen (k3 * 32 + 5)
                      have hle := od.le
                      clear hp3 od h8 hz8
                      go_wp2_with fail
                      go_region
                      go_wp2_with fail
                      go_roundw
                      case rel => exact ⟨k3 + 1, by omega, by go_num, Lib.hid (hst.out _).drew⟩
                      case measure => simp [intOf]; omega
                    · have x1 := hp3.out.blk.c1
                      obtain ⟨xs1, od1, _⟩ := hp3.out.d
                      have hnd : Hid (∀ _ : Unit, a.data.length = m0) := hm0
                      rw [hnd.out ()] at x1 od1
                      have od1' := Lib.hid od1
                      have hw16 := hp3.out.gap.size
                      go_wp2_with (first
                        | (go_at_call 26
                           refine (grown_any _ od1'.out (by have := hd8.out; rw [hnd.out ()] at this; omega) (by have := sP.out; have := lt_of_block hp3.out.blk; omega)).mono ?_
                           rintro e w17 ⟨⟨A7, n7, c7, rfl⟩, g7⟩
                           have hne7 : blockOf qp.Ad ≠ some SP := fun e => by have := (hp3.out.far _ (.inl rfl) SP e).2; omega
                           have bS := Lib.hid ((g7.block SP (lt_of_block hp3.out.blk) (fun e => hne7 e.symm)).trans hp3.out.blk)
                           have y1 : w17.cell? ⟨SP, 1, none⟩ = some (.slice qp.Ad a.data.length qp.cd) := OBlk.c1 bS.out
                           have z1 : w17.frozen? ⟨SP, 1, none⟩ = false := OBlk.fz bS.out 1
                           have hgG : Hid (Gap l2 h2 w16 (w17.setCell ⟨SP, 1, none⟩ (.slice A7 n7 c7))) := Lib.hid ((hp3.out.gap.grown g7 (fun j hj _ => by have := hp3.out.far _ (.inl rfl) j hj; have := sP.out; omega)).grown (grown_set w17 SP 1 _) (fun j hj _ => by injection hj with hj; subst hj; exact sP.out))
                           have hBG := Lib.hid (hB16.out.trans (hgG.out.below (by have := hl23.out; omega) hB16.out.size))
                           have oWG := Lib.hid (oW16.out.gap hgG.out fun j hj => .inl (by have := fW2.out j hj; have := hl23.out; omega))
                           have oIG := Lib.hid (oI16.out.gap hgG.out fun j hj => .inl (by have hj2 : gi = j := Option.some.inj hj; have := fI.out; omega))
                           have oQG := Lib.hid (oQ16.out.gap hgG.out (Nat.le_refl _))
                           have bkG : Hid (OBlk (w17.setCell ⟨SP, 1, none⟩ (.slice A7 n7 c7)) w.heap.size a p) := Lib.hid (hgG.out.keep bk16.out (lt_of_block bk16.out) (.inl (by have := hl23.out; omega)))
                           have xQG : Hid (OBlk (w17.setCell ⟨SP, 1, none⟩ (.slice A7 n7 c7)) SQ a qq) := Lib.hid (hgG.out.keep xQ16.out (lt_of_block xQ16.out) (.inr s15.out))
                           have v1 := conv_bytes (w17.setCell ⟨SP, 1, none⟩ (.slice A7 n7 c7)) L1 (some ⟨gi, 0, none⟩) ci _ (spare_byt oIG.out) hlt1.out
                           have v2 := conv_bytes (w17.setCell ⟨SP, 1, none⟩ (.slice A7 n7 c7)) L1 A1 c1 _ (show Byt (w17.setCell ⟨SP, 1, none⟩ (.slice A7 n7 c7)) (w17.setCell ⟨SP, 1, none⟩ (.slice A7 n7 c7)).heap.size A1 L1 from oWG.out.byt) hlt1.out
                           rw [hn1.out ()] at v1 v2
                           clear g7 hne7)
                        | (go_at_call 21
                           refine (clean_to _ L1 (hn1.out ()) _ _ _ oIG.out hnm.out).mono ?_
                           rintro e w' ⟨rfl, rfl⟩)
                        | (refine wpList_load_row_g rfl 31 _ rfl SQ rfl 31 _ (0, 0) _ xQG.out Tryd.underlying31 rfl (by rw [h39'.out]; exact hi39'.out) ?_)
                        | (refine wpList_load_row_g rfl 31 _ rfl w.heap.size rfl 31 _ (0, 0) _ bkG.out Tryd.underlying31 rfl (by rw [h39'.out]; exact hi39'.out) ?_)
                        | (go_at_call 14
                           refine (refSame_self _ a qq p oQG.out.objIn (enc_to ha'.out hBG.out).may.oin ha'.out.may.fit).mono ?_
                           rintro e w18 ⟨rfl, b18⟩
                           have hB18 := Lib.hid (hBG.out.trans (b18.mono hBG.out.size))
                           have oI18 := Lib.hid (spare_own (hn1.out ()) (oIG.out.below b18 fun k hk => (oIG.out.lt k hk).2))
                           have oQ18 := Lib.hid (oQG.out.below b18)
                           have bk18 : Hid (OBlk w18 w.heap.size a p) := Lib.hid (bkG.out.below b18 (lt_of_block bkG.out))
                           have xQ18 : Hid (OBlk w18 SQ a qq) := Lib.hid (xQG.out.below b18 (lt_of_block xQG.out))
                           have s18 : Hid (h2 ≤ w18.heap.size) := Lib.hid (by have := s16.out; have := hgG.out.size; have := b18.size; omega)
                           clear b18 v1 v2 oIG oQG bkG xQG oWG))
                      go_loopw [23] (fun iv wr => ∃ (k : Nat) (xs : List Value), k ≤ n1 ∧ iv = .int .i64 (k : Int) ∧ Hid (Own wr l3 5 1 (some ⟨gi, 0, none⟩) n1 ci xs) ∧ Hid (Has8 xs 1 0 n1 .u8) ∧ Hid (Gap l3 l2 w18 wr)) (fun iv _ => n1 - (intOf iv).toNat)
                      case atStart => exact ⟨0, _, by omega, rfl, oI18, Lib.hid (has8_u8 L1 (hn1.out ())), Lib.hid (Gap.refl _)⟩
                      case round =>
                        clear oI18
                        obtain ⟨k, xs, hk, rfl, ho, h8, hg⟩ := hrel
                        by_cases hlt : k < n1
                        · have hk8 : k < 8192 := by have := hx1.out; omega
                          obtain ⟨z, hz8⟩ := h8.out k hlt
                          have q1 := ho.out.cell k (by omega)
                          rw [show k = k * 1 + 0 by omega, hz8, show k * 1 + 0 = k by omega] at q1
                          have qf := ho.out.frozen k
                          have hcap := ho.out.le
                          have hnx := Lib.hid (fun z' : Int => show Own (wr.setCell ⟨gi, k, none⟩ (.int .u8 z')) l3 5 1 (some ⟨gi, 0, none⟩) n1 ci (xs.set k (.int .u8 z')) from ho.out.set k _)
                          have hn8 := Lib.hid (fun z' : Int => h8.out.put k z')
                          have hng := Lib.hid (fun z' : Int => hg.out.grown (grown_set wr gi k (.int .u8 z')) (fun j hj _ => by injection hj with hj; subst hj; exact fI.out))
                          clear hz8 hcap
                          go_wp2_with fail
                          go_roundw
                          case rel => exact ⟨k + 1, _, by omega, by go_num, Lib.hid (hnx.out _), Lib.hid (hn8.out _), Lib.hid (hng.out _)⟩
                          case measure => simp [intOf]; omega
                        · have hBz := Lib.hid (hB18.out.trans (hg.out.below (by have := hl23.out; omega) hB18.out.size))
                          have oQz := Lib.hid (oQ18.out.gap (hi := l2) hg.out (by have := sP.out; omega))
                          have bkz : Hid (OBlk wr w.heap.size a p) := Lib.hid (hg.out.keep bk18.out (lt_of_block bk18.out) (.inl (by have := hl23.out; omega)))
                          have xQz : Hid (OBlk wr SQ a qq) := Lib.hid (hg.out.keep xQ18.out (lt_of_block xQ18.out) (.inr (by have := sP.out; have := s15.out; omega)))
                          go_wp2_with (first
                            | (refine wpList_load_row_g rfl 31 _ rfl SQ rfl 31 _ (0, 0) _ xQz.out Tryd.underlying31 rfl (by rw [h39'.out]; exact hi39'.out) ?_)
                            | (refine wpList_load_row_g rfl 31 _ rfl w.heap.size rfl 31 _ (0, 0) _ bkz.out Tryd.underlying31 rfl (by rw [h39'.out]; exact hi39'.out) ?_)
                            | (go_at_call 14
                               refine (refSame_self _ a qq p oQz.out.objIn (enc_to ha'.out hBz.out).may.oin ha'.out.may.fit).mono ?_
                               rintro e w19 ⟨rfl, b19⟩
                               have hB19 := Lib.hid (hBz.out.trans (b19.mono hBz.out.size))
                               clear b19))
                          go_ret
                          exact ⟨rfl, hB19.out⟩
end Go.Proofs.YtkjndgapejbgcaaDoor

namespace Go.Proofs.YtkjndgapejbgcaaDoor
open Go.RowKit Go.ChangeShapes Go.WideShapes

theorem objectFresh_any (w : World) (a b : ObjT) (p q : Lay) (ha : EncIn w a p) (hb : EncIn w b q) :
    Calls Tryd.prog 8 #[.agg (ocells a p).toArray, .agg (ocells b q).toArray] w fun e w' => e = .returned (.bool true) ∧ Below w.heap.size w w' := by
  cases hf1 : fewB a with
  | false => exact fresh_few0 w a b p q ha hb hf1
  | true =>
    cases hf2 : fewB b with
    | false => exact fresh_few1 w a b p q ha hb hf1 hf2
    | true =>
      by_cases hE : encE a = 0
      · exact fresh_ok w a b p q ha hb hf1 hf2 hE
      · exact fresh_bad w a b p q ha hb hf1 hf2 hE
set_option maxRecDepth 100000 in
theorem objectFresh_calls {H : Type} {enc : TypeId × Value → H} (W : World) (base : Nat) (v0 v1 : Value) (d0 d1 : DataW H) (p0 p1 : List MemPlace)
    (o0 : Value.okWide Tryd.prog W .any base 31 v0) (h0 : DataW.Trod enc Tryd.prog W 0 (fun _ => true) true 31 v0 d0 p0)
    (o1 : Value.okWide Tryd.prog W .any base 31 v1) (h1 : DataW.Trod enc Tryd.prog W 0 (fun _ => true) true 31 v1 d1 p1)
    (hsz : (DataW.weightsEach Tryd.prog [31, 31] [d0, d1]).all (· ≤ reachBytes) = true)
    (ha : Lib.VarReads Tryd.prog W "unicode/utf8.acceptRanges" Lib.acceptData) (hf : Lib.VarReads Tryd.prog W "unicode/utf8.first" Lib.firstData) :
    Calls Tryd.prog 8 #[v0, v1] W fun e W' => e = .returned (.bool true) ∧ Below W.heap.size W W' := by
  obtain ⟨a, p, rfl, hi, fa, hg⟩ := object_open W base v0 d0 p0 o0 h0 (jj := 0) hsz rfl rfl
  obtain ⟨b, q, rfl, hi2, fb, hg2⟩ := object_open W base v1 d1 p1 o1 h1 (jj := 1) hsz rfl rfl
  exact objectFresh_any W a b p q (enc_in (u8t_of ⟨ha, hf⟩) hi fa hg) (enc_in (u8t_of ⟨ha, hf⟩) hi2 fb hg2)
end Go.Proofs.YtkjndgapejbgcaaDoor

/- ObjectFresh: the law's walk. -/
import Derived.Test.YtkjndgapejbgcaaDoorPkE5
import Derived.BigRegion

namespace Go.Proofs.YtkjndgapejbgcaaDoor
open Go.RowKit
set_option linter.unusedSimpArgs false
set_option linter.unusedVariables false

set_option maxRecDepth 100000 in
set_option maxHeartbeats 8000000 in
theorem fresh_few0 (w : World) (a b : ObjT) (p q : Lay) (ha : EncIn w a p) (hb : EncIn w b q) (hf1 : fewB a = false) :
    Calls Tryd.prog 8 #[.agg (ocells a p).toArray, .agg (ocells b q).toArray] w fun e w' => e = .returned (.bool true) ∧ Below w.heap.size w w' := by
  have hz := zeroO
  have hi39 : (Tryd.prog.info? 31).map (·.size) = some 39 := by kernel_rfl
  have hi39' := Lib.hid hi39
  have h39' := Lib.hid (fun (x : ObjT) (q : Lay) => show (ocells x q).toArray.size = 39 by simp [ocells_length])
  have hone' := Lib.hid (fun (x : ObjT) (q : Lay) => show (ocells x q).toArray.all (·.oneCell') = true from all_oneCell_toArray (ocells_one x q))
  have hB : Below w.heap.size w ((w.alloc (.cells (ocells a p).toArray 31)).alloc (.cells (ocells b q).toArray 31)) := ((Below.refl _ _).alloc (Nat.le_refl _) _).alloc (by simp) _
  have hs0 := Lib.hid (show UnS w ((w.alloc (.cells (ocells a p).toArray 31)).alloc (.cells (ocells b q).toArray 31)) a b p q from ⟨hB, heap_alloc2_old w _ _, heap_alloc2_new w _ _⟩)
  have ha' := Lib.hid ha
  have hb' := Lib.hid hb
  have hf1 := Lib.hid hf1
  clear ha hb hi39 hB
  go_enter Tryd.func8, Tryd.ntmps8
  go_wp2_with (first | (refine wpList_load_row_g rfl 31 _ rfl w.heap.size rfl 31 _ (0, 0) _ hs0.out.oa Tryd.underlying31 rfl (by rw [h39'.out]; exact hi39'.out) ?_))
  refine (few_any _ a p hf1.out).mono ?_
  rintro e w1 ⟨rfl, b1⟩
  have hs1 := Lib.hid (hs0.out.below b1)
  clear hs0 b1
  go_wp2_with fail
  go_ret
  exact ⟨rfl, hs1.out.bel⟩
set_option maxRecDepth 100000 in
set_option maxHeartbeats 8000000 in
theorem fresh_few1 (w : World) (a b : ObjT) (p q : Lay) (ha : EncIn w a p) (hb : EncIn w b q) (hf1 : fewB a = true) (hf2 : fewB b = false) :
    Calls Tryd.prog 8 #[.agg (ocells a p).toArray, .agg (ocells b q).toArray] w fun e w' => e = .returned (.bool true) ∧ Below w.heap.size w w' := by
  have hz := zeroO
  have hi39 : (Tryd.prog.info? 31).map (·.size) = some 39 := by kernel_rfl
  have hi39' := Lib.hid hi39
  have h39' := Lib.hid (fun (x : ObjT) (q : Lay) => show (ocells x q).toArray.size = 39 by simp [ocells_length])
  have hone' := Lib.hid (fun (x : ObjT) (q : Lay) => show (ocells x q).toArray.all (·.oneCell') = true from all_oneCell_toArray (ocells_one x q))
  have hB : Below w.heap.size w ((w.alloc (.cells (ocells a p).toArray 31)).alloc (.cells (ocells b q).toArray 31)) := ((Below.refl _ _).alloc (Nat.le_refl _) _).alloc (by simp) _
  have hs0 := Lib.hid (show UnS w ((w.alloc (.cells (ocells a p).toArray 31)).alloc (.cells (ocells b q).toArray 31)) a b p q from ⟨hB, heap_alloc2_old w _ _, heap_alloc2_new w _ _⟩)
  have ha' := Lib.hid ha
  have hb' := Lib.hid hb
  have hf1 := Lib.hid hf1
  have hf2 := Lib.hid hf2
  clear ha hb hi39 hB
  go_enter Tryd.func8, Tryd.ntmps8
  go_wp2_with (first | (refine wpList_load_row_g rfl 31 _ rfl w.heap.size rfl 31 _ (0, 0) _ hs0.out.oa Tryd.underlying31 rfl (by rw [h39'.out]; exact hi39'.out) ?_))
  refine (few_any _ a p hf1.out).mono ?_
  rintro e w1 ⟨rfl, b1⟩
  have hs1 := Lib.hid (hs0.out.below b1)
  clear hs0 b1
  go_wp2_with (first | (refine wpList_load_row_g rfl 31 _ rfl (w.heap.size + 1) rfl 31 _ (0, 0) _ hs1.out.ob Tryd.underlying31 rfl (by rw [h39'.out]; exact hi39'.out) ?_))
  refine (few_any _ b q hf2.out).mono ?_
  rintro e w2 ⟨rfl, b2⟩
  have hs2 := Lib.hid (hs1.out.below b2)
  clear hs1 b2
  go_wp2_with fail
  go_ret
  exact ⟨rfl, hs2.out.bel⟩
set_option maxRecDepth 100000 in
set_option maxHeartbeats 8000000 in
theorem fresh_bad (w : World) (a b : ObjT) (p q : Lay) (ha : EncIn w a p) (hb : EncIn w b q) (hf1 : fewB a = true) (hf2 : fewB b = true) (hE0 : encE a ≠ 0) :
    Calls Tryd.prog 8 #[.agg (ocells a p).toArray, .agg (ocells b q).toArray] w fun e w' => e = .returned (.bool true) ∧ Below w.heap.size w w' := by
  have hz := zeroO
  have hi39 : (Tryd.prog.info? 31).map (·.size) = some 39 := by kernel_rfl
  have hi39' := Lib.hid hi39
  have h39' := Lib.hid (fun (x : ObjT) (q : Lay) => show (ocells x q).toArray.size = 39 by simp [ocells_length])
  have hone' := Lib.hid (fun (x : ObjT) (q : Lay) => show (ocells x q).toArray.all (·.oneCell') = true from all_oneCell_toArray (ocells_one x q))
  have hB : Below w.heap.size w ((w.alloc (.cells (ocells a p).toArray 31)).alloc (.cells (ocells b q).toArray 31)) := ((Below.refl _ _).alloc (Nat.le_refl _) _).alloc (by simp) _
  have hs0 := Lib.hid (show UnS w ((w.alloc (.cells (ocells a p).toArray 31)).alloc (.cells (ocells b q).toArray 31)) a b p q from ⟨hB, heap_alloc2_old w _ _, heap_alloc2_new w _ _⟩)
  have ha' := Lib.hid ha
  have hb' := Lib.hid hb
  have hf1 := Lib.hid hf1
  have hf2 := Lib.hid hf2
  obtain ⟨E, hE⟩ : ∃ E, Hid (∀ _ : Unit, encE a = E) := ⟨_, Lib.hid fun _ => rfl⟩
  obtain ⟨L1, hL1⟩ : ∃ L, Hid (∀ _ : Unit, encL a = L) := ⟨_, Lib.hid fun _ => rfl⟩
  obtain ⟨n1, hn1⟩ : ∃ n, Hid (∀ _ : Unit, L1.length = n) := ⟨_, Lib.hid fun _ => rfl⟩
  obtain ⟨F, hF⟩ : ∃ E, Hid (∀ _ : Unit, encE b = E) := ⟨_, Lib.hid fun _ => rfl⟩
  obtain ⟨L2, hL2⟩ : ∃ L, Hid (∀ _ : Unit, encL b = L) := ⟨_, Lib.hid fun _ => rfl⟩
  obtain ⟨n2, hn2⟩ : ∃ n, Hid (∀ _ : Unit, L2.length = n) := ⟨_, Lib.hid fun _ => rfl⟩
  have hx1 : Hid (n1 ≤ 8192) := Lib.hid (by rw [← hn1.out (), ← hL1.out ()]; exact encL_len a)
  have hlt1 : Hid (∀ x ∈ L1, x < 256) := Lib.hid (by rw [← hL1.out ()]; exact encL_lt ha.good ha.may.fit.b ha.good.kind)
  have hlt2 : Hid (∀ x ∈ L2, x < 256) := Lib.hid (by rw [← hL2.out ()]; exact encL_lt hb.good hb.may.fit.b hb.good.kind)
  have hE2 : ((E : Int) != 0) = true := by have := hE.out (); simp [bne_iff_ne]; omega
  clear hE0
  clear ha hb hi39 hB
  go_enter Tryd.func8, Tryd.ntmps8
  go_wp2_with (first | (refine wpList_load_row_g rfl 31 _ rfl w.heap.size rfl 31 _ (0, 0) _ hs0.out.oa Tryd.underlying31 rfl (by rw [h39'.out]; exact hi39'.out) ?_))
  refine (few_any _ a p hf1.out).mono ?_
  rintro e w1 ⟨rfl, b1⟩
  have hs1 := Lib.hid (hs0.out.below b1)
  clear hs0 b1
  go_wp2_with (first | (refine wpList_load_row_g rfl 31 _ rfl (w.heap.size + 1) rfl 31 _ (0, 0) _ hs1.out.ob Tryd.underlying31 rfl (by rw [h39'.out]; exact hi39'.out) ?_))
  refine (few_any _ b q hf2.out).mono ?_
  rintro e w2 ⟨rfl, b2⟩
  have hs2 := Lib.hid (hs1.out.below b2)
  clear hs1 b2
  go_wp2_with (first | (refine wpList_load_row_g rfl 31 _ rfl w.heap.size rfl 31 _ (0, 0) _ hs2.out.oa Tryd.underlying31 rfl (by rw [h39'.out]; exact hi39'.out) ?_))
  refine (renc_l _ a p (enc_to ha'.out hs2.out.bel) (hE.out ()) (hL1.out ()) (hn1.out ())).mono ?_
  rintro e w3 ⟨⟨A1, c1, rfl, o1⟩, b3⟩
  have hs3 := Lib.hid (hs2.out.below b3)
  have oW3 := Lib.hid o1
  clear hs2 b3 o1
  go_wp2_with (first | (refine wpList_load_row_g rfl 31 _ rfl w.heap.size rfl 31 _ (0, 0) _ hs3.out.oa Tryd.underlying31 rfl (by rw [h39'.out]; exact hi39'.out) ?_))
  refine (copied_any _ a p (enc_to ha'.out hs3.out.bel).may.oin ha'.out.may.fit).mono ?_
  rintro e w4 ⟨⟨p4, rfl, l4⟩, b4⟩
  have hs4 := Lib.hid (hs3.out.below b4)
  have oW4 := Lib.hid (oW3.out.below b4 fun k hk => (oW3.out.lt k hk).2)
  have e4 : Hid (EncIn w4 a p4) := Lib.hid ⟨⟨u8t_keep ha'.out.may.tabs hs4.out.bel, l4.objIn, ha'.out.may.fit, ha'.out.may.ps, ha'.out.may.note⟩, ha'.out.good⟩
  clear hs3 b4 oW3 l4
  go_wp2_with (first | fail)
  refine (enc_l w4 a p4 e4.out (hE.out ()) (hL1.out ()) (hn1.out ())).mono ?_
  rintro e w5 ⟨⟨A2, c2, rfl, o2⟩, b5⟩
  have hs5 := Lib.hid (hs4.out.below b5)
  obtain ⟨lo, hlo⟩ : ∃ lo, Hid (w4.heap.size = lo) := ⟨_, Lib.hid rfl⟩
  obtain ⟨hi, hhi⟩ : ∃ hi, Hid (w5.heap.size = hi) := ⟨_, Lib.hid rfl⟩
  have hlh : Hid (lo ≤ hi) := Lib.hid (by rw [← hlo.out, ← hhi.out]; exact b5.size)
  have hlw : Hid (w.heap.size + 2 ≤ lo) := Lib.hid (by have := lt_of_block hs4.out.ob; rw [← hlo.out]; omega)
  have fW : Hid (∀ k, blockOf A1 = some k → k < lo) := Lib.hid fun k hk => by rw [← hlo.out]; exact (oW4.out.lt k hk).2
  have fA : Hid (∀ k, blockOf A2 = some k → lo ≤ k ∧ k < hi) := Lib.hid fun k hk => by have := o2.lt k hk; rw [hlo.out, hhi.out] at this; exact this
  have oW5 := Lib.hid (oW4.out.below b5 fun k hk => (oW4.out.lt k hk).2)
  have oA5 : Hid (Own w5 lo 5 1 A2 n1 c2 (u8s L1)) := Lib.hid (by rw [← hlo.out]; exact o2)
  clear hs4 b5 oW4 o2 e4
  go_wp2_with (first | (refine wpList_load_row_g rfl 31 _ rfl w.heap.size rfl 31 _ (0, 0) _ hs5.out.oa Tryd.underlying31 rfl (by rw [h39'.out]; exact hi39'.out) ?_))
  refine (copied_any _ a p (enc_to ha'.out hs5.out.bel).may.oin ha'.out.may.fit).mono ?_
  rintro e w6 ⟨⟨p6, rfl, l6⟩, b6⟩
  have hs6 := Lib.hid (hs5.out.below b6)
  have oW6 := Lib.hid (oW5.out.below b6 fun k hk => (oW5.out.lt k hk).2)
  have oA6 := Lib.hid (oA5.out.below b6 fun k hk => (oA5.out.lt k hk).2)
  have e6 : Hid (EncIn w6 a p6) := Lib.hid ⟨⟨u8t_keep ha'.out.may.tabs hs6.out.bel, l6.objIn, ha'.out.may.fit, ha'.out.may.ps, ha'.out.may.note⟩, ha'.out.good⟩
  have hh6 : Hid (hi ≤ w6.heap.size) := Lib.hid (by rw [← hhi.out]; exact b6.size)
  clear hs5 b6 oW5 oA5 l6
  go_wp2_with (first | fail)
  refine (enc_l w6 a p6 e6.out (hE.out ()) (hL1.out ()) (hn1.out ())).mono ?_
  rintro e w7 ⟨⟨A3, c3, rfl, o3⟩, b7⟩
  have hs7 := Lib.hid (hs6.out.below b7)
  have oW7 := Lib.hid (oW6.out.below b7 fun k hk => (oW6.out.lt k hk).2)
  have oA7 := Lib.hid (oA6.out.below b7 fun k hk => (oA6.out.lt k hk).2)
  have oB7 := Lib.hid (o3.base hh6.out)
  have hh7 : Hid (hi ≤ w7.heap.size) := Lib.hid (Nat.le_trans hh6.out b7.size)
  clear hs6 b7 oW6 oA6 o3 e6 hh6
  go_wp2_with (first | (refine wpList_load_row_g rfl 31 _ rfl (w.heap.size + 1) rfl 31 _ (0, 0) _ hs7.out.ob Tryd.underlying31 rfl (by rw [h39'.out]; exact hi39'.out) ?_))
  refine (copied_any _ b q (enc_to hb'.out hs7.out.bel).may.oin hb'.out.may.fit).mono ?_
  rintro e w8 ⟨⟨p8, rfl, l8⟩, b8⟩
  have hs8 := Lib.hid (hs7.out.below b8)
  have oW8 := Lib.hid (oW7.out.below b8 fun k hk => (oW7.out.lt k hk).2)
  have oA8 := Lib.hid (oA7.out.below b8 fun k hk => (oA7.out.lt k hk).2)
  have oB8 := Lib.hid (oB7.out.below b8 fun k hk => (oB7.out.lt k hk).2)
  have e8 : Hid (EncIn w8 b p8) := Lib.hid ⟨⟨u8t_keep hb'.out.may.tabs hs8.out.bel, l8.objIn, hb'.out.may.fit, hb'.out.may.ps, hb'.out.may.note⟩, hb'.out.good⟩
  have hh8 : Hid (hi ≤ w8.heap.size) := Lib.hid (Nat.le_trans hh7.out b8.size)
  clear hs7 b8 oW7 oA7 oB7 l8 hh7
  go_wp2_with (first | fail)
  refine (enc_l w8 b p8 e8.out (hF.out ()) (hL2.out ()) (hn2.out ())).mono ?_
  rintro e w9 ⟨⟨A4, c4, rfl, o4⟩, b9⟩
  have hs9 := Lib.hid (hs8.out.below b9)
  have oW9 := Lib.hid (oW8.out.below b9 fun k hk => (oW8.out.lt k hk).2)
  have oA9 := Lib.hid (oA8.out.below b9 fun k hk => (oA8.out.lt k hk).2)
  have oB9 := Lib.hid (oB8.out.below b9 fun k hk => (oB8.out.lt k hk).2)
  have oC9 := Lib.hid (o4.base hh8.out)
  have hh9 : Hid (hi ≤ w9.heap.size) := Lib.hid (Nat.le_trans hh8.out b9.size)
  clear hs8 b9 oW8 oA8 oB8 o4 e8 hh8
  go_wp2_with (first | (refine wpList_load_row_g rfl 31 _ rfl (w.heap.size + 1) rfl 31 _ (0, 0) _ hs9.out.ob Tryd.underlying31 rfl (by rw [h39'.out]; exact hi39'.out) ?_))
  refine (renc_l _ b q (enc_to hb'.out hs9.out.bel) (hF.out ()) (hL2.out ()) (hn2.out ())).mono ?_
  rintro e w10 ⟨⟨A5, c5, rfl, o5⟩, b10⟩
  have hs10 := Lib.hid (hs9.out.below b10)
  have oW10 := Lib.hid (oW9.out.below b10 fun k hk => (oW9.out.lt k hk).2)
  have oA10 := Lib.hid (oA9.out.below b10 fun k hk => (oA9.out.lt k hk).2)
  have oB10 := Lib.hid (oB9.out.below b10 fun k hk => (oB9.out.lt k hk).2)
  have oC10 := Lib.hid (oC9.out.below b10 fun k hk => (oC9.out.lt k hk).2)
  have oT10 := Lib.hid (o5.base hh9.out)
  have hh10 : Hid (hi ≤ w10.heap.size) := Lib.hid (Nat.le_trans hh9.out b10.size)
  clear hs9 b10 oW9 oA9 oB9 oC9 o5 hh9
  go_wp2_with fail
  go_loopw [15] (fun iv wr => ∃ (k : Nat) (xs : List Value), k ≤ n1 ∧ iv = .int .i64 (k : Int) ∧ Hid (Own wr lo 5 1 A2 n1 c2 xs) ∧ Hid (Has8 xs 1 0 n1 .u8) ∧ Hid (Gap lo hi w10 wr)) (fun iv _ => n1 - (intOf iv).toNat)
  case atStart => exact ⟨0, _, by omega, rfl, oA10, Lib.hid (has8_u8 L1 (hn1.out ())), Lib.hid (Gap.refl _)⟩
  case round =>
    clear oA10
    obtain ⟨k, xs, hk, rfl, ho, h8, hg⟩ := hrel
    by_cases hlt : k < n1
    · have hk8 : k < 8192 := by have := hx1.out; omega
      obtain ⟨g, hgA⟩ := ho.out.head (by omega)
      subst hgA
      obtain ⟨z, hz8⟩ := h8.out k hlt
      have q1 := ho.out.cell k (by omega)
      rw [show k = k * 1 + 0 by omega, hz8, show k * 1 + 0 = k by omega] at q1
      have qf := ho.out.frozen k
      have fg := fA.out g rfl
      have hcap := ho.out.le
      have hnx : ∀ z', Hid (Own (wr.setCell ⟨g, k, none⟩ (.int .u8 z')) lo 5 1 (some ⟨g, 0, none⟩) n1 c2 (xs.set k (.int .u8 z'))) := fun z' => Lib.hid (ho.out.set k _)
      have hn8 : ∀ z', Hid (Has8 (xs.set k (.int .u8 z')) 1 0 n1 .u8) := fun z' => Lib.hid (h8.out.put k z')
      have hng : ∀ z', Hid (Gap lo hi w10 (wr.setCell ⟨g, k, none⟩ (.int .u8 z'))) := fun z' => Lib.hid (hg.out.grown (grown_set wr g k _) (fun j hj _ => by injection hj with hj; omega))
      have hnx' := Lib.hid hnx
      have hn8' := Lib.hid hn8
      have hng' := Lib.hid hng
      clear hnx hn8 hng hz8 hcap
      go_wp2_with fail
      go_roundw
      case rel => exact ⟨k + 1, _, by omega, by go_num, hnx'.out _, hn8'.out _, hng'.out _⟩
      case measure => simp [intOf]; omega
    · go_wp2_with (first
        | (go_at_call 26
           refine (grown_any wr ho.out (by have := hx1.out; omega) (by have := hg.out.size; have := hh10.out; have := hlh.out; omega)).mono ?_
           rintro e w11 ⟨⟨A6, n6, c6, rfl⟩, g6⟩
           have hg6 : Hid (Gap lo hi w10 w11) := Lib.hid (hg.out.grown g6 (fun j hj _ => fA.out j hj))
           have hb6 : Hid (Below w.heap.size w w11) := Lib.hid (hs10.out.bel.trans (hg6.out.below (by have := hlw.out; omega) hs10.out.bel.size))
           have oW := Lib.hid (oW10.out.gap hg6.out fun j hj => .inl (fW.out j hj))
           have oB := Lib.hid (oB10.out.gap hg6.out fun j hj => .inr (oB10.out.lt j hj).1)
           have oC := Lib.hid (oC10.out.gap hg6.out fun j hj => .inr (oC10.out.lt j hj).1)
           have oT := Lib.hid (oT10.out.gap hg6.out fun j hj => .inr (oT10.out.lt j hj).1)
           have v1 := conv_bytes w11 L1 A3 c3 _ (show Byt w11 w11.heap.size A3 L1 from oB.out.byt) hlt1.out
           have v2 := conv_bytes w11 L1 A1 c1 _ (show Byt w11 w11.heap.size A1 L1 from oW.out.byt) hlt1.out
           have v3 := conv_bytes w11 L2 A4 c4 _ (show Byt w11 w11.heap.size A4 L2 from oC.out.byt) hlt2.out
           have v4 := conv_bytes w11 L2 A5 c5 _ (show Byt w11 w11.heap.size A5 L2 from oT.out.byt) hlt2.out
           rw [hn1.out ()] at v1 v2
           rw [hn2.out ()] at v3 v4
           clear g6 oB oC oT))
      go_ret
      exact ⟨rfl, hb6.out⟩
end Go.Proofs.YtkjndgapejbgcaaDoor

/- ObjectUnlike: the law's walk. A call that changes a range of one block, and makes memory: what stands. No program is named here. -/
import Derived.Test.YtkjndgapejbgcaaDoorPkA25
import Derived.Deep.RegionHeld3
import Derived.Test.YtkjndgapejbgcaaDoorPkA2
import Derived.Deep.MidRow

namespace Go.Proofs.YtkjndgapejbgcaaDoor
open Go.RowKit
set_option linter.unusedSimpArgs false
set_option linter.unusedVariables false

section
variable {P : Program} {ops : Array Oper} {S : World → Prop} {op : Oper} {a : Act}
theorem yieldsIf_mv (hw : Region.wanted op (yielded ops a.tmps) = true) (x : Operand) (ho : op.op = .move x) (v : Value) (hx : a.eval x = v) : YieldsIf P ops S op v a :=
  .inl ⟨hw, fun w _ => by unfold execOp; simp [ho, hx]⟩
theorem yieldsIf_conv (hw : Region.wanted op (yielded ops a.tmps) = true) (t t' : TypeId) (x : Operand) (ho : op.op = .convert t t' x) (u : Value) (hx : a.eval x = u) (v : Value) (hr : ∀ w, S w → (convert t t' u).run P w = .ok v w) : YieldsIf P ops S op v a :=
  .inl ⟨hw, fun w hw' => by unfold execOp; simp [ho, hx, hr w hw']⟩
theorem yieldsIf_bin (hw : Region.wanted op (yielded ops a.tmps) = true) (bo : BinOp) (t t2 : TypeId) (x y : Operand) (ho : op.op = .binOp bo t x y t2) (u1 u2 : Value) (hx : a.eval x = u1) (hy : a.eval y = u2) (v : Value)
    (hg : ∀ w, (eqGuard bo t x y u1 u2).run P w = .ok () w) (hr : ∀ w, S w → (binOp bo t u1 u2).run P w = .ok v w) : YieldsIf P ops S op v a :=
  .inl ⟨hw, fun w hw' => by unfold execOp; simp [ho, hx, hy, hg w, hr w hw']⟩
end
theorem OBlk.rangeO {w : World} {g : Nat} {o : ObjT} {p : Lay} (h : OBlk w g o p) : w.rangeAt g 0 (ocells o p) := fun j v hv => by
  rw [Nat.zero_add]
  exact h.cell hv
/-- Two objects in the call's first blocks. -/
structure UnS (w W : World) (a b : ObjT) (p q : Lay) : Prop where
  bel : Below w.heap.size w W
  oa : OBlk W w.heap.size a p
  ob : OBlk W (w.heap.size + 1) b q
theorem UnS.below {w W W' : World} {a b : ObjT} {p q : Lay} (h : UnS w W a b p q) (hb : Below W.heap.size W W') : UnS w W' a b p q :=
  ⟨h.bel.trans (hb.mono h.bel.size), h.oa.below hb (lt_of_block h.oa), h.ob.below hb (lt_of_block h.ob)⟩
theorem enc_to {w W : World} {o : ObjT} {p : Lay} (h : EncIn w o p) (hb : Below w.heap.size w W) : EncIn W o p :=
  ⟨⟨u8t_keep h.may.tabs hb, (h.may.oin.below hb).mono hb.size, h.may.fit, h.may.ps, h.may.note⟩, h.good⟩
theorem encode_bad (w : World) (o : ObjT) (p : Lay) (hm : EncIn w o p) {E : Nat} (h : encE o = E) (h0 : E ≠ 0) :
    Calls Tryd.prog 12 #[.agg (ocells o p).toArray] w fun e w' => (∃ A c, e = .returned (.tuple #[.slice A 0 c, .int .i64 (E : Int)])) ∧ Below w.heap.size w w' := by
  refine (encode_any w o p hm).mono ?_
  rintro e w' ⟨⟨A, c, rfl, _⟩, hb⟩
  have hl : encL o = [] := by unfold encL; rw [if_neg (by omega)]
  exact ⟨⟨A, c, by rw [hl, h]; rfl⟩, hb⟩
theorem encode_ok (w : World) (o : ObjT) (p : Lay) (hm : EncIn w o p) (h : encE o = 0) {n : Nat} (hn : (layL o).length = n) :
    Calls Tryd.prog 12 #[.agg (ocells o p).toArray] w fun e w' => (∃ A c, e = .returned (.tuple #[.slice A n c, .int .i64 0]) ∧ Own w' w.heap.size 5 1 A n c (u8s (layL o))) ∧ Below w.heap.size w w' := by
  subst hn
  refine (encode_any w o p hm).mono ?_
  rintro e w' ⟨⟨A, c, rfl, ho⟩, hb⟩
  have hl : encL o = layL o := by unfold encL; rw [if_pos h]
  rw [hl] at ho ⊢
  exact ⟨⟨A, c, by rw [h]; rfl, ho⟩, hb⟩
theorem rchk_to {w W : World} {o : ObjT} {p : Lay} (h : EncIn w o p) (hb : Below w.heap.size w W) {E : Nat} (hE : encE o = E) :
    Calls Tryd.prog 13 #[.agg (ocells o p).toArray] W fun e w' => e = .returned (.int .i64 (E : Int)) ∧ Below W.heap.size W w' := by
  rw [← hE, encE_eq]
  exact rchk_any W o p ⟨(h.may.oin.below hb).mono hb.size, h.may.fit, h.good⟩

set_option maxRecDepth 100000 in
set_option maxHeartbeats 4000000 in
theorem unlike_nn (w : World) (a b : ObjT) (p q : Lay) (ha : EncIn w a p) (hb : EncIn w b q) (haz : encE a ≠ 0) (hbz : encE b ≠ 0) :
    Calls Tryd.prog 4 #[.agg (ocells a p).toArray, .agg (ocells b q).toArray] w fun e w' => e = .returned (.bool true) ∧ Below w.heap.size w w' := by
  have hi39 : (Tryd.prog.info? 31).map (·.size) = some 39 := by kernel_rfl
  have hi39' := Lib.hid hi39
  have h39' := Lib.hid (fun (x : ObjT) (q : Lay) => show (ocells x q).toArray.size = 39 by simp [ocells_length])
  have hB : Below w.heap.size w ((w.alloc (.cells (ocells a p).toArray 31)).alloc (.cells (ocells b q).toArray 31)) := ((Below.refl _ _).alloc (Nat.le_refl _) _).alloc (by simp) _
  have hs0 := Lib.hid (show UnS w ((w.alloc (.cells (ocells a p).toArray 31)).alloc (.cells (ocells b q).toArray 31)) a b p q from ⟨hB, heap_alloc2_old w _ _, heap_alloc2_new w _ _⟩)
  have ha' := Lib.hid ha
  have hb' := Lib.hid hb
  have ha0 := Lib.hid haz
  obtain ⟨E, haE⟩ : ∃ E, Hid (∀ _ : Unit, encE a = E) := ⟨_, Lib.hid fun _ => rfl⟩
  rw [haE.out ()] at ha0
  have qa1 : ((E : Int) == 0) = false := by have := ha0.out; simp; omega
  have qa2 : ((E : Int) != 0) = true := by have := ha0.out; simp [bne_iff_ne]; omega
  clear haz
  have hb0 := Lib.hid hbz
  obtain ⟨F, hbE⟩ : ∃ E, Hid (∀ _ : Unit, encE b = E) := ⟨_, Lib.hid fun _ => rfl⟩
  rw [hbE.out ()] at hb0
  have qb1 : ((F : Int) == 0) = false := by have := hb0.out; simp; omega
  have qb2 : ((F : Int) != 0) = true := by have := hb0.out; simp [bne_iff_ne]; omega
  clear hbz
  clear ha hb hi39 hB
  go_enter Tryd.func4, Tryd.ntmps4
  go_wp2_with (first
    | (refine wpList_load_row_g rfl 31 _ rfl w.heap.size rfl 31 _ (0, 0) _ hs0.out.oa Tryd.underlying31 rfl (by rw [h39'.out]; exact hi39'.out) ?_))
  refine (encode_bad _ a p (enc_to ha'.out hs0.out.bel) (haE.out ()) ha0.out).mono ?_
  rintro e w1 ⟨⟨Aa, ca, rfl⟩, b1⟩
  have hs1 := Lib.hid (hs0.out.below b1)
  clear hs0 b1
  go_wp2_with (first | (refine wpList_load_row_g rfl 31 _ rfl (w.heap.size + 1) rfl 31 _ (0, 0) _ hs1.out.ob Tryd.underlying31 rfl (by rw [h39'.out]; exact hi39'.out) ?_))
  refine (encode_bad _ b q (enc_to hb'.out hs1.out.bel) (hbE.out ()) hb0.out).mono ?_
  rintro e w2 ⟨⟨Ab, cb, rfl⟩, b2⟩
  have hs2 := Lib.hid (hs1.out.below b2)
  clear hs1 b2
  go_wp2_with (first | (refine wpList_load_row_g rfl 31 _ rfl w.heap.size rfl 31 _ (0, 0) _ hs2.out.oa Tryd.underlying31 rfl (by rw [h39'.out]; exact hi39'.out) ?_))
  refine (rchk_to ha'.out hs2.out.bel (haE.out ())).mono ?_
  rintro e w3 ⟨rfl, b3⟩
  have hs3 := Lib.hid (hs2.out.below b3)
  clear hs2 b3
  go_wp2_with (first | (refine wpList_load_row_g rfl 31 _ rfl (w.heap.size + 1) rfl 31 _ (0, 0) _ hs3.out.ob Tryd.underlying31 rfl (by rw [h39'.out]; exact hi39'.out) ?_))
  refine (rchk_to hb'.out hs3.out.bel (hbE.out ())).mono ?_
  rintro e w4 ⟨rfl, b4⟩
  have hs4 := Lib.hid (hs3.out.below b4)
  clear hs3 b4
  go_wp2_with fail
  go_ret
  exact ⟨rfl, hs4.out.bel⟩

set_option maxRecDepth 100000 in
set_option maxHeartbeats 4000000 in
theorem unlike_no (w : World) (a b : ObjT) (p q : Lay) (ha : EncIn w a p) (hb : EncIn w b q) (haz : encE a ≠ 0) (hbz : encE b = 0) :
    Calls Tryd.prog 4 #[.agg (ocells a p).toArray, .agg (ocells b q).toArray] w fun e w' => e = .returned (.bool true) ∧ Below w.heap.size w w' := by
  have hi39 : (Tryd.prog.info? 31).map (·.size) = some 39 := by kernel_rfl
  have hi39' := Lib.hid hi39
  have h39' := Lib.hid (fun (x : ObjT) (q : Lay) => show (ocells x q).toArray.size = 39 by simp [ocells_length])
  have hB : Below w.heap.size w ((w.alloc (.cells (ocells a p).toArray 31)).alloc (.cells (ocells b q).toArray 31)) := ((Below.refl _ _).alloc (Nat.le_refl _) _).alloc (by simp) _
  have hs0 := Lib.hid (show UnS w ((w.alloc (.cells (ocells a p).toArray 31)).alloc (.cells (ocells b q).toArray 31)) a b p q from ⟨hB, heap_alloc2_old w _ _, heap_alloc2_new w _ _⟩)
  have ha' := Lib.hid ha
  have hb' := Lib.hid hb
  have ha0 := Lib.hid haz
  obtain ⟨E, haE⟩ : ∃ E, Hid (∀ _ : Unit, encE a = E) := ⟨_, Lib.hid fun _ => rfl⟩
  rw [haE.out ()] at ha0
  have qa1 : ((E : Int) == 0) = false := by have := ha0.out; simp; omega
  have qa2 : ((E : Int) != 0) = true := by have := ha0.out; simp [bne_iff_ne]; omega
  clear haz
  have hb0 := Lib.hid hbz
  have hbE : Hid (∀ _ : Unit, encE b = 0) := Lib.hid fun _ => hb0.out
  obtain ⟨nb, hbn⟩ : ∃ n, Hid (∀ _ : Unit, (layL b).length = n) := ⟨_, Lib.hid fun _ => rfl⟩
  clear hbz
  clear ha hb hi39 hB
  go_enter Tryd.func4, Tryd.ntmps4
  go_wp2_with (first
    | (refine wpList_load_row_g rfl 31 _ rfl w.heap.size rfl 31 _ (0, 0) _ hs0.out.oa Tryd.underlying31 rfl (by rw [h39'.out]; exact hi39'.out) ?_))
  refine (encode_bad _ a p (enc_to ha'.out hs0.out.bel) (haE.out ()) ha0.out).mono ?_
  rintro e w1 ⟨⟨Aa, ca, rfl⟩, b1⟩
  have hs1 := Lib.hid (hs0.out.below b1)
  clear hs0 b1
  go_wp2_with (first | (refine wpList_load_row_g rfl 31 _ rfl (w.heap.size + 1) rfl 31 _ (0, 0) _ hs1.out.ob Tryd.underlying31 rfl (by rw [h39'.out]; exact hi39'.out) ?_))
  refine (encode_ok _ b q (enc_to hb'.out hs1.out.bel) hb0.out (hbn.out ())).mono ?_
  rintro e w2 ⟨⟨Ab, cb, rfl, ob⟩, b2⟩
  have hs2 := Lib.hid (hs1.out.below b2)
  have ob' := Lib.hid ob
  clear hs1 b2 ob
  go_wp2_with (first | (refine wpList_load_row_g rfl 31 _ rfl w.heap.size rfl 31 _ (0, 0) _ hs2.out.oa Tryd.underlying31 rfl (by rw [h39'.out]; exact hi39'.out) ?_))
  refine (rchk_to ha'.out hs2.out.bel (haE.out ())).mono ?_
  rintro e w3 ⟨rfl, b3⟩
  have hs3 := Lib.hid (hs2.out.below b3)
  have ob3' := Lib.hid (ob'.out.below b3 fun k hk => (ob'.out.lt k hk).2)
  clear ob'
  clear hs2 b3
  go_wp2_with (first | (refine wpList_load_row_g rfl 31 _ rfl (w.heap.size + 1) rfl 31 _ (0, 0) _ hs3.out.ob Tryd.underlying31 rfl (by rw [h39'.out]; exact hi39'.out) ?_))
  refine (rchk_to hb'.out hs3.out.bel (hbE.out ())).mono ?_
  rintro e w4 ⟨rfl, b4⟩
  have hs4 := Lib.hid (hs3.out.below b4)
  have ob4' := Lib.hid (ob3'.out.below b4 fun k hk => (ob3'.out.lt k hk).2)
  clear ob3'
  clear hs3 b4
  go_wp2_with fail
  go_ret
  exact ⟨rfl, hs4.out.bel⟩

set_option maxRecDepth 100000 in
set_option maxHeartbeats 4000000 in
theorem unlike_on (w : World) (a b : ObjT) (p q : Lay) (ha : EncIn w a p) (hb : EncIn w b q) (haz : encE a = 0) (hbz : encE b ≠ 0) :
    Calls Tryd.prog 4 #[.agg (ocells a p).toArray, .agg (ocells b q).toArray] w fun e w' => e = .returned (.bool true) ∧ Below w.heap.size w w' := by
  have hi39 : (Tryd.prog.info? 31).map (·.size) = some 39 := by kernel_rfl
  have hi39' := Lib.hid hi39
  have h39' := Lib.hid (fun (x : ObjT) (q : Lay) => show (ocells x q).toArray.size = 39 by simp [ocells_length])
  have hB : Below w.heap.size w ((w.alloc (.cells (ocells a p).toArray 31)).alloc (.cells (ocells b q).toArray 31)) := ((Below.refl _ _).alloc (Nat.le_refl _) _).alloc (by simp) _
  have hs0 := Lib.hid (show UnS w ((w.alloc (.cells (ocells a p).toArray 31)).alloc (.cells (ocells b q).toArray 31)) a b p q from ⟨hB, heap_alloc2_old w _ _, heap_alloc2_new w _ _⟩)
  have ha' := Lib.hid ha
  have hb' := Lib.hid hb
  have ha0 := Lib.hid haz
  have haE : Hid (∀ _ : Unit, encE a = 0) := Lib.hid fun _ => ha0.out
  obtain ⟨na, han⟩ : ∃ n, Hid (∀ _ : Unit, (layL a).length = n) := ⟨_, Lib.hid fun _ => rfl⟩
  clear haz
  have hb0 := Lib.hid hbz
  obtain ⟨F, hbE⟩ : ∃ E, Hid (∀ _ : Unit, encE b = E) := ⟨_, Lib.hid fun _ => rfl⟩
  rw [hbE.out ()] at hb0
  have qb1 : ((F : Int) == 0) = false := by have := hb0.out; simp; omega
  have qb2 : ((F : Int) != 0) = true := by have := hb0.out; simp [bne_iff_ne]; omega
  clear hbz
  clear ha hb hi39 hB
  go_enter Tryd.func4, Tryd.ntmps4
  go_wp2_with (first
    | (refine wpList_load_row_g rfl 31 _ rfl w.heap.size rfl 31 _ (0, 0) _ hs0.out.oa Tryd.underlying31 rfl (by rw [h39'.out]; exact hi39'.out) ?_))
  refine (encode_ok _ a p (enc_to ha'.out hs0.out.bel) ha0.out (han.out ())).mono ?_
  rintro e w1 ⟨⟨Aa, ca, rfl, oa⟩, b1⟩
  have hs1 := Lib.hid (hs0.out.below b1)
  have oa' := Lib.hid oa
  clear hs0 b1 oa
  go_wp2_with (first | (refine wpList_load_row_g rfl 31 _ rfl (w.heap.size + 1) rfl 31 _ (0, 0) _ hs1.out.ob Tryd.underlying31 rfl (by rw [h39'.out]; exact hi39'.out) ?_))
  refine (encode_bad _ b q (enc_to hb'.out hs1.out.bel) (hbE.out ()) hb0.out).mono ?_
  rintro e w2 ⟨⟨Ab, cb, rfl⟩, b2⟩
  have hs2 := Lib.hid (hs1.out.below b2)
  have oa2' := Lib.hid (oa'.out.below b2 fun k hk => (oa'.out.lt k hk).2)
  clear oa'
  clear hs1 b2
  go_wp2_with (first | (refine wpList_load_row_g rfl 31 _ rfl w.heap.size rfl 31 _ (0, 0) _ hs2.out.oa Tryd.underlying31 rfl (by rw [h39'.out]; exact hi39'.out) ?_))
  refine (rchk_to ha'.out hs2.out.bel (haE.out ())).mono ?_
  rintro e w3 ⟨rfl, b3⟩
  have hs3 := Lib.hid (hs2.out.below b3)
  have oa3' := Lib.hid (oa2'.out.below b3 fun k hk => (oa2'.out.lt k hk).2)
  clear oa2'
  clear hs2 b3
  go_wp2_with (first | (refine wpList_load_row_g rfl 31 _ rfl (w.heap.size + 1) rfl 31 _ (0, 0) _ hs3.out.ob Tryd.underlying31 rfl (by rw [h39'.out]; exact hi39'.out) ?_))
  refine (rchk_to hb'.out hs3.out.bel (hbE.out ())).mono ?_
  rintro e w4 ⟨rfl, b4⟩
  have hs4 := Lib.hid (hs3.out.below b4)
  have oa4' := Lib.hid (oa3'.out.below b4 fun k hk => (oa3'.out.lt k hk).2)
  clear oa3'
  clear hs3 b4
  go_wp2_with fail
  go_ret
  exact ⟨rfl, hs4.out.bel⟩

set_option maxRecDepth 100000 in
set_option maxHeartbeats 4000000 in
theorem unlike_oo (w : World) (a b : ObjT) (p q : Lay) (ha : EncIn w a p) (hb : EncIn w b q) (haz : encE a = 0) (hbz : encE b = 0) :
    Calls Tryd.prog 4 #[.agg (ocells a p).toArray, .agg (ocells b q).toArray] w fun e w' => e = .returned (.bool true) ∧ Below w.heap.size w w' := by
  have hi39 : (Tryd.prog.info? 31).map (·.size) = some 39 := by kernel_rfl
  have hi39' := Lib.hid hi39
  have h39' := Lib.hid (fun (x : ObjT) (q : Lay) => show (ocells x q).toArray.size = 39 by simp [ocells_length])
  have hB : Below w.heap.size w ((w.alloc (.cells (ocells a p).toArray 31)).alloc (.cells (ocells b q).toArray 31)) := ((Below.refl _ _).alloc (Nat.le_refl _) _).alloc (by simp) _
  have hs0 := Lib.hid (show UnS w ((w.alloc (.cells (ocells a p).toArray 31)).alloc (.cells (ocells b q).toArray 31)) a b p q from ⟨hB, heap_alloc2_old w _ _, heap_alloc2_new w _ _⟩)
  have ha' := Lib.hid ha
  have hb' := Lib.hid hb
  have ha0 := Lib.hid haz
  have haE : Hid (∀ _ : Unit, encE a = 0) := Lib.hid fun _ => ha0.out
  obtain ⟨na, han⟩ : ∃ n, Hid (∀ _ : Unit, (layL a).length = n) := ⟨_, Lib.hid fun _ => rfl⟩
  clear haz
  have hb0 := Lib.hid hbz
  have hbE : Hid (∀ _ : Unit, encE b = 0) := Lib.hid fun _ => hb0.out
  obtain ⟨nb, hbn⟩ : ∃ n, Hid (∀ _ : Unit, (layL b).length = n) := ⟨_, Lib.hid fun _ => rfl⟩
  clear hbz
  clear ha hb hi39 hB
  go_enter Tryd.func4, Tryd.ntmps4
  go_wp2_with (first
    | (refine wpList_load_row_g rfl 31 _ rfl w.heap.size rfl 31 _ (0, 0) _ hs0.out.oa Tryd.underlying31 rfl (by rw [h39'.out]; exact hi39'.out) ?_))
  refine (encode_ok _ a p (enc_to ha'.out hs0.out.bel) ha0.out (han.out ())).mono ?_
  rintro e w1 ⟨⟨Aa, ca, rfl, oa⟩, b1⟩
  have hs1 := Lib.hid (hs0.out.below b1)
  have oa' := Lib.hid oa
  clear hs0 b1 oa
  go_wp2_with (first | (refine wpList_load_row_g rfl 31 _ rfl (w.heap.size + 1) rfl 31 _ (0, 0) _ hs1.out.ob Tryd.underlying31 rfl (by rw [h39'.out]; exact hi39'.out) ?_))
  refine (encode_ok _ b q (enc_to hb'.out hs1.out.bel) hb0.out (hbn.out ())).mono ?_
  rintro e w2 ⟨⟨Ab, cb, rfl, ob⟩, b2⟩
  have hs2 := Lib.hid (hs1.out.below b2)
  have ob' := Lib.hid ob
  have oa2' := Lib.hid (oa'.out.below b2 fun k hk => (oa'.out.lt k hk).2)
  clear oa'
  clear hs1 b2 ob
  go_wp2_with (first | (refine wpList_load_row_g rfl 31 _ rfl w.heap.size rfl 31 _ (0, 0) _ hs2.out.oa Tryd.underlying31 rfl (by rw [h39'.out]; exact hi39'.out) ?_))
  refine (rchk_to ha'.out hs2.out.bel (haE.out ())).mono ?_
  rintro e w3 ⟨rfl, b3⟩
  have hs3 := Lib.hid (hs2.out.below b3)
  have oa3' := Lib.hid (oa2'.out.below b3 fun k hk => (oa2'.out.lt k hk).2)
  clear oa2'
  have ob3' := Lib.hid (ob'.out.below b3 fun k hk => (ob'.out.lt k hk).2)
  clear ob'
  clear hs2 b3
  go_wp2_with (first | (refine wpList_load_row_g rfl 31 _ rfl (w.heap.size + 1) rfl 31 _ (0, 0) _ hs3.out.ob Tryd.underlying31 rfl (by rw [h39'.out]; exact hi39'.out) ?_))
  refine (rchk_to hb'.out hs3.out.bel (hbE.out ())).mono ?_
  rintro e w4 ⟨rfl, b4⟩
  have hs4 := Lib.hid (hs3.out.below b4)
  have oa4' := Lib.hid (oa3'.out.below b4 fun k hk => (oa3'.out.lt k hk).2)
  clear oa3'
  have ob4' := Lib.hid (ob3'.out.below b4 fun k hk => (ob3'.out.lt k hk).2)
  clear ob3'
  clear hs3 b4
  obtain ⟨R, hR⟩ : ∃ R, Hid (∀ _ : Unit, sameO a b = R) := ⟨_, Lib.hid fun _ => rfl⟩
  have hcv : Hid (decide (layL a = layL b) = R) := Lib.hid (by rw [← hR.out ()]; exact layL_iff ha0.out hb0.out ha'.out.good hb'.out.good)
  have la := Lib.hid (layL_lt ha'.out.good ha'.out.may.fit.b ha'.out.good.kind)
  have lb := Lib.hid (layL_lt hb'.out.good hb'.out.may.fit.b hb'.out.good.kind)
  obtain ⟨S, hS⟩ : ∃ S : World → Prop, S = fun W => UnS w W a b p q ∧ Own W 0 5 1 Aa na ca (u8s (layL a)) ∧ Own W 0 5 1 Ab nb cb (u8s (layL b)) := ⟨_, rfl⟩
  have s0 : Hid (S w4) := Lib.hid (by rw [hS]; exact ⟨hs4.out, oa4'.out.base (Nat.zero_le _), ob4'.out.base (Nat.zero_le _)⟩)
  have sA : Hid (∀ W, S W → W.rangeAt w.heap.size 0 (ocells a p)) := Lib.hid fun W h => by rw [hS] at h; exact OBlk.rangeO h.1.oa
  have sB : Hid (∀ W, S W → W.rangeAt (w.heap.size + 1) 0 (ocells b q)) := Lib.hid fun W h => by rw [hS] at h; exact OBlk.rangeO h.1.ob
  have sL : Hid (∀ W, S W → Below w.heap.size w W) := Lib.hid fun W h => by rw [hS] at h; exact h.1.bel
  have sK : Hid (∀ W W', S W → Below W.heap.size W W' → S W') := Lib.hid fun W W' h hb => by
    rw [hS] at h ⊢
    exact ⟨h.1.below hb, h.2.1.below hb fun k hk => (h.2.1.lt k hk).2, h.2.2.below hb fun k hk => (h.2.2.lt k hk).2⟩
  have cA : Hid (∀ W, S W → (convert 24 9 (.slice Aa na ca)).run Tryd.prog W = .ok (.string (strB (layL a))) W) := Lib.hid fun W h => by
    rw [hS] at h
    have := conv_bytes W (layL a) Aa ca _ h.2.1.byt la.out
    rwa [han.out ()] at this
  have cB : Hid (∀ W, S W → (convert 24 9 (.slice Ab nb cb)).run Tryd.prog W = .ok (.string (strB (layL b))) W) := Lib.hid fun W h => by
    rw [hS] at h
    have := conv_bytes W (layL b) Ab cb _ h.2.2.byt lb.out
    rwa [hbn.out ()] at this
  have rfS : Hid (∀ W, S W → Calls Tryd.prog 14 #[.agg (ocells a p).toArray, .agg (ocells b q).toArray] W fun e w' => e = .returned (.bool R) ∧ Below W.heap.size W w') := Lib.hid fun W h => by
    rw [← hR.out ()]
    exact refSame_any W a b p q ((ha'.out.may.oin.below (sL.out W h)).mono (sL.out W h).size) ((hb'.out.may.oin.below (sL.out W h)).mono (sL.out W h).size) ha'.out.may.fit hb'.out.may.fit
  have l39 : Hid (∀ o p, (ocells o p).length = 39) := Lib.hid ocells_length
  have hq : ∀ W, (binOp .eql 9 (.string (strB (layL a))) (.string (strB (layL b)))).run Tryd.prog W = .ok (.bool R) W := fun W => by
    rw [binOp_string_eql, strB_eq _ _ la.out lb.out, hcv.out]
    rfl
  clear hS hs4 oa4' ob4' la lb
  go_wp2_with fail
  refine wp_region_held (S := S) (by kernel_rfl) ?_
  change wpAnyH _ _ _ _ _ _ _ _ (World.drew _)
  have hd : Hid (S w4.drew) := Lib.hid (sK.out _ _ s0.out (below_drewN (Below.refl _ _) 1))
  refine wpAnyH_take (i := 0) rfl (by kernel_rfl) (by kernel_rfl) (by kernel_rfl) (fun _ _ _ h => h) (yieldsIf_mv (by rfl) _ rfl (.slice Aa na ca) rfl) hd.out ?_
  refine wpAnyH_take (i := 1) rfl (by kernel_rfl) (by kernel_rfl) (by kernel_rfl) (fun _ _ _ h => h) (yieldsIf_conv (by rfl) 24 9 _ rfl (.slice Aa na ca) rfl (.string (strB (layL a))) cA.out) hd.out ?_
  refine wpAnyH_take (i := 2) rfl (by kernel_rfl) (by kernel_rfl) (by kernel_rfl) (fun _ _ _ h => h) (yieldsIf_mv (by rfl) _ rfl (.slice Ab nb cb) rfl) hd.out ?_
  refine wpAnyH_take (i := 3) rfl (by kernel_rfl) (by kernel_rfl) (by kernel_rfl) (fun _ _ _ h => h) (yieldsIf_conv (by rfl) 24 9 _ rfl (.slice Ab nb cb) rfl (.string (strB (layL b))) cB.out) hd.out ?_
  refine wpAnyH_take (i := 4) rfl (by kernel_rfl) (by kernel_rfl) (by kernel_rfl) (fun _ _ _ h => h) (yieldsIf_bin (by rfl) .eql 9 _ _ _ rfl (.string (strB (layL a))) (.string (strB (layL b))) rfl rfl (.bool R) (fun _ => rfl) (fun W _ => hq W)) hd.out ?_
  refine wpAnyH_take (i := 5) rfl (by kernel_rfl) (by kernel_rfl) (by kernel_rfl) (fun _ _ _ h => h) (yieldsIf_load_mid (by rfl) 31 _ rfl w.heap.size 0 rfl (ocells a p) _ sA.out Tryd.underlying31 rfl (by rw [l39.out]; exact hi39'.out)) hd.out ?_
  refine wpAnyH_take (i := 6) rfl (by kernel_rfl) (by kernel_rfl) (by kernel_rfl) (fun _ _ _ h => h) (yieldsIf_load_mid (by rfl) 31 _ rfl (w.heap.size + 1) 0 rfl (ocells b q) _ sB.out Tryd.underlying31 rfl (by rw [l39.out]; exact hi39'.out)) hd.out ?_
  simp only [Act.put, List.setIfInBounds_toArray, List.set_cons_zero, List.set_cons_succ]
  clear hq cA cB hcv
  refine wpAnyH_ready (rs := [7]) (by kernel_rfl) (by simp) ?_
  refine AllReadyH.cons rfl (fun K hK => ?_) AllReadyH.nil
  go_simp
  go_wp2_with (go_at_call 14; refine (rfS.out _ hd.out).mono ?_; rintro e w5 ⟨rfl, b5⟩; skip)
  have hd5 := Lib.hid (sK.out _ _ hd.out b5)
  refine hK.out _ _ hd5.out (fun _ => ?_)
  clear hK K b5
  refine wpAnyH_ready (rs := [8]) (by kernel_rfl) (by simp) ?_
  refine AllReadyH.cons rfl (fun K hK => ?_) AllReadyH.nil
  go_simp
  refine hK.out _ _ hd5.out (fun _ => ?_)
  clear hK K
  refine wpAnyH_ready (rs := [9]) (by kernel_rfl) (by simp) ?_
  refine AllReadyH.cons rfl (fun K hK => ?_) AllReadyH.nil
  go_simp
  refine hK.out _ _ hd5.out (fun _ => ?_)
  clear hK K
  refine wpAnyH_done (by kernel_rfl) ?_ _
  go_wp2_with fail
  go_ret
  exact ⟨ret_bool (by simp), sL.out _ hd5.out⟩
theorem objectUnlike_any (w : World) (a b : ObjT) (p q : Lay) (ha : EncIn w a p) (hb : EncIn w b q) :
    Calls Tryd.prog 4 #[.agg (ocells a p).toArray, .agg (ocells b q).toArray] w fun e w' => e = .returned (.bool true) ∧ Below w.heap.size w w' := by
  by_cases h1 : encE a = 0
  · by_cases h2 : encE b = 0
    · exact unlike_oo w a b p q ha hb h1 h2
    · exact unlike_on w a b p q ha hb h1 h2
  · by_cases h2 : encE b = 0
    · exact unlike_no w a b p q ha hb h1 h2
    · exact unlike_nn w a b p q ha hb h1 h2
end Go.Proofs.YtkjndgapejbgcaaDoor

namespace Go.Proofs.YtkjndgapejbgcaaDoor
open Go.RowKit

/-- Of what was there, only m cells of block g from o on may have changed. -/
structure Chg (w w' : World) (g o m : Nat) : Prop where
  os : w'.os = w.os
  tape : w'.tape = w.tape
  output : w'.output = w.output
  size : w.heap.size ≤ w'.heap.size
  block : ∀ k, k < w.heap.size → k ≠ g → w'.heap[k]? = w.heap[k]?
  cell : ∀ k, k < o ∨ o + m ≤ k → w'.cell? ⟨g, k, none⟩ = w.cell? ⟨g, k, none⟩
  frozen : ∀ k, w'.frozen? ⟨g, k, none⟩ = w.frozen? ⟨g, k, none⟩
section
variable {w w' w'' : World} {g o m : Nat}
theorem Chg.refl (w : World) (g o m : Nat) : Chg w w g o m := ⟨rfl, rfl, rfl, Nat.le_refl _, fun _ _ _ => rfl, fun _ _ => rfl, fun _ => rfl⟩
theorem Chg.trans (h : Chg w w' g o m) (h' : Chg w' w'' g o m) : Chg w w'' g o m :=
  ⟨h'.os.trans h.os, h'.tape.trans h.tape, h'.output.trans h.output, Nat.le_trans h.size h'.size, fun k hk hg => (h'.block k (Nat.lt_of_lt_of_le hk h.size) hg).trans (h.block k hk hg), fun k hk => (h'.cell k hk).trans (h.cell k hk), fun k => (h'.frozen k).trans (h.frozen k)⟩
theorem Chg.of_below (h : Below w.heap.size w w') (hg : g < w.heap.size) : Chg w w' g o m :=
  ⟨h.os, h.tape, h.output, h.size, fun k hk _ => h.block k hk, fun _ _ => World.cell?_of_block (h.block g hg), fun _ => World.frozen?_of_block (h.block g hg)⟩
theorem Chg.below {B : Nat} (h : Chg w w' g o m) (hB : B ≤ w.heap.size) (hg : B ≤ g) : Below B w w' :=
  ⟨h.os, h.tape, h.output, h.size, fun k hk => h.block k (by omega) (by omega)⟩
theorem Chg.drew (h : Chg w w' g o m) : Chg w w'.drew g o m := ⟨h.os, h.tape, h.output, h.size, h.block, h.cell, h.frozen⟩
/-- A cell elsewhere. -/
theorem Chg.far (h : Chg w w' g o m) {p : Addr} {v : Value} (hp : p.block ≠ g) (hc : w.cell? p = some v) : w'.cell? p = some v :=
  (World.cell?_of_block (h.block p.block (World.block_lt_of_cell? w p hc) hp)).trans hc
theorem Chg.range (h : Chg w w' g o m) {b p : Nat} {cs : List Value} (hr : w.rangeAt b p cs) (hp : b ≠ g ∨ p + cs.length ≤ o ∨ o + m ≤ p) : w'.rangeAt b p cs := fun j v hv => by
  have hj : j < cs.length := (List.getElem?_eq_some_iff.1 hv).1
  by_cases hb : b = g
  · subst hb
    rw [h.cell (p + j) (by omega)]
    exact hr j v hv
  · exact h.far (p := ⟨b, p + j, none⟩) hb (hr j v hv)
/-- The address of a list that is not empty lies in another block. -/
def Off (A : Option Addr) (n g : Nat) : Prop := 0 < n → ∀ a, A = some a → a.block ≠ g
theorem Off.cut {A : Option Addr} {n : Nat} (h : Off A n g) {k cap : Nat} (hk : k ≤ n) (hc : n ≤ cap) : Off (if cap = k then A else A.map (·.add k)) (n - k) g := fun hn => by
  rw [if_neg (by omega)]
  intro a ha
  obtain ⟨a', ha', rfl⟩ := Option.map_eq_some_iff.1 ha
  have e : (a'.add k).block = a'.block := by unfold Addr.add; split <;> rfl
  rw [e]
  exact h (by omega) a' ha'
theorem Rd.chg {A : Option Addr} {B n : Nat} {f : Nat → Value} (h : Rd w B A n f) (hc : Chg w w' g o m) (ho : Off A n g) : Rd w' B A n f := fun hn => by
  obtain ⟨b, off, rfl, hb, hcell⟩ := h hn
  exact ⟨b, off, rfl, hb, fun j hj => hc.far (p := ⟨b, off + j, none⟩) (ho hn ⟨b, off, none⟩ rfl) (hcell j hj)⟩
theorem setCells_size (b : Nat) : ∀ (vs : List Value) (o : Nat) (w : World), (w.setCells b o vs).heap.size = w.heap.size ∧ (w.setCells b o vs).os = w.os ∧ (w.setCells b o vs).tape = w.tape ∧ (w.setCells b o vs).output = w.output
  | [], _, _ => ⟨rfl, rfl, rfl, rfl⟩
  | v :: r, o, w => by
    rw [World.setCells]
    have := setCells_size b r (o + 1) (w.setCell ⟨b, o, none⟩ v)
    exact ⟨this.1.trans (by simp), this.2.1, this.2.2.1, this.2.2.2⟩
theorem setCells_other (b : Nat) : ∀ (vs : List Value) (o : Nat) (w : World) (k : Nat), k ≠ b → (w.setCells b o vs).heap[k]? = w.heap[k]?
  | [], _, _, _, _ => rfl
  | v :: r, o, w, k, hk => by
    rw [World.setCells, setCells_other b r (o + 1) _ k hk]
    exact heap_setCell_other w ⟨b, o, none⟩ k v hk
theorem Chg.cells (w : World) (g : Nat) {o m p : Nat} {vs : List Value} (h1 : o ≤ p) (h2 : p + vs.length ≤ o + m) : Chg w (w.setCells g p vs) g o m :=
  have hs := setCells_size g vs p w
  ⟨hs.2.1, hs.2.2.1, hs.2.2.2, Nat.le_of_eq hs.1.symm, fun k _ hk => setCells_other g vs p w k hk, fun k hk => World.cell?_setCells_out g vs p w ⟨g, k, none⟩ (fun _ _ => by show k < p ∨ p + vs.length ≤ k; omega), fun k => World.frozen?_setCells g vs p w _⟩
theorem Chg.cell1 (w : World) (g : Nat) {o m p : Nat} {v : Value} (h1 : o ≤ p) (h2 : p < o + m) : Chg w (w.setCell ⟨g, p, none⟩ v) g o m := Chg.cells w g (vs := [v]) h1 (by simp; omega)
end
end Go.Proofs.YtkjndgapejbgcaaDoor

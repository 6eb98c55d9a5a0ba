/- ObjectEncodes: the law's walk. ObjectChecks: the argument opened. The tables that a law of this seat stands under. ObjectEncodes: the argument opened. -/
import Derived.Test.YtkjndgapejbgcaaDoorPkA36
import Derived.Test.YtkjndgapejbgcaaDoorPkA25
import Derived.Test.YtkjndgapejbgcaaDoorPkA18
import Derived.Test.YtkjndgapejbgcaaDoorPkA30
import Derived.Lib.LaidTab

namespace Go.Proofs.YtkjndgapejbgcaaDoor
open Go.RowKit
set_option linter.unusedSimpArgs false
set_option linter.unusedVariables false

set_option maxRecDepth 100000 in
set_option maxHeartbeats 8000000 in
theorem encodes_ok (w : World) (o : ObjT) (p : Lay) (hm : EncIn w o p) (ks : List Nat) (hT : ShaT w ks) (hE0 : encE o = 0) :
    Calls Tryd.prog 7 #[.agg (ocells o p).toArray] w fun e w' => e = .returned (.bool true) ∧ Below w.heap.size w w' := by
  have hz := zeroO
  have hzk := zeroKey
  have hi39 : (Tryd.prog.info? 31).map (·.size) = some 39 := by kernel_rfl
  have hi39' := Lib.hid hi39
  have hi32 : (Tryd.prog.info? 28).map (·.size) = some 32 := by kernel_rfl
  have hi32' := Lib.hid hi32
  have h39' := Lib.hid (fun (x : ObjT) (q : Lay) => show (ocells x q).toArray.size = 39 by simp [ocells_length])
  have h32' := Lib.hid (fun x : Key32 => show (encK x).toArray.size = 32 by simp [encK_length])
  have hone' := Lib.hid (fun q : Lay => show (ocells o q).toArray.all (·.oneCell') = true from all_oneCell_toArray (ocells_one o q))
  have honk' := Lib.hid (fun x : Key32 => show (encK x).toArray.all (·.oneCell') = true from all_oneCell_toArray (encK_one x))
  have hO0 : OBlk (w.alloc (.cells (ocells o p).toArray 31)) w.heap.size o p := heap_alloc_new w _
  have hB0 : Below w.heap.size w (w.alloc (.cells (ocells o p).toArray 31)) := (Below.refl _ _).alloc (Nat.le_refl _) _
  have hm' := Lib.hid hm
  have hT' := Lib.hid hT
  have hO0' := Lib.hid hO0
  have hB0' := Lib.hid hB0
  have hlt := Lib.hid (layL_lt hm.good hm.may.fit.b hm.good.kind)
  have hE : Hid (∀ _ : Unit, encE o = 0) := Lib.hid fun _ => hE0
  clear hE0
  obtain ⟨n, hn⟩ : ∃ n, Hid (∀ _ : Unit, (layL o).length = n) := ⟨_, Lib.hid fun _ => rfl⟩
  obtain ⟨X, hX⟩ : ∃ X, Hid (∀ _ : Unit, keyL ks o = X) := ⟨_, Lib.hid fun _ => rfl⟩
  have hqk : ∀ W, (binOp .eql 28 (.agg (encK X).toArray) (.agg (encK X).toArray)).run Tryd.prog W = .ok (.bool true) W := fun W => by have := eqK X X W; simpa using this
  have hgu := fun op a b => guK op a b (encK X).toArray (encK X).toArray
  clear hm hT hi39 hi32 hO0 hB0
  go_enter Tryd.func7, Tryd.ntmps7
  go_wp2_with (first
    | (refine wpList_load_row_g rfl 31 _ rfl w.heap.size rfl 31 _ (0, 0) _ hO0'.out Tryd.underlying31 rfl (by rw [h39'.out]; exact hi39'.out) ?_)
    | (go_at_call 15
       refine (copied_any _ o p ((hm'.out.may.oin.below hB0'.out).mono hB0'.out.size) hm'.out.may.fit).mono ?_
       rintro e w2 ⟨⟨q, rfl, hl⟩, b2⟩
       have hl2' := Lib.hid (hl.base (B' := w.heap.size + 1) (lt_of_block hO0'.out))
       have hO2' := Lib.hid (hO0'.out.below b2 (lt_of_block hO0'.out))
       have hB2' := Lib.hid (hB0'.out.trans (b2.mono hB0'.out.size))
       clear hl b2 hO0' hB0'
       skip)
    | (refine wpList_store_row rfl 31 _ _ rfl w2.heap.size (ocells o q).toArray rfl rfl 31 _ (heap_alloc_new w2 _) (by rw [h39'.out]; exact hi39'.out) (by rw [h39'.out, h39'.out]) (hone'.out _) ?_
       have hnw := row_new w2 31 (ocells oZ pZ).toArray (ocells o q).toArray
       have hbb := hnw.2 w2.heap.size (Nat.le_refl _)
       generalize ((w2.alloc (.cells (ocells oZ pZ).toArray 31)).setRow w2.heap.size (ocells o q).toArray) = w3 at hnw hbb ⊢
       have hs3 := Lib.hid (show CkS w w3 o p q w2.heap.size from ⟨hB2'.out.trans (hbb.mono hB2'.out.size), hO2'.out.below hbb (lt_of_block hO2'.out), hnw.1, hl2'.out.below hbb⟩)
       clear hnw hbb hl2' hO2' hB2'
       generalize w2.heap.size = S1 at hs3 ⊢
       have hq3 : Hid (EncIn w3 o q) := Lib.hid ⟨⟨u8t_keep hm'.out.may.tabs hs3.out.bel, hs3.out.l.objIn, hm'.out.may.fit, hm'.out.may.ps, hm'.out.may.note⟩, hm'.out.good⟩
       skip)
    | (refine wpList_load_row_g rfl 31 _ rfl S1 rfl 31 _ (0, 0) _ hs3.out.oin Tryd.underlying31 rfl (by rw [h39'.out]; exact hi39'.out) ?_)
    | (go_at_call 12
       refine (encode_ok _ o q hq3.out (hE.out ()) (hn.out ())).mono ?_
       rintro e w4 ⟨⟨A4, c4, rfl, o4⟩, b4⟩
       have hs4 := Lib.hid (hs3.out.below b4)
       have o4' := Lib.hid o4
       clear b4 hs3 hq3 o4
       skip)
    | (refine wpList_load_row_g rfl 31 _ rfl w.heap.size rfl 31 _ (0, 0) _ hs4.out.ob Tryd.underlying31 rfl (by rw [h39'.out]; exact hi39'.out) ?_)
    | (go_at_call 22
       refine (rencode_ok _ o p (enc_to hm'.out hs4.out.bel) (hE.out ()) (hn.out ())).mono ?_
       rintro e w5 ⟨⟨A5, c5, rfl, o5⟩, b5⟩
       have hs5 := Lib.hid (hs4.out.below b5)
       have hcv4 := conv_bytes w5 (layL o) A4 c4 _ (o4'.out.below b5 fun k hk => (o4'.out.lt k hk).2).byt hlt.out
       have hcv5 := conv_bytes w5 (layL o) A5 c5 _ o5.byt hlt.out
       rw [hn.out ()] at hcv4 hcv5
       clear b5 hs4 o5 o4'
       skip)
    | (refine wpList_load_row_g rfl 31 _ rfl S1 rfl 31 _ (0, 0) _ hs5.out.oin Tryd.underlying31 rfl (by rw [h39'.out]; exact hi39'.out) ?_)
    | (refine wpList_load_row_g rfl 31 _ rfl w.heap.size rfl 31 _ (0, 0) _ hs5.out.ob Tryd.underlying31 rfl (by rw [h39'.out]; exact hi39'.out) ?_)
    | (go_at_call 14
       refine (refSame_self _ o q p hs5.out.l.objIn ((hm'.out.may.oin.below hs5.out.bel).mono hs5.out.bel.size) hm'.out.may.fit).mono ?_
       rintro e w6 ⟨rfl, b6⟩
       have hs6 := Lib.hid (hs5.out.below b6)
       clear b6 hs5 hcv4 hcv5
       skip)
    | (refine wpList_load_row_g rfl 31 _ rfl S1 rfl 31 _ (0, 0) _ hs6.out.oin Tryd.underlying31 rfl (by rw [h39'.out]; exact hi39'.out) ?_)
    | (go_at_call 17
       refine (left_any _ o q _ hs6.out.l hm'.out.may.fit).mono ?_
       rintro e w7 ⟨rfl, b7⟩
       have hs7 := Lib.hid (hs6.out.below b7)
       have hq7 : Hid (EncIn w7 o q) := Lib.hid ⟨⟨u8t_keep hm'.out.may.tabs hs7.out.bel, hs7.out.l.objIn, hm'.out.may.fit, hm'.out.may.ps, hm'.out.may.note⟩, hm'.out.good⟩
       clear b7 hs6
       skip)
    | (refine wpList_load_row_g rfl 31 _ rfl S1 rfl 31 _ (0, 0) _ hs7.out.oin Tryd.underlying31 rfl (by rw [h39'.out]; exact hi39'.out) ?_)
    | (go_at_call 23
       refine (keyOf_any _ o q hq7.out ks (hT'.out.below hs7.out.bel)).mono ?_
       rintro e w8 ⟨rfl, b8⟩
       rw [hX.out (), hE.out ()]
       have hs8 := Lib.hid (hs7.out.below b8)
       clear b8 hs7 hq7
       skip)
    | (refine wpList_store_row rfl 28 _ _ rfl w8.heap.size (encK X).toArray rfl rfl 28 _ (heap_alloc_new w8 _) (by rw [h32'.out]; exact hi32'.out) (by rw [h32'.out, h32'.out]) (honk'.out _) ?_
       have hnk := row_new w8 28 (encK zK).toArray (encK X).toArray
       have hbk := hnk.2 w8.heap.size (Nat.le_refl _)
       generalize ((w8.alloc (.cells (encK zK).toArray 28)).setRow w8.heap.size (encK X).toArray) = w9 at hnk hbk ⊢
       have hs9 := Lib.hid (hs8.out.below hbk)
       have hk9 := Lib.hid hnk.1
       clear hnk hbk hs8
       generalize w8.heap.size = S8 at hk9 ⊢
       skip)
    | (refine wpList_load_row_g rfl 31 _ rfl w.heap.size rfl 31 _ (0, 0) _ hs9.out.ob Tryd.underlying31 rfl (by rw [h39'.out]; exact hi39'.out) ?_)
    | (go_at_call 24
       refine (rkeyOf_any _ o p (enc_to hm'.out hs9.out.bel) ks (hT'.out.below hs9.out.bel)).mono ?_
       rintro e wa ⟨rfl, ba⟩
       rw [hX.out (), hE.out ()]
       have hsa := Lib.hid (hs9.out.below ba)
       have hka := Lib.hid ((ba.block S8 (lt_of_block hk9.out)).trans hk9.out)
       clear ba hs9 hk9
       skip)
    | (refine wpList_store_row rfl 28 _ _ rfl wa.heap.size (encK X).toArray rfl rfl 28 _ (heap_alloc_new wa _) (by rw [h32'.out]; exact hi32'.out) (by rw [h32'.out, h32'.out]) (honk'.out _) ?_
       have hnl := row_new wa 28 (encK zK).toArray (encK X).toArray
       have hbl := hnl.2 wa.heap.size (Nat.le_refl _)
       generalize ((wa.alloc (.cells (encK zK).toArray 28)).setRow wa.heap.size (encK X).toArray) = wb at hnl hbl ⊢
       have hsb := Lib.hid (hsa.out.below hbl)
       have hlb := Lib.hid hnl.1
       have hkb := Lib.hid ((hbl.block S8 (lt_of_block hka.out)).trans hka.out)
       clear hnl hbl hsa hka
       generalize wa.heap.size = Sa at hlb ⊢
       skip)
    | (refine wpList_load_row_g rfl 28 _ rfl S8 rfl 28 _ (0, 0) _ hkb.out Tryd.underlying28 rfl (by rw [h32'.out]; exact hi32'.out) ?_)
    | (refine wpList_load_row_g rfl 28 _ rfl Sa rfl 28 _ (0, 0) _ hlb.out Tryd.underlying28 rfl (by rw [h32'.out]; exact hi32'.out) ?_)
    | (refine wpList_load_row_g rfl 31 _ rfl S1 rfl 31 _ (0, 0) _ hsb.out.oin Tryd.underlying31 rfl (by rw [h39'.out]; exact hi39'.out) ?_)
    | (refine wpList_load_row_g rfl 31 _ rfl w.heap.size rfl 31 _ (0, 0) _ hsb.out.ob Tryd.underlying31 rfl (by rw [h39'.out]; exact hi39'.out) ?_)
    | (go_at_call 14
       refine (refSame_self _ o q p hsb.out.l.objIn ((hm'.out.may.oin.below hsb.out.bel).mono hsb.out.bel.size) hm'.out.may.fit).mono ?_
       rintro e wc ⟨rfl, bc⟩
       have hsc := Lib.hid (hsb.out.below bc)
       clear bc hsb
       skip)
    | (refine wpList_load_row_g rfl 31 _ rfl S1 rfl 31 _ (0, 0) _ hsc.out.oin Tryd.underlying31 rfl (by rw [h39'.out]; exact hi39'.out) ?_)
    | (go_at_call 17
       refine (left_any _ o q _ hsc.out.l hm'.out.may.fit).mono ?_
       rintro e wd ⟨rfl, bd⟩
       have hsd := Lib.hid (hsc.out.below bd)
       clear bd hsc
       skip))
  go_ret
  exact ⟨rfl, hsd.out.bel⟩

set_option maxRecDepth 100000 in
set_option maxHeartbeats 8000000 in
theorem encodes_bad (w : World) (o : ObjT) (p : Lay) (hm : EncIn w o p) (ks : List Nat) (hT : ShaT w ks) (hE0 : encE o ≠ 0) :
    Calls Tryd.prog 7 #[.agg (ocells o p).toArray] w fun e w' => e = .returned (.bool true) ∧ Below w.heap.size w w' := by
  have hz := zeroO
  have hzk := zeroKey
  have hi39 : (Tryd.prog.info? 31).map (·.size) = some 39 := by kernel_rfl
  have hi39' := Lib.hid hi39
  have hi32 : (Tryd.prog.info? 28).map (·.size) = some 32 := by kernel_rfl
  have hi32' := Lib.hid hi32
  have h39' := Lib.hid (fun (x : ObjT) (q : Lay) => show (ocells x q).toArray.size = 39 by simp [ocells_length])
  have h32' := Lib.hid (fun x : Key32 => show (encK x).toArray.size = 32 by simp [encK_length])
  have hone' := Lib.hid (fun q : Lay => show (ocells o q).toArray.all (·.oneCell') = true from all_oneCell_toArray (ocells_one o q))
  have honk' := Lib.hid (fun x : Key32 => show (encK x).toArray.all (·.oneCell') = true from all_oneCell_toArray (encK_one x))
  have hO0 : OBlk (w.alloc (.cells (ocells o p).toArray 31)) w.heap.size o p := heap_alloc_new w _
  have hB0 : Below w.heap.size w (w.alloc (.cells (ocells o p).toArray 31)) := (Below.refl _ _).alloc (Nat.le_refl _) _
  have hm' := Lib.hid hm
  have hT' := Lib.hid hT
  have hO0' := Lib.hid hO0
  have hB0' := Lib.hid hB0
  have hlt := Lib.hid (layL_lt hm.good hm.may.fit.b hm.good.kind)
  obtain ⟨E, hE⟩ : ∃ E, Hid (∀ _ : Unit, encE o = E) := ⟨_, Lib.hid fun _ => rfl⟩
  rw [hE.out ()] at hE0
  have hEz := Lib.hid hE0
  clear hE0
  obtain ⟨X, hX⟩ : ∃ X, Hid (∀ _ : Unit, keyL ks o = X) := ⟨_, Lib.hid fun _ => rfl⟩
  have hqk : ∀ W, (binOp .eql 28 (.agg (encK X).toArray) (.agg (encK X).toArray)).run Tryd.prog W = .ok (.bool true) W := fun W => by have := eqK X X W; simpa using this
  have hgu := fun op a b => guK op a b (encK X).toArray (encK X).toArray
  clear hm hT hi39 hi32 hO0 hB0
  go_enter Tryd.func7, Tryd.ntmps7
  go_wp2_with (first
    | (refine wpList_load_row_g rfl 31 _ rfl w.heap.size rfl 31 _ (0, 0) _ hO0'.out Tryd.underlying31 rfl (by rw [h39'.out]; exact hi39'.out) ?_)
    | (go_at_call 15
       refine (copied_any _ o p ((hm'.out.may.oin.below hB0'.out).mono hB0'.out.size) hm'.out.may.fit).mono ?_
       rintro e w2 ⟨⟨q, rfl, hl⟩, b2⟩
       have hl2' := Lib.hid (hl.base (B' := w.heap.size + 1) (lt_of_block hO0'.out))
       have hO2' := Lib.hid (hO0'.out.below b2 (lt_of_block hO0'.out))
       have hB2' := Lib.hid (hB0'.out.trans (b2.mono hB0'.out.size))
       clear hl b2 hO0' hB0'
       skip)
    | (refine wpList_store_row rfl 31 _ _ rfl w2.heap.size (ocells o q).toArray rfl rfl 31 _ (heap_alloc_new w2 _) (by rw [h39'.out]; exact hi39'.out) (by rw [h39'.out, h39'.out]) (hone'.out _) ?_
       have hnw := row_new w2 31 (ocells oZ pZ).toArray (ocells o q).toArray
       have hbb := hnw.2 w2.heap.size (Nat.le_refl _)
       generalize ((w2.alloc (.cells (ocells oZ pZ).toArray 31)).setRow w2.heap.size (ocells o q).toArray) = w3 at hnw hbb ⊢
       have hs3 := Lib.hid (show CkS w w3 o p q w2.heap.size from ⟨hB2'.out.trans (hbb.mono hB2'.out.size), hO2'.out.below hbb (lt_of_block hO2'.out), hnw.1, hl2'.out.below hbb⟩)
       clear hnw hbb hl2' hO2' hB2'
       generalize w2.heap.size = S1 at hs3 ⊢
       have hq3 : Hid (EncIn w3 o q) := Lib.hid ⟨⟨u8t_keep hm'.out.may.tabs hs3.out.bel, hs3.out.l.objIn, hm'.out.may.fit, hm'.out.may.ps, hm'.out.may.note⟩, hm'.out.good⟩
       skip)
    | (refine wpList_load_row_g rfl 31 _ rfl S1 rfl 31 _ (0, 0) _ hs3.out.oin Tryd.underlying31 rfl (by rw [h39'.out]; exact hi39'.out) ?_)
    | (go_at_call 12
       refine (encode_bad _ o q hq3.out (hE.out ()) hEz.out).mono ?_
       rintro e w4 ⟨⟨A4, c4, rfl⟩, b4⟩
       have hs4 := Lib.hid (hs3.out.below b4)
       skip
       clear b4 hs3 hq3 
       skip)
    | (refine wpList_load_row_g rfl 31 _ rfl w.heap.size rfl 31 _ (0, 0) _ hs4.out.ob Tryd.underlying31 rfl (by rw [h39'.out]; exact hi39'.out) ?_)
    | (go_at_call 22
       refine (rencode_bad _ o p (enc_to hm'.out hs4.out.bel) (hE.out ()) hEz.out).mono ?_
       rintro e w5 ⟨⟨A5, c5, rfl⟩, b5⟩
       have hs5 := Lib.hid (hs4.out.below b5)
       have hcv4 := conv_bytes w5 [] A4 c4 0 (byt_nil _ _ _) (by simp)
       have hcv5 := conv_bytes w5 [] A5 c5 0 (byt_nil _ _ _) (by simp)
       rw [List.length_nil] at hcv4 hcv5
       clear b5 hs4 
       skip)
    | (refine wpList_load_row_g rfl 31 _ rfl S1 rfl 31 _ (0, 0) _ hs5.out.oin Tryd.underlying31 rfl (by rw [h39'.out]; exact hi39'.out) ?_)
    | (refine wpList_load_row_g rfl 31 _ rfl w.heap.size rfl 31 _ (0, 0) _ hs5.out.ob Tryd.underlying31 rfl (by rw [h39'.out]; exact hi39'.out) ?_)
    | (go_at_call 14
       refine (refSame_self _ o q p hs5.out.l.objIn ((hm'.out.may.oin.below hs5.out.bel).mono hs5.out.bel.size) hm'.out.may.fit).mono ?_
       rintro e w6 ⟨rfl, b6⟩
       have hs6 := Lib.hid (hs5.out.below b6)
       clear b6 hs5 hcv4 hcv5
       skip)
    | (refine wpList_load_row_g rfl 31 _ rfl S1 rfl 31 _ (0, 0) _ hs6.out.oin Tryd.underlying31 rfl (by rw [h39'.out]; exact hi39'.out) ?_)
    | (go_at_call 17
       refine (left_any _ o q _ hs6.out.l hm'.out.may.fit).mono ?_
       rintro e w7 ⟨rfl, b7⟩
       have hs7 := Lib.hid (hs6.out.below b7)
       have hq7 : Hid (EncIn w7 o q) := Lib.hid ⟨⟨u8t_keep hm'.out.may.tabs hs7.out.bel, hs7.out.l.objIn, hm'.out.may.fit, hm'.out.may.ps, hm'.out.may.note⟩, hm'.out.good⟩
       clear b7 hs6
       skip)
    | (refine wpList_load_row_g rfl 31 _ rfl S1 rfl 31 _ (0, 0) _ hs7.out.oin Tryd.underlying31 rfl (by rw [h39'.out]; exact hi39'.out) ?_)
    | (go_at_call 23
       refine (keyOf_any _ o q hq7.out ks (hT'.out.below hs7.out.bel)).mono ?_
       rintro e w8 ⟨rfl, b8⟩
       rw [hX.out (), hE.out ()]
       have hs8 := Lib.hid (hs7.out.below b8)
       clear b8 hs7 hq7
       skip)
    | (refine wpList_store_row rfl 28 _ _ rfl w8.heap.size (encK X).toArray rfl rfl 28 _ (heap_alloc_new w8 _) (by rw [h32'.out]; exact hi32'.out) (by rw [h32'.out, h32'.out]) (honk'.out _) ?_
       have hnk := row_new w8 28 (encK zK).toArray (encK X).toArray
       have hbk := hnk.2 w8.heap.size (Nat.le_refl _)
       generalize ((w8.alloc (.cells (encK zK).toArray 28)).setRow w8.heap.size (encK X).toArray) = w9 at hnk hbk ⊢
       have hs9 := Lib.hid (hs8.out.below hbk)
       have hk9 := Lib.hid hnk.1
       clear hnk hbk hs8
       generalize w8.heap.size = S8 at hk9 ⊢
       skip)
    | (refine wpList_load_row_g rfl 31 _ rfl w.heap.size rfl 31 _ (0, 0) _ hs9.out.ob Tryd.underlying31 rfl (by rw [h39'.out]; exact hi39'.out) ?_)
    | (go_at_call 24
       refine (rkeyOf_any _ o p (enc_to hm'.out hs9.out.bel) ks (hT'.out.below hs9.out.bel)).mono ?_
       rintro e wa ⟨rfl, ba⟩
       rw [hX.out (), hE.out ()]
       have hsa := Lib.hid (hs9.out.below ba)
       have hka := Lib.hid ((ba.block S8 (lt_of_block hk9.out)).trans hk9.out)
       clear ba hs9 hk9
       skip)
    | (refine wpList_store_row rfl 28 _ _ rfl wa.heap.size (encK X).toArray rfl rfl 28 _ (heap_alloc_new wa _) (by rw [h32'.out]; exact hi32'.out) (by rw [h32'.out, h32'.out]) (honk'.out _) ?_
       have hnl := row_new wa 28 (encK zK).toArray (encK X).toArray
       have hbl := hnl.2 wa.heap.size (Nat.le_refl _)
       generalize ((wa.alloc (.cells (encK zK).toArray 28)).setRow wa.heap.size (encK X).toArray) = wb at hnl hbl ⊢
       have hsb := Lib.hid (hsa.out.below hbl)
       have hlb := Lib.hid hnl.1
       have hkb := Lib.hid ((hbl.block S8 (lt_of_block hka.out)).trans hka.out)
       clear hnl hbl hsa hka
       generalize wa.heap.size = Sa at hlb ⊢
       skip)
    | (refine wpList_load_row_g rfl 28 _ rfl S8 rfl 28 _ (0, 0) _ hkb.out Tryd.underlying28 rfl (by rw [h32'.out]; exact hi32'.out) ?_)
    | (refine wpList_load_row_g rfl 28 _ rfl Sa rfl 28 _ (0, 0) _ hlb.out Tryd.underlying28 rfl (by rw [h32'.out]; exact hi32'.out) ?_)
    | (refine wpList_load_row_g rfl 31 _ rfl S1 rfl 31 _ (0, 0) _ hsb.out.oin Tryd.underlying31 rfl (by rw [h39'.out]; exact hi39'.out) ?_)
    | (refine wpList_load_row_g rfl 31 _ rfl w.heap.size rfl 31 _ (0, 0) _ hsb.out.ob Tryd.underlying31 rfl (by rw [h39'.out]; exact hi39'.out) ?_)
    | (go_at_call 14
       refine (refSame_self _ o q p hsb.out.l.objIn ((hm'.out.may.oin.below hsb.out.bel).mono hsb.out.bel.size) hm'.out.may.fit).mono ?_
       rintro e wc ⟨rfl, bc⟩
       have hsc := Lib.hid (hsb.out.below bc)
       clear bc hsb
       skip)
    | (refine wpList_load_row_g rfl 31 _ rfl S1 rfl 31 _ (0, 0) _ hsc.out.oin Tryd.underlying31 rfl (by rw [h39'.out]; exact hi39'.out) ?_)
    | (go_at_call 17
       refine (left_any _ o q _ hsc.out.l hm'.out.may.fit).mono ?_
       rintro e wd ⟨rfl, bd⟩
       have hsd := Lib.hid (hsc.out.below bd)
       clear bd hsc
       skip))
  go_ret
  exact ⟨rfl, hsd.out.bel⟩

theorem objectEncodes_any (w : World) (o : ObjT) (p : Lay) (hm : EncIn w o p) (ks : List Nat) (hT : ShaT w ks) :
    Calls Tryd.prog 7 #[.agg (ocells o p).toArray] w fun e w' => e = .returned (.bool true) ∧ Below w.heap.size w w' := by
  by_cases h : encE o = 0
  · exact encodes_ok w o p hm ks hT h
  · exact encodes_bad w o p hm ks hT h
end Go.Proofs.YtkjndgapejbgcaaDoor

namespace Go.Proofs.YtkjndgapejbgcaaDoor
open Go.RowKit Go.ChangeShapes Go.WideShapes

theorem enc_in {w : World} {o : ObjT} {p : Lay} (ht : U8T w) (ha : ObjIn w w.heap.size o p) (hf : Fit o) (hg : Good o) : EncIn w o p :=
  ⟨⟨ht, ha, hf, fun x hx => (hg.ps x hx).2, hg.note⟩, hg⟩
set_option maxRecDepth 100000 in
theorem objectChecks_calls {H : Type} {enc : TypeId × Value → H} (W : World) (base : Nat) (v0 : Value) (d0 : DataW H) (p0 : List MemPlace)
    (o0 : Value.okWide Tryd.prog W .any base 31 v0) (h0 : DataW.Trod enc Tryd.prog W 0 (fun _ => true) true 31 v0 d0 p0)
    (hsz : (DataW.weightsEach Tryd.prog [31] [d0]).all (· ≤ reachBytes) = true)
    (ha : Lib.VarReads Tryd.prog W "unicode/utf8.acceptRanges" Lib.acceptData) (hf : Lib.VarReads Tryd.prog W "unicode/utf8.first" Lib.firstData) :
    Calls Tryd.prog 5 #[v0] W fun e W' => e = .returned (.bool true) ∧ Below W.heap.size W W' := by
  obtain ⟨a, p, rfl, hi, fa, hg⟩ := object_open W base v0 d0 p0 o0 h0 (jj := 0) hsz rfl rfl
  exact objectChecks_any W a p (enc_in (u8t_of ⟨ha, hf⟩) hi fa hg)
end Go.Proofs.YtkjndgapejbgcaaDoor

namespace Go.Proofs.YtkjndgapejbgcaaDoor
open Go.RowKit

def ksL : List Nat := [1116352408, 1899447441, 3049323471, 3921009573, 961987163, 1508970993, 2453635748, 2870763221, 3624381080, 310598401, 607225278, 1426881987, 1925078388, 2162078206, 2614888103, 3248222580, 3835390401, 4022224774, 264347078, 604807628, 770255983, 1249150122, 1555081692, 1996064986, 2554220882, 2821834349, 2952996808, 3210313671, 3336571891, 3584528711, 113926993, 338241895, 666307205, 773529912, 1294757372, 1396182291, 1695183700, 1986661051, 2177026350, 2456956037, 2730485921, 2820302411, 3259730800, 3345764771, 3516065817, 3600352804, 4094571909, 275423344, 430227734, 506948616, 659060556, 883997877, 958139571, 1322822218, 1537002063, 1747873779, 1955562222, 2024104815, 2227730452, 2361852424, 2428436474, 2756734187, 3204031479, 3329325298]
theorem ksL_length : ksL.length = 64 := rfl
set_option maxRecDepth 10000 in
theorem ksL_lt : ∀ x ∈ ksL, x < 4294967296 := by decide

theorem tab_at {W : World} {name : String} {k : IntKind} {g : Nat} {l : List Nat} (h : Lib.TabIs Tryd.prog W name k (l.map fun n : Nat => (n : Int))) (hg : Tryd.prog.globalNamed name = some g) :
    ∀ wr : World, Below W.heap.size W wr → ∀ t, t < l.length → wr.cell? ⟨g, t, none⟩ = some (.int k ((l[t]?.getD 0 : Nat) : Int)) := by
  intro wr hb t ht
  have h1 := h.cell hg t (by simpa using ht)
  rw [hb.cell (World.block_lt_of_cell? W ⟨g, t, none⟩ h1), h1]
  simp [List.getD, ht]

section
variable {W : World}
theorem tab_ref (h : Lib.TabIs Tryd.prog W "gleaner/gleanerref02.added" .u64 [1116352408, 1899447441, 3049323471, 3921009573, 961987163, 1508970993, 2453635748, 2870763221, 3624381080, 310598401, 607225278, 1426881987, 1925078388, 2162078206, 2614888103, 3248222580, 3835390401, 4022224774, 264347078, 604807628, 770255983, 1249150122, 1555081692, 1996064986, 2554220882, 2821834349, 2952996808, 3210313671, 3336571891, 3584528711, 113926993, 338241895, 666307205, 773529912, 1294757372, 1396182291, 1695183700, 1986661051, 2177026350, 2456956037, 2730485921, 2820302411, 3259730800, 3345764771, 3516065817, 3600352804, 4094571909, 275423344, 430227734, 506948616, 659060556, 883997877, 958139571, 1322822218, 1537002063, 1747873779, 1955562222, 2024104815, 2227730452, 2361852424, 2428436474, 2756734187, 3204031479, 3329325298]) : ∀ wr : World, Below W.heap.size W wr → ∀ t, t < 64 → wr.cell? ⟨1, t, none⟩ = some (.int .u64 ((ksL[t]?.getD 0 : Nat) : Int)) :=
  tab_at (l := ksL) h (by kernel_rfl)
theorem tab_begin (h : Lib.TabIs Tryd.prog W "gleaner/gleanerref02.begin" .u64 [1779033703, 3144134277, 1013904242, 2773480762, 1359893119, 2600822924, 528734635, 1541459225]) : ∀ wr : World, Below W.heap.size W wr → ∀ t, t < 8 → wr.cell? ⟨0, t, none⟩ = some (.int .u64 ((startL[t]?.getD 0 : Nat) : Int)) :=
  tab_at (l := startL) h (by kernel_rfl)
theorem tab_sha (h : Lib.TabIs Tryd.prog W "gleaner/sha.added" .u32 [1116352408, 1899447441, 3049323471, 3921009573, 961987163, 1508970993, 2453635748, 2870763221, 3624381080, 310598401, 607225278, 1426881987, 1925078388, 2162078206, 2614888103, 3248222580, 3835390401, 4022224774, 264347078, 604807628, 770255983, 1249150122, 1555081692, 1996064986, 2554220882, 2821834349, 2952996808, 3210313671, 3336571891, 3584528711, 113926993, 338241895, 666307205, 773529912, 1294757372, 1396182291, 1695183700, 1986661051, 2177026350, 2456956037, 2730485921, 2820302411, 3259730800, 3345764771, 3516065817, 3600352804, 4094571909, 275423344, 430227734, 506948616, 659060556, 883997877, 958139571, 1322822218, 1537002063, 1747873779, 1955562222, 2024104815, 2227730452, 2361852424, 2428436474, 2756734187, 3204031479, 3329325298]) : ∀ wr : World, Below W.heap.size W wr → ∀ t, t < 64 → wr.cell? ⟨4, t, none⟩ = some (.int .u32 ((ksL[t]?.getD 0 : Nat) : Int)) :=
  tab_at (l := ksL) h (by kernel_rfl)
end
end Go.Proofs.YtkjndgapejbgcaaDoor

namespace Go.Proofs.YtkjndgapejbgcaaDoor
open Go.RowKit Go.ChangeShapes Go.WideShapes

set_option maxRecDepth 100000 in
theorem objectEncodes_calls {H : Type} {enc : TypeId × Value → H} (W : World) (base : Nat) (v0 : Value) (d0 : DataW H) (p0 : List MemPlace)
    (o0 : Value.okWide Tryd.prog W .any base 31 v0) (h0 : DataW.Trod enc Tryd.prog W 0 (fun _ => true) true 31 v0 d0 p0)
    (hsz : (DataW.weightsEach Tryd.prog [31] [d0]).all (· ≤ reachBytes) = true)
    (ha : Lib.VarReads Tryd.prog W "unicode/utf8.acceptRanges" Lib.acceptData)
    (t0 : Lib.TabIs Tryd.prog W "gleaner/gleanerref02.added" .u64 [1116352408, 1899447441, 3049323471, 3921009573, 961987163, 1508970993, 2453635748, 2870763221, 3624381080, 310598401, 607225278, 1426881987, 1925078388, 2162078206, 2614888103, 3248222580, 3835390401, 4022224774, 264347078, 604807628, 770255983, 1249150122, 1555081692, 1996064986, 2554220882, 2821834349, 2952996808, 3210313671, 3336571891, 3584528711, 113926993, 338241895, 666307205, 773529912, 1294757372, 1396182291, 1695183700, 1986661051, 2177026350, 2456956037, 2730485921, 2820302411, 3259730800, 3345764771, 3516065817, 3600352804, 4094571909, 275423344, 430227734, 506948616, 659060556, 883997877, 958139571, 1322822218, 1537002063, 1747873779, 1955562222, 2024104815, 2227730452, 2361852424, 2428436474, 2756734187, 3204031479, 3329325298])
    (t1 : Lib.TabIs Tryd.prog W "gleaner/gleanerref02.begin" .u64 [1779033703, 3144134277, 1013904242, 2773480762, 1359893119, 2600822924, 528734635, 1541459225])
    (t2 : Lib.TabIs Tryd.prog W "gleaner/sha.added" .u32 [1116352408, 1899447441, 3049323471, 3921009573, 961987163, 1508970993, 2453635748, 2870763221, 3624381080, 310598401, 607225278, 1426881987, 1925078388, 2162078206, 2614888103, 3248222580, 3835390401, 4022224774, 264347078, 604807628, 770255983, 1249150122, 1555081692, 1996064986, 2554220882, 2821834349, 2952996808, 3210313671, 3336571891, 3584528711, 113926993, 338241895, 666307205, 773529912, 1294757372, 1396182291, 1695183700, 1986661051, 2177026350, 2456956037, 2730485921, 2820302411, 3259730800, 3345764771, 3516065817, 3600352804, 4094571909, 275423344, 430227734, 506948616, 659060556, 883997877, 958139571, 1322822218, 1537002063, 1747873779, 1955562222, 2024104815, 2227730452, 2361852424, 2428436474, 2756734187, 3204031479, 3329325298])
    (hf : Lib.VarReads Tryd.prog W "unicode/utf8.first" Lib.firstData) :
    Calls Tryd.prog 7 #[v0] W fun e W' => e = .returned (.bool true) ∧ Below W.heap.size W W' := by
  obtain ⟨a, p, rfl, hi, fa, hg⟩ := object_open W base v0 d0 p0 o0 h0 (jj := 0) hsz rfl rfl
  have r := Below.refl W.heap.size W
  exact objectEncodes_any W a p (enc_in (u8t_of ⟨ha, hf⟩) hi fa hg) ksL ⟨tab_sha t2 W r, tab_ref t0 W r, tab_begin t1 W r, ksL_length, ksL_lt⟩
end Go.Proofs.YtkjndgapejbgcaaDoor

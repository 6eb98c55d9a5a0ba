/- ObjectChecks: the law's walk. -/
import Derived.Test.YtkjndgapejbgcaaDoorRChkW
import Derived.Test.YtkjndgapejbgcaaDoorEncO
import Derived.Test.YtkjndgapejbgcaaDoorSameR
import Derived.Test.YtkjndgapejbgcaaDoorCopied
namespace Go.Proofs.YtkjndgapejbgcaaDoor
open Go.RowKit
set_option linter.unusedSimpArgs false
set_option linter.unusedVariables false

set_option maxRecDepth 100000 in
set_option maxHeartbeats 2000000 in
theorem check_any (w : World) (o : ObjT) (p : Lay) (hm : EncIn w o p) :
    Calls Tryd.prog 16 #[.agg (ocells o p).toArray] w fun e w' => e = .returned (.int .i64 (encE o : Nat)) ∧ Below w.heap.size w w' := by
  have hi39 : (Tryd.prog.info? 31).map (·.size) = some 39 := by kernel_rfl
  have hi39' := Lib.hid hi39
  have h39' := Lib.hid (fun (x : ObjT) (q : Lay) => show (ocells x q).toArray.size = 39 by simp [ocells_length])
  have h0 : OBlk (w.alloc (.cells (ocells o p).toArray 31)) w.heap.size o p := heap_alloc_new w _
  have hB : Below w.heap.size w (w.alloc (.cells (ocells o p).toArray 31)) := (Below.refl _ _).alloc (Nat.le_refl _) _
  have hen := Lib.hid (encode_any _ o p ⟨⟨u8t_keep hm.may.tabs hB, (hm.may.oin.below hB).mono hB.size, hm.may.fit, hm.may.ps, hm.may.note⟩, hm.good⟩)
  have h0' := Lib.hid h0
  have hB' := Lib.hid hB
  clear hm h0 hB hi39
  go_enter Tryd.func16, Tryd.ntmps16
  go_wp2_with (first
    | (refine wpList_load_row rfl 31 _ rfl w.heap.size rfl 31 _ (0, 0) _ h0'.out Tryd.underlying31 rfl (by rw [h39'.out]; exact hi39'.out) ?_)
    | (go_at_call 12
       refine hen.out.mono ?_
       rintro e w2 ⟨⟨A, c, rfl, o2⟩, b2⟩
       have hB2 := Lib.hid (hB'.out.trans (b2.mono hB'.out.size))
       clear o2 b2 hen))
  go_ret
  exact ⟨rfl, hB2.out⟩

/-- The object and its copy. -/
structure CkS (w W : World) (o : ObjT) (p q : Lay) (S1 : Nat) : Prop where
  bel : Below w.heap.size w W
  ob : OBlk W w.heap.size o p
  oin : OBlk W S1 o q
  l : LentK W (w.heap.size + 1) o q 4
theorem CkS.below {w W W' : World} {o : ObjT} {p q : Lay} {S1 : Nat} (h : CkS w W o p q S1) (hb : Below W.heap.size W W') : CkS w W' o p q S1 :=
  ⟨h.bel.trans (hb.mono h.bel.size), h.ob.below hb (lt_of_block h.ob), h.oin.below hb (lt_of_block h.oin), h.l.below hb⟩
theorem chk_in {w W : World} {o : ObjT} {p : Lay} (h : ChkIn w o p) (hb : Below w.heap.size w W) : ChkIn W o p := ⟨(h.oin.below hb).mono hb.size, h.fit, h.good⟩
theorem refSame_self (W : World) (o : ObjT) (p q : Lay) (h1 : ObjIn W W.heap.size o p) (h2 : ObjIn W W.heap.size o q) (hf : Fit o) :
    Calls Tryd.prog 14 #[.agg (ocells o p).toArray, .agg (ocells o q).toArray] W fun e w' => e = .returned (.bool true) ∧ Below W.heap.size W w' := by
  have := refSame_any W o o p q h1 h2 hf hf
  rwa [sameO_self] at this

set_option maxRecDepth 100000 in
set_option maxHeartbeats 4000000 in
theorem objectChecks_any (w : World) (o : ObjT) (p : Lay) (hm : EncIn w o p) :
    Calls Tryd.prog 5 #[.agg (ocells o p).toArray] w fun e w' => e = .returned (.bool true) ∧ Below w.heap.size w w' := by
  have hz := zeroO
  have hi39 : (Tryd.prog.info? 31).map (·.size) = some 39 := by kernel_rfl
  have hi39' := Lib.hid hi39
  have h39' := Lib.hid (fun (x : ObjT) (q : Lay) => show (ocells x q).toArray.size = 39 by simp [ocells_length])
  have hone' := Lib.hid (fun q : Lay => show (ocells o q).toArray.all (·.oneCell') = true from all_oneCell_toArray (ocells_one o q))
  have hO0 : OBlk (w.alloc (.cells (ocells o p).toArray 31)) w.heap.size o p := heap_alloc_new w _
  have hB0 : Below w.heap.size w (w.alloc (.cells (ocells o p).toArray 31)) := (Below.refl _ _).alloc (Nat.le_refl _) _
  obtain ⟨E, hE⟩ : ∃ E, Hid (∀ _ : Unit, encE o = E) := ⟨_, Lib.hid fun _ => rfl⟩
  have hE2 : Hid (∀ _ : Unit, chkE o = E) := Lib.hid fun _ => by rw [← encE_eq]; exact hE.out ()
  have hm' := Lib.hid hm
  have hck := Lib.hid (show ChkIn w o p from ⟨hm.may.oin, hm.may.fit, hm.good⟩)
  have hO0' := Lib.hid hO0
  have hB0' := Lib.hid hB0
  clear hm hi39 hO0 hB0
  go_enter Tryd.func5, Tryd.ntmps5
  go_wp2_with (first
    | (refine wpList_load_row_g rfl 31 _ rfl w.heap.size rfl 31 _ (0, 0) _ hO0'.out Tryd.underlying31 rfl (by rw [h39'.out]; exact hi39'.out) ?_)
    | (go_at_call 15
       refine (copied_any _ o p ((hm'.out.may.oin.below hB0'.out).mono hB0'.out.size) hm'.out.may.fit).mono ?_
       rintro e w2 ⟨⟨q, rfl, hl⟩, b2⟩
       have hl2' := Lib.hid (hl.base (B' := w.heap.size + 1) (lt_of_block hO0'.out))
       have hO2' := Lib.hid (hO0'.out.below b2 (lt_of_block hO0'.out))
       have hB2' := Lib.hid (hB0'.out.trans (b2.mono hB0'.out.size))
       clear hl b2 hO0' hB0'
       skip)
    | (refine wpList_store_row rfl 31 _ _ rfl w2.heap.size (ocells o q).toArray rfl rfl 31 _ (heap_alloc_new w2 _) (by rw [h39'.out]; exact hi39'.out) (by rw [h39'.out, h39'.out]) (hone'.out _) ?_
       have hnw := row_new w2 31 (ocells oZ pZ).toArray (ocells o q).toArray
       have hbb := hnw.2 w2.heap.size (Nat.le_refl _)
       generalize ((w2.alloc (.cells (ocells oZ pZ).toArray 31)).setRow w2.heap.size (ocells o q).toArray) = w3 at hnw hbb ⊢
       have hs3 := Lib.hid (show CkS w w3 o p q w2.heap.size from ⟨hB2'.out.trans (hbb.mono hB2'.out.size), hO2'.out.below hbb (lt_of_block hO2'.out), hnw.1, hl2'.out.below hbb⟩)
       clear hnw hbb hl2' hO2' hB2'
       generalize w2.heap.size = S1 at hs3 ⊢
       skip)
    | (refine wpList_load_row_g rfl 31 _ rfl S1 rfl 31 _ (0, 0) _ hs3.out.oin Tryd.underlying31 rfl (by rw [h39'.out]; exact hi39'.out) ?_)
    | (go_at_call 16
       refine (check_any _ o q ⟨⟨u8t_keep hm'.out.may.tabs hs3.out.bel, hs3.out.l.objIn, hm'.out.may.fit, hm'.out.may.ps, hm'.out.may.note⟩, hm'.out.good⟩).mono ?_
       rintro e w4 ⟨rfl, b4⟩
       rw [hE.out ()]
       have hs4 := Lib.hid (hs3.out.below b4)
       clear b4 hs3
       skip)
    | (refine wpList_load_row_g rfl 31 _ rfl w.heap.size rfl 31 _ (0, 0) _ hs4.out.ob Tryd.underlying31 rfl (by rw [h39'.out]; exact hi39'.out) ?_)
    | (go_at_call 13
       refine (rchk_any _ o p (chk_in hck.out hs4.out.bel)).mono ?_
       rintro e w5 ⟨rfl, b5⟩
       rw [hE2.out ()]
       have hs5 := Lib.hid (hs4.out.below b5)
       clear b5 hs4
       skip)
    | (refine wpList_load_row_g rfl 31 _ rfl S1 rfl 31 _ (0, 0) _ hs5.out.oin Tryd.underlying31 rfl (by rw [h39'.out]; exact hi39'.out) ?_)
    | (refine wpList_load_row_g rfl 31 _ rfl w.heap.size rfl 31 _ (0, 0) _ hs5.out.ob Tryd.underlying31 rfl (by rw [h39'.out]; exact hi39'.out) ?_)
    | (go_at_call 14
       refine (refSame_self _ o q p hs5.out.l.objIn ((hm'.out.may.oin.below hs5.out.bel).mono hs5.out.bel.size) hm'.out.may.fit).mono ?_
       rintro e w6 ⟨rfl, b6⟩
       have hs6 := Lib.hid (hs5.out.below b6)
       clear b6 hs5
       skip)
    | (refine wpList_load_row_g rfl 31 _ rfl S1 rfl 31 _ (0, 0) _ hs6.out.oin Tryd.underlying31 rfl (by rw [h39'.out]; exact hi39'.out) ?_)
    | (go_at_call 17
       refine (left_any _ o q _ hs6.out.l hm'.out.may.fit).mono ?_
       rintro e w7 ⟨rfl, b7⟩
       have hs7 := Lib.hid (hs6.out.below b7)
       clear b7 hs6
       skip))
  go_ret
  exact ⟨rfl, hs7.out.bel⟩
end Go.Proofs.YtkjndgapejbgcaaDoor

/- ObjectDecodes: the law's walk. ObjectDecodes: the argument opened. -/
import Derived.Test.YtkjndgapejbgcaaDoorPkD42
import Derived.Test.YtkjndgapejbgcaaDoorPkD25

namespace Go.Proofs.YtkjndgapejbgcaaDoor
open Go.RowKit
set_option linter.unusedSimpArgs false
set_option linter.unusedVariables false

theorem decM_fit {l : List Nat} (hl : ∀ x ∈ l, x < 256) : Fit (decM l).2 := by
  have hz : Fit oZ := ⟨by simp [oZ], by simp [oZ], by simp [oZ], by simp [oZ], by simp [oZ]⟩
  unfold decM
  split
  · exact hz
  · split
    · exact hz
    · split
      · exact (readM_ok hl (by omega) _ _).fit
      · exact hz

set_option maxRecDepth 100000 in
set_option maxHeartbeats 8000000 in
theorem objectDecodes_any (w : World) (hT : U8T w) (A : Option Addr) (l : List Nat) (L c : Nat) (hl : l.length = L) (hb : Byt w w.heap.size A l) (hs : L ≤ 140737488355328) (h256 : ∀ x ∈ l, x < 256) :
    Calls Tryd.prog 6 #[.slice A L c] w fun e w' => e = .returned (.bool true) ∧ Below w.heap.size w w' := by
  have hz := zeroO
  have hi39 : (Tryd.prog.info? 31).map (·.size) = some 39 := by kernel_rfl
  have hi39' := Lib.hid hi39
  have h39' := Lib.hid (fun (x : ObjT) (q : Lay) => show (ocells x q).toArray.size = 39 by simp [ocells_length])
  have hone' := Lib.hid (fun (x : ObjT) (q : Lay) => show (ocells x q).toArray.all (·.oneCell') = true from all_oneCell_toArray (ocells_one x q))
  obtain ⟨E, O, hE⟩ : ∃ E O, Hid (decM l = (E, O)) := ⟨_, _, Lib.hid rfl⟩
  have hF : Hid (rdecM l = (E, O)) := Lib.hid ((rdecM_eq h256).trans hE.out)
  have hfit : Hid (Fit O) := Lib.hid (by have := decM_fit h256; rwa [hE.out] at this)
  have hsp := Lib.hid (spare_to w l hl A c hb hs)
  have hT' := Lib.hid hT
  have hb' := Lib.hid hb
  have hl' := Lib.hid (fun _ : Unit => hl)
  have hs' := Lib.hid hs
  have h256' := Lib.hid h256
  clear hT hb hl hs h256 hi39
  go_enter Tryd.func6, Tryd.ntmps6
  go_wp2_with (first
    | (go_at_call 18
       refine hsp.out.mono ?_
       rintro e w1 ⟨⟨ga, cc, rfl, o1⟩, b1⟩
       have hB1 := Lib.hid b1
       have o1' := Lib.hid o1
       have hd := decode_any w1 (u8t_keep hT'.out b1) (some ⟨ga, 0, none⟩) l L cc (hl'.out ()) (fun h => by cases h) (spare_byt o1) hs'.out h256'.out
       rw [hE.out] at hd
       have hd' := Lib.hid hd
       clear hd o1 b1 hsp)
    | (go_at_call 19
       refine hd'.out.mono ?_
       rintro e w2 ⟨⟨p, rfl, o2⟩, b2⟩
       have hB2 := Lib.hid (hB1.out.trans (b2.mono hB1.out.size))
       have o2' := Lib.hid (o2.objIn)
       have i2 := Lib.hid (o1'.out.below b2 (fun k hk => (o1'.out.lt k hk).2))
       clear o2 b2 hd' o1')
    | (refine wpList_store_row rfl 31 _ _ rfl w2.heap.size (ocells O p).toArray rfl rfl 31 _ (heap_alloc_new w2 _) (by rw [h39'.out]; exact hi39'.out) (by rw [h39'.out, h39'.out]) (hone'.out _ _) ?_
       have hnw := row_new w2 31 (ocells oZ pZ).toArray (ocells O p).toArray
       have hbb := hnw.2 w2.heap.size (Nat.le_refl _)
       generalize ((w2.alloc (.cells (ocells oZ pZ).toArray 31)).setRow w2.heap.size (ocells O p).toArray) = w3 at hnw hbb ⊢
       have hB3 := Lib.hid (hB2.out.trans (hbb.mono hB2.out.size))
       have hx3 := Lib.hid hnw.1
       have o3 := Lib.hid ((o2'.out.below hbb).mono hbb.size)
       have i3 := Lib.hid (i2.out.below hbb (fun k hk => (i2.out.lt k hk).2))
       have hd2 := rdecode_any w3 (u8t_keep hT'.out hB3.out) A l L c (hl'.out ()) ((hb'.out.below hB3.out).mono hB3.out.size) hs'.out h256'.out
       rw [hF.out] at hd2
       have hd2' := Lib.hid hd2
       clear hnw hbb hd2 hB2 o2' i2
       generalize w2.heap.size = S2 at hx3 ⊢)
    | (go_at_call 20
       refine hd2'.out.mono ?_
       rintro e w4 ⟨⟨q, rfl, o4⟩, b4⟩
       have hB4 := Lib.hid (hB3.out.trans (b4.mono hB3.out.size))
       have o4' := Lib.hid (o4.objIn)
       have p4 := Lib.hid ((o3.out.below b4).mono b4.size)
       have i4 := Lib.hid (i3.out.below b4 (fun k hk => (i3.out.lt k hk).2))
       have hx4 := Lib.hid ((b4.block S2 (lt_of_block hx3.out)).trans hx3.out)
       clear o4 b4 hd2' o3 i3 hx3 hB3)
    | (refine wpList_store_row rfl 31 _ _ rfl w4.heap.size (ocells O q).toArray rfl rfl 31 _ (heap_alloc_new w4 _) (by rw [h39'.out]; exact hi39'.out) (by rw [h39'.out, h39'.out]) (hone'.out _ _) ?_
       have hnw := row_new w4 31 (ocells oZ pZ).toArray (ocells O q).toArray
       have hbb := hnw.2 w4.heap.size (Nat.le_refl _)
       generalize ((w4.alloc (.cells (ocells oZ pZ).toArray 31)).setRow w4.heap.size (ocells O q).toArray) = w5 at hnw hbb ⊢
       have hB5 := Lib.hid (hB4.out.trans (hbb.mono hB4.out.size))
       have hy5 := Lib.hid hnw.1
       have hx5 := Lib.hid ((hbb.block S2 (lt_of_block hx4.out)).trans hx4.out)
       have o5 := Lib.hid ((o4'.out.below hbb).mono hbb.size)
       have p5 := Lib.hid ((p4.out.below hbb).mono hbb.size)
       have i5 := Lib.hid (i4.out.below hbb (fun k hk => (i4.out.lt k hk).2))
       clear hnw hbb hB4 o4' p4 i4 hx4
       generalize w4.heap.size = S4 at hy5 ⊢)
    | (refine wpList_load_row_g rfl 31 _ rfl S2 rfl 31 _ (0, 0) _ hx5.out Tryd.underlying31 rfl (by rw [h39'.out]; exact hi39'.out) ?_)
    | (refine wpList_load_row_g rfl 31 _ rfl S4 rfl 31 _ (0, 0) _ hy5.out Tryd.underlying31 rfl (by rw [h39'.out]; exact hi39'.out) ?_)
    | (go_at_call 14
       refine (refSame_self _ O p q p5.out o5.out hfit.out).mono ?_
       rintro e w6 ⟨rfl, b6⟩
       have hB6 := Lib.hid (hB5.out.trans (b6.mono hB5.out.size))
       have i6 := Lib.hid (i5.out.below b6 (fun k hk => (i5.out.lt k hk).2))
       have hcv := conv_bytes w6 l (some ⟨ga, 0, none⟩) cc _ (spare_byt i6.out) h256'.out
       have hcw := conv_bytes w6 l A c _ (hb'.out.below hB6.out) h256'.out
       rw [hl'.out ()] at hcv hcw
       clear b6 hB5 i5 hx5 hy5 o5 p5)
    | (go_at_call 21
       refine (clean_to _ l (hl'.out ()) _ _ _ i6.out hs'.out).mono ?_
       rintro e w7 ⟨rfl, rfl⟩))
  go_ret
  exact ⟨rfl, hB6.out⟩
end Go.Proofs.YtkjndgapejbgcaaDoor

namespace Go.Proofs.YtkjndgapejbgcaaDoor
open Go.RowKit Go.ChangeShapes Go.WideShapes

set_option maxRecDepth 100000 in
theorem objectDecodes_calls {H : Type} {enc : TypeId × Value → H} (W : World) (base : Nat) (v0 : Value) (d0 : DataW H) (p0 : List MemPlace)
    (o0 : Value.okWide Tryd.prog W .any base 24 v0) (h0 : DataW.Trod enc Tryd.prog W 0 (fun _ => true) true 24 v0 d0 p0)
    (hsz : (DataW.weightsEach Tryd.prog [24] [d0]).all (· ≤ reachBytes) = true)
    (ha : Lib.VarReads Tryd.prog W "unicode/utf8.acceptRanges" Lib.acceptData) (hf : Lib.VarReads Tryd.prog W "unicode/utf8.first" Lib.firstData) :
    Calls Tryd.prog 6 #[v0] W fun e W' => e = .returned (.bool true) ∧ Below W.heap.size W W' := by
  obtain ⟨A, cap, l, rfl, h1, h2, h3, h4, h5⟩ := arg_bytes Tryd.underlying24 Tryd.underlying5 (by kernel_rfl) o0 h0
  have hl := h4.reach (j := 0) (size := 1) hsz rfl rfl Tryd.underlying24 (by kernel_rfl)
  exact objectDecodes_any W (u8t_of ⟨ha, hf⟩) A l l.length cap rfl h3 (by omega) h5
end Go.Proofs.YtkjndgapejbgcaaDoor

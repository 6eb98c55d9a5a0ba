/- ObjectBack: the law's walk. The tables that a law of this seat stands under. -/
import Derived.Test.YtkjndgapejbgcaaDoorPkE3
import Derived.Test.YtkjndgapejbgcaaDoorPkD30
import Derived.Lib.LaidTab

namespace Go.Proofs.YtkjndgapejbgcaaDoor
open Go.RowKit
set_option linter.unusedSimpArgs false
set_option linter.unusedVariables false

section
variable (w : World) (o : ObjT) (p : Lay) (hm : EncIn w o p) (ks : List Nat) (hT : ShaT w ks) (A : Option Addr) (l : List Nat) (L c : Nat) (hl : l.length = L) (hA : A = none → L = 0 ∧ c = 0) (hb : Byt w w.heap.size A l) (hs : L ≤ 140737488355328) (h256 : ∀ x ∈ l, x < 256)
include hm hT hl hA hb hs h256
set_option maxRecDepth 100000 in
set_option maxHeartbeats 8000000 in
theorem back_ok_yes (hE1 : encE o = 0) (O : ObjT) (hD1 : decM l = (0, O)) :
    Calls Tryd.prog 9 #[.agg (ocells o p).toArray, .slice A L c] w fun e w' => e = .returned (.bool true) ∧ Below w.heap.size w w' := by
  have hz := zeroO
  have hcs := hi_conv_o w o p
  have hzk := zeroKey
  have hi39 : (Tryd.prog.info? 31).map (·.size) = some 39 := by kernel_rfl
  have hi39' := Lib.hid hi39
  have hi32' : Hid ((Tryd.prog.info? 28).map (·.size) = some 32) := Lib.hid (by kernel_rfl)
  have h39' := Lib.hid (fun (x : ObjT) (q : Lay) => show (ocells x q).toArray.size = 39 by simp [ocells_length])
  have hone' := Lib.hid (fun (x : ObjT) (q : Lay) => show (ocells x q).toArray.all (·.oneCell') = true from all_oneCell_toArray (ocells_one x q))
  have h32' := Lib.hid (fun x : Key32 => show (encK x).toArray.size = 32 by simp [encK_length])
  have honk' := Lib.hid (fun x : Key32 => show (encK x).toArray.all (·.oneCell') = true from all_oneCell_toArray (encK_one x))
  have hK0 : Hid (KSt w (w.alloc (.cells (ocells o p).toArray 31)) o p) := Lib.hid KSt.start
  have hU := Lib.hid hm.may.tabs
  have hm' := Lib.hid hm
  have hT' := Lib.hid hT
  have hA' := Lib.hid hA
  have hb' := Lib.hid hb
  have hl' := Lib.hid (fun _ : Unit => hl)
  have hs' := Lib.hid hs
  have h256' := Lib.hid h256
  have hrd := Lib.hid (decM_read h256)
  have hE : Hid (∀ _ : Unit, encE o = 0) := Lib.hid fun _ => hE1
  clear hE1
  have hok : Hid (Good o ∧ ∀ x ∈ o.data, x < 256) := Lib.hid ⟨hm'.out.good, hm'.out.may.fit.b⟩
  obtain ⟨n, hn⟩ : ∃ n, Hid (∀ _ : Unit, (layL o).length = n) := ⟨_, Lib.hid fun _ => rfl⟩
  have hn8 : Hid (n ≤ 8192) := Lib.hid (by rw [← hn.out ()]; exact encE_len (hE.out ()))
  have hnm : Hid (n ≤ 140737488355328) := Lib.hid (by have := hn8.out; omega)
  have hnm1 : Hid (n + 1 ≤ 140737488355328) := Lib.hid (by have := hn8.out; omega)
  have hn1 : Hid (∀ _ : Unit, (layL o ++ [0]).length = n + 1) := Lib.hid fun _ => by rw [List.length_append, hn.out ()]; rfl
  have hlt : Hid (∀ x ∈ layL o, x < 256) := Lib.hid (layL_lt hok.out.1 hok.out.2 hok.out.1.kind)
  have hlt1 : Hid (∀ x ∈ layL o ++ [0], x < 256) := Lib.hid fun x hx => by
    rcases List.mem_append.1 hx with h | h
    · exact hlt.out x h
    · simp at h; omega
  have hde : Hid (decM (layL o) = (0, o)) := Lib.hid (decM_back (hE.out ()) hok.out.1 hok.out.2)
  obtain ⟨M, O2, hmo⟩ : ∃ M O2, Hid (decM (layL o ++ [0]) = (M, O2)) := ⟨_, _, Lib.hid rfl⟩
  obtain ⟨X, hX⟩ : ∃ X, Hid (∀ _ : Unit, sumK ks (layL o) = X) := ⟨_, Lib.hid fun _ => rfl⟩
  obtain ⟨kn, hkn⟩ : ∃ kn, Hid (∀ _ : Unit, (kidsL o).length = kn) := ⟨_, Lib.hid fun _ => rfl⟩
  have hkm : Hid (kn ≤ 9223372036854775807) := Lib.hid (by
    have := kidsL_length o
    have h1 := hm'.out.may.fit.ps
    have h2 := hm'.out.may.fit.xs
    have h3 := hm'.out.may.fit.ks
    rw [hkn.out ()] at this
    split at this <;> (try split at this) <;> (try split at this) <;> omega)
  have hqn : Hid (∀ W, (binOp .neq 28 (.agg (encK X).toArray) (.agg (encK X).toArray)).run Tryd.prog W = .ok (.bool false) W) := Lib.hid fun W => by have := neK X X W; simpa using this
  have hgt : Hid (1 < o.kind → M ≠ 0) := Lib.hid fun h => by have := decM_more (hE.out ()) hok.out.1 hok.out.2 h (b := 0) (by decide); rwa [hmo.out] at this
  have l39 : Hid (∀ o p, (ocells o p).length = 39) := Lib.hid ocells_length
  have hD : Hid (decM l = (0, O)) := Lib.hid hD1
  have hOk : Hid (Read O) := Lib.hid (by have := hrd.out; rwa [hD1] at this)
  have hOe : Hid (encE O = 0) := Lib.hid (by have := (decM_again h256'.out (by rw [hD1])).1; rwa [hD1] at this)
  have hOl : Hid (∀ _ : Unit, layL O = l) := Lib.hid fun _ => (by have := (decM_again h256'.out (by rw [hD1])).2; rwa [hD1] at this)
  have hOn : Hid (∀ _ : Unit, (layL O).length = L) := Lib.hid fun _ => by rw [hOl.out (), hl'.out ()]
  clear hD1
  clear hm hT hA hb hl hs h256 hi39
  go_enter Tryd.func9, Tryd.ntmps9
  go_wp2_with (first
    | (refine wpList_built rfl 31 _ #[(0, .int .u8 1), (1, .slice (some ⟨_, 0, none⟩) 2 2)] rfl (by rw [List.map_toArray]; rfl) _ (buildHi _ _) ?_)
    | (go_at_call 12
       have hH0 : Hid (((w.alloc (.cells (ocells o p).toArray 31)).alloc (.cells #[.int .u8 104, .int .u8 105] 5 (2, 3))).heap[w.heap.size + 1]? = some (.cells #[.int .u8 104, .int .u8 105] 5 (2, 3))) := Lib.hid (by
         have := heap_alloc_new (w.alloc (.cells (ocells o p).toArray 31)) (.cells #[.int .u8 104, .int .u8 105] 5 (2, 3))
         simpa using this)
       have hK1 : Hid (KSt w ((w.alloc (.cells (ocells o p).toArray 31)).alloc (.cells #[.int .u8 104, .int .u8 105] 5 (2, 3))) o p) := Lib.hid (hK0.out.on ((Below.refl _ _).alloc (Nat.le_refl _) _))
       generalize (w.alloc (.cells (ocells o p).toArray 31)).alloc (.cells #[.int .u8 104, .int .u8 105] 5 (2, 3)) = w1 at hH0 hK1 ⊢
       refine (encode_ok w1 hiO _ (hi_in (u8t_keep hU.out hK1.out.bel) hH0.out) hi_enc (n := 3) rfl).mono ?_
       rintro e w2 ⟨⟨A2, c2, rfl, o2⟩, b2⟩
       rw [hi_lay] at o2
       have hK2 := Lib.hid (hK1.out.on b2)
       have o2' := Lib.hid o2
       clear o2 b2 hK0 hK1 hH0)
    | (go_at_call 19
       refine (dec_own w2 (u8t_keep hU.out hK2.out.bel) [1, 104, 105] rfl o2'.out (by decide) (by decide) hi_dec).mono ?_
       rintro e w3 ⟨⟨q3, rfl, o3⟩, b3⟩
       have hK3 := Lib.hid (hK2.out.on b3)
       have o3' := Lib.hid o3
       have e3 := Lib.hid (o2'.out.below b3 fun k hk => (o2'.out.lt k hk).2)
       clear o3 b3 hK2 o2')
    | (refine wpList_store_row rfl 31 _ _ rfl w3.heap.size (ocells hiO q3).toArray rfl rfl 31 _ (heap_alloc_new w3 _) (by rw [h39'.out]; exact hi39'.out) (by rw [h39'.out, h39'.out]) (hone'.out _ _) ?_
       have hnw := row_new w3 31 (ocells oZ pZ).toArray (ocells hiO q3).toArray
       have hbb := hnw.2 w3.heap.size (Nat.le_refl _)
       generalize ((w3.alloc (.cells (ocells oZ pZ).toArray 31)).setRow w3.heap.size (ocells hiO q3).toArray) = w4 at hnw hbb ⊢
       have hK4 := Lib.hid (hK3.out.on hbb)
       have e4 := Lib.hid (e3.out.below hbb fun k hk => (e3.out.lt k hk).2)
       have o4 := Lib.hid (o3'.out.below hbb)
       have hcv := conv_bytes w4 [1, 104, 105] A2 c2 _ e4.out.byt (by decide)
       have hcw := conv_bytes w4 [104, 105] q3.Ad q3.cd _ o4.out.d.byt (by decide)
       have hs1 : strB [1, 104, 105] = ⟨#[1, 104, 105]⟩ := rfl
       have hs2 : strB [104, 105] = ⟨#[104, 105]⟩ := rfl
       rw [hs1] at hcv
       rw [hs2] at hcw
       have x1 : w4.cell? ⟨w3.heap.size, 1, none⟩ = some (.slice q3.Ad 2 q3.cd) := OBlk.c1 (o := hiO) hnw.1
       simp only [List.length_cons, List.length_nil, Nat.zero_add, Nat.reduceAdd] at hcv hcw
       clear hs1 hs2 hnw hbb hK3 e3 o3' e4 o4)
    | (refine wpList_load_row_g rfl 31 _ rfl w.heap.size rfl 31 _ (0, 0) _ hK4.out.blk Tryd.underlying31 rfl (by rw [h39'.out]; exact hi39'.out) ?_)
    | (go_at_call 12
       refine (encode_ok w4 o p (enc_to hm'.out hK4.out.bel) (hE.out ()) (hn.out ())).mono ?_
       rintro e w5 ⟨⟨A5, c5, rfl, o5⟩, b5⟩
       have hK5 := Lib.hid (hK4.out.on b5)
       have o5' := Lib.hid o5
       clear o5
       clear b5 hK4 hcv hcw x1)
    | (go_at_call 19
       refine (dec_own w5 (u8t_keep hU.out hK5.out.bel) (layL o) (hn.out ()) o5'.out hnm.out hlt.out hde.out).mono ?_
       rintro e w6 ⟨⟨q, rfl, o6⟩, b6⟩
       have hK6 := Lib.hid (hK5.out.on b6)
       have o6' := Lib.hid (o6.base (Nat.zero_le _))
       have e6 := Lib.hid ((o5'.out.below b6 fun k hk => (o5'.out.lt k hk).2).base (Nat.zero_le _))
       clear o6 b6 hK5 o5')
    | (refine wpList_store_row rfl 31 _ _ rfl w6.heap.size (ocells o q).toArray rfl rfl 31 _ (heap_alloc_new w6 _) (by rw [h39'.out]; exact hi39'.out) (by rw [h39'.out, h39'.out]) (hone'.out _ _) ?_
       have hnw := row_new w6 31 (ocells oZ pZ).toArray (ocells o q).toArray
       have hbb := hnw.2 w6.heap.size (Nat.le_refl _)
       generalize ((w6.alloc (.cells (ocells oZ pZ).toArray 31)).setRow w6.heap.size (ocells o q).toArray) = w7 at hnw hbb ⊢
       have hs7 : Hid (BkS w w7 o p q w6.heap.size A5 n c5) := Lib.hid ⟨hK6.out.on hbb, hnw.1, o6'.out.below hbb, e6.out.below hbb fun k hk => (e6.out.lt k hk).2⟩
       clear hnw hbb hK6 o6' e6
       generalize w6.heap.size = SP at hs7 ⊢))
  obtain ⟨S, hS⟩ : ∃ S : World → Prop, S = fun W => BkS w W o p q SP A5 n c5 := ⟨_, rfl⟩
  have s0 : Hid (S w7) := Lib.hid (by rw [hS]; exact hs7.out)
  have sG : Hid (∀ W, S W → BkS w W o p q SP A5 n c5) := Lib.hid fun W h => by rwa [hS] at h
  have sK : Hid (∀ W W', S W → Below W.heap.size W W' → S W') := Lib.hid fun W W' h hb => by
    rw [hS] at h ⊢
    exact h.on hb
  clear hS hs7
  have sA : Hid (∀ W, S W → W.rangeAt w.heap.size 0 (ocells o p)) := Lib.hid fun W h => OBlk.rangeO (sG.out W h).ks.blk
  have sB : Hid (∀ W, S W → W.rangeAt SP 0 (ocells o q)) := Lib.hid fun W h => OBlk.rangeO (sG.out W h).blk
  have sL : Hid (∀ W, S W → Below w.heap.size w W) := Lib.hid fun W h => (sG.out W h).ks.bel
  have sP : Hid (∀ W, S W → EncIn W o p) := Lib.hid fun W h => enc_to hm'.out (sL.out W h)
  have sQ : Hid (∀ W, S W → EncIn W o q) := Lib.hid fun W h => enc_of (u8t_keep hU.out (sL.out W h)) (sG.out W h).own hm'.out.may.fit hm'.out.good
  have rfS : Hid (∀ W, S W → Calls Tryd.prog 14 #[.agg (ocells o p).toArray, .agg (ocells o q).toArray] W fun e w' => e = .returned (.bool true) ∧ Below W.heap.size W w') := Lib.hid fun W h =>
    refSame_self W o p q (sP.out W h).may.oin (sQ.out W h).may.oin hm'.out.may.fit
  have kdP : Hid (∀ W, S W → Calls Tryd.prog 28 #[.agg (ocells o p).toArray] W fun e w' => (∃ A c, e = .returned (.slice A kn c) ∧ Own w' W.heap.size 28 32 A kn c (flat encK (kidsL o))) ∧ Below W.heap.size W w') := Lib.hid fun W h => by
    have := kids_any W o p (sP.out W h).may.oin hm'.out.may.fit
    rwa [hkn.out ()] at this
  have kdQ : Hid (∀ W, S W → Calls Tryd.prog 28 #[.agg (ocells o q).toArray] W fun e w' => (∃ A c, e = .returned (.slice A kn c) ∧ Own w' W.heap.size 28 32 A kn c (flat encK (kidsL o))) ∧ Below W.heap.size W w') := Lib.hid fun W h => by
    have := kids_any W o q (sQ.out W h).may.oin hm'.out.may.fit
    rwa [hkn.out ()] at this
  have ckS : Hid (∀ W, S W → Calls Tryd.prog 16 #[.agg (ocells o p).toArray] W fun e w' => e = .returned (.int .i64 0) ∧ Below W.heap.size W w') := Lib.hid fun W h => check_to W o p (sP.out W h) (hE.out ())
  have koS : Hid (∀ W, S W → Calls Tryd.prog 23 #[.agg (ocells o q).toArray] W fun e w' => e = .returned (.tuple #[.agg (encK X).toArray, .int .i64 0]) ∧ Below W.heap.size W w') := Lib.hid fun W h => by
    have := keyOf_any W o q (sQ.out W h) ks (hT'.out.below (sL.out W h))
    unfold keyL at this
    rw [if_pos (hE.out ()), hX.out (), hE.out ()] at this
    exact this
  have smS : Hid (∀ W, S W → Calls Tryd.prog 29 #[.slice A5 n c5] W fun e w' => e = .returned (.agg (encK X).toArray) ∧ Below W.heap.size W w') := Lib.hid fun W h => by
    have hTW := hT'.out.below (sL.out W h)
    have := refSum_any W ks (layL o) A5 c5 hTW.r hTW.b hTW.len hTW.lt hlt.out (sG.out W h).enc.byt (by rw [hn.out ()]; exact hnm.out)
    rw [hn.out ()] at this
    have hX2 : encK X = u8s (digest ks (layL o)) := by rw [← hX.out ()]; rfl
    rw [hX2]
    exact this
  go_wp2_with fail
  refine wp_region_held (S := S) (by kernel_rfl) ?_
  change wpAnyH _ _ _ _ _ _ _ _ (World.drew _)
  have hd : Hid (S w7.drew) := Lib.hid (sK.out _ _ s0.out (below_drewN (Below.refl _ _) 1))
  refine wpAnyH_take (i := 0) (v := .int .i64 0) rfl (by kernel_rfl) (by kernel_rfl) (by kernel_rfl) (fun _ _ _ h => h) (Or.inl ⟨by rfl, by intro W _; go_simp⟩) hd.out ?_
  refine wpAnyH_take (i := 1) (v := .bool false) rfl (by kernel_rfl) (by kernel_rfl) (by kernel_rfl) (fun _ _ _ h => h) (Or.inl ⟨by rfl, by intro W _; go_simp⟩) hd.out ?_
  refine wpAnyH_take (i := 2) (v := .bool false) rfl (by kernel_rfl) (by kernel_rfl) (by kernel_rfl) (fun _ _ _ h => h) (Or.inl ⟨by rfl, by intro W _; go_simp⟩) hd.out ?_
  refine wpAnyH_take (i := 3) rfl (by kernel_rfl) (by kernel_rfl) (by kernel_rfl) (fun _ _ _ h => h) (yieldsIf_load_mid (by rfl) 31 _ rfl w.heap.size 0 rfl (ocells o p) _ sA.out Tryd.underlying31 rfl (by rw [l39.out]; exact hi39'.out)) hd.out ?_
  refine wpAnyH_take (i := 4) rfl (by kernel_rfl) (by kernel_rfl) (by kernel_rfl) (fun _ _ _ h => h) (yieldsIf_load_mid (by rfl) 31 _ rfl SP 0 rfl (ocells o q) _ sB.out Tryd.underlying31 rfl (by rw [l39.out]; exact hi39'.out)) hd.out ?_
  simp only [Act.put, List.setIfInBounds_toArray, List.set_cons_zero, List.set_cons_succ]
  refine wpAnyH_ready (rs := [5]) (by kernel_rfl) (by simp) ?_
  refine AllReadyH.cons rfl (fun K hK => ?_) AllReadyH.nil
  go_simp
  go_wp2_with (go_at_call 14; refine (rfS.out _ hd.out).mono ?_; rintro e w8 ⟨rfl, b8⟩; skip)
  have hd8 := Lib.hid (sK.out _ _ hd.out b8)
  refine hK.out _ _ hd8.out (fun _ => ?_)
  clear hK K b8
  refine wpAnyH_take (i := 6) (v := .bool false) rfl (by kernel_rfl) (by kernel_rfl) (by kernel_rfl) (fun _ _ _ h => h) (Or.inl ⟨by rfl, by intro W _; go_simp⟩) hd8.out ?_
  refine wpAnyH_take (i := 7) (v := .bool false) rfl (by kernel_rfl) (by kernel_rfl) (by kernel_rfl) (fun _ _ _ h => h) (Or.inl ⟨by rfl, by intro W _; go_simp⟩) hd8.out ?_
  refine wpAnyH_take (i := 8) (v := .bool false) rfl (by kernel_rfl) (by kernel_rfl) (by kernel_rfl) (fun _ _ _ h => h) (Or.inl ⟨by rfl, by intro W _; go_simp⟩) hd8.out ?_
  refine wpAnyH_take (i := 9) rfl (by kernel_rfl) (by kernel_rfl) (by kernel_rfl) (fun _ _ _ h => h) (yieldsIf_load_mid (by rfl) 31 _ rfl w.heap.size 0 rfl (ocells o p) _ sA.out Tryd.underlying31 rfl (by rw [l39.out]; exact hi39'.out)) hd8.out ?_
  refine wpAnyH_take (i := 11) rfl (by kernel_rfl) (by kernel_rfl) (by kernel_rfl) (fun _ _ _ h => h) (yieldsIf_load_mid (by rfl) 31 _ rfl SP 0 rfl (ocells o q) _ sB.out Tryd.underlying31 rfl (by rw [l39.out]; exact hi39'.out)) hd8.out ?_
  simp only [Act.put, List.setIfInBounds_toArray, List.set_cons_zero, List.set_cons_succ]
  refine wpAnyH_ready (rs := [10]) (by kernel_rfl) (by simp) ?_
  refine AllReadyH.cons rfl (fun K hK => ?_) AllReadyH.nil
  go_simp
  go_wp2_with (go_at_call 28; refine (kdP.out _ hd8.out).mono ?_; rintro e w9 ⟨⟨AP, cP, rfl, k9⟩, b9⟩; skip)
  have hd9 := Lib.hid (sK.out _ _ hd8.out b9)
  have k9' := Lib.hid k9
  refine hK.out _ _ hd9.out (fun _ => ?_)
  clear hK K b9 k9
  refine wpAnyH_ready (rs := [12]) (by kernel_rfl) (by simp) ?_
  refine AllReadyH.cons rfl (fun K hK => ?_) AllReadyH.nil
  go_simp
  go_wp2_with (go_at_call 28; refine (kdQ.out _ hd9.out).mono ?_; rintro e wa ⟨⟨AQ, cQ, rfl, ka⟩, ba⟩; skip)
  have hda := Lib.hid (sK.out _ _ hd9.out ba)
  have rP := Lib.hid ((k9'.out.below ba fun k hk => (k9'.out.lt k hk).2).rowK (hkn.out ()))
  have rQ := Lib.hid (ka.rowK (hkn.out ()))
  refine hK.out _ _ hda.out (fun _ => ?_)
  clear hK K ba ka k9' hd9
  refine wpAnyH_ready (rs := [13]) (by kernel_rfl) (by simp) ?_
  refine AllReadyH.cons rfl (fun K hK => ?_) AllReadyH.nil
  go_simp
  go_wp2_with (go_at_call 27; refine (sameKids _ _ kn (hkn.out ()) _ _ _ _ _ _ rP.out rQ.out hkm.out).mono ?_; rintro e w' ⟨rfl, qn, rfl⟩; skip)
  have hdb := Lib.hid (sK.out _ _ hda.out (below_drewN (Below.refl _ _) qn))
  refine hK.out _ _ hdb.out (fun _ => ?_)
  clear hK K hda rP rQ
  refine wpAnyH_take (i := 14) (v := .bool false) rfl (by kernel_rfl) (by kernel_rfl) (by kernel_rfl) (fun _ _ _ h => h) (Or.inl ⟨by rfl, by intro W _; go_simp⟩) hdb.out ?_
  refine wpAnyH_take (i := 15) (v := .bool false) rfl (by kernel_rfl) (by kernel_rfl) (by kernel_rfl) (fun _ _ _ h => h) (Or.inl ⟨by rfl, by intro W _; go_simp⟩) hdb.out ?_
  refine wpAnyH_take (i := 16) (v := .bool false) rfl (by kernel_rfl) (by kernel_rfl) (by kernel_rfl) (fun _ _ _ h => h) (Or.inl ⟨by rfl, by intro W _; go_simp⟩) hdb.out ?_
  refine wpAnyH_take (i := 17) rfl (by kernel_rfl) (by kernel_rfl) (by kernel_rfl) (fun _ _ _ h => h) (yieldsIf_load_mid (by rfl) 31 _ rfl w.heap.size 0 rfl (ocells o p) _ sA.out Tryd.underlying31 rfl (by rw [l39.out]; exact hi39'.out)) hdb.out ?_
  simp only [Act.put, List.setIfInBounds_toArray, List.set_cons_zero, List.set_cons_succ]
  refine wpAnyH_ready (rs := [18]) (by kernel_rfl) (by simp) ?_
  refine AllReadyH.cons rfl (fun K hK => ?_) AllReadyH.nil
  go_simp
  go_wp2_with (go_at_call 16; refine (ckS.out _ hdb.out).mono ?_; rintro e wc ⟨rfl, bc⟩; skip)
  have hdc := Lib.hid (sK.out _ _ hdb.out bc)
  refine hK.out _ _ hdc.out (fun _ => ?_)
  clear hK K bc hdb
  refine wpAnyH_take (i := 19) (v := .bool false) rfl (by kernel_rfl) (by kernel_rfl) (by kernel_rfl) (fun _ _ _ h => h) (Or.inl ⟨by rfl, by intro W _; go_simp⟩) hdc.out ?_
  refine wpAnyH_take (i := 20) (v := .bool false) rfl (by kernel_rfl) (by kernel_rfl) (by kernel_rfl) (fun _ _ _ h => h) (Or.inl ⟨by rfl, by intro W _; go_simp⟩) hdc.out ?_
  simp only [Act.put, List.setIfInBounds_toArray, List.set_cons_zero, List.set_cons_succ]
  refine wpAnyH_done (by kernel_rfl) ?_ _
  go_wp2_with (first
    | (refine wpList_load_row_g rfl 31 _ rfl SP rfl 31 _ (0, 0) _ (sG.out _ hdc.out).blk Tryd.underlying31 rfl (by rw [h39'.out]; exact hi39'.out) ?_)
    | (go_at_call 23
       refine (koS.out _ hdc.out).mono ?_
       rintro e wd ⟨rfl, bd⟩
       have hdd := Lib.hid (sK.out _ _ hdc.out bd)
       clear bd)
    | (refine wpList_store_row rfl 28 _ _ rfl wd.heap.size (encK X).toArray rfl rfl 28 _ (heap_alloc_new wd _) (by rw [h32'.out]; exact hi32'.out) (by rw [h32'.out, h32'.out]) (honk'.out _) ?_
       have hnk := row_new wd 28 (encK zK).toArray (encK X).toArray
       have hbk := hnk.2 wd.heap.size (Nat.le_refl _)
       generalize ((wd.alloc (.cells (encK zK).toArray 28)).setRow wd.heap.size (encK X).toArray) = we at hnk hbk ⊢
       have hke := Lib.hid hnk.1
       have hde := Lib.hid (sK.out _ _ hdd.out hbk)
       clear hnk hbk hdd
       generalize wd.heap.size = SK at hke ⊢))
  have sk0 : Hid (S we ∧ we.heap[SK]? = some (.cells (encK X).toArray 28 (0, 0))) := Lib.hid ⟨hde.out, hke.out⟩
  have sR : Hid (∀ W, (S W ∧ W.heap[SK]? = some (.cells (encK X).toArray 28 (0, 0))) → W.rangeAt SK 0 (encK X)) := Lib.hid fun W h => row_range h.2
  refine wp_region_held (S := fun W => S W ∧ W.heap[SK]? = some (.cells (encK X).toArray 28 (0, 0))) (by kernel_rfl) ?_
  change wpAnyH _ _ _ _ _ _ _ _ (World.drew _)
  have hk : Hid (S we.drew ∧ we.drew.heap[SK]? = some (.cells (encK X).toArray 28 (0, 0))) := Lib.hid ⟨sK.out _ _ sk0.out.1 (below_drewN (Below.refl _ _) 1), sk0.out.2⟩
  refine wpAnyH_take (i := 0) (v := .int .i64 0) rfl (by kernel_rfl) (by kernel_rfl) (by kernel_rfl) (fun _ _ _ h => h) (Or.inl ⟨by rfl, by intro W _; go_simp⟩) hk.out ?_
  refine wpAnyH_take (i := 1) (v := .bool false) rfl (by kernel_rfl) (by kernel_rfl) (by kernel_rfl) (fun _ _ _ h => h) (Or.inl ⟨by rfl, by intro W _; go_simp⟩) hk.out ?_
  refine wpAnyH_take (i := 2) (v := .bool false) rfl (by kernel_rfl) (by kernel_rfl) (by kernel_rfl) (fun _ _ _ h => h) (Or.inl ⟨by rfl, by intro W _; go_simp⟩) hk.out ?_
  refine wpAnyH_take (i := 3) rfl (by kernel_rfl) (by kernel_rfl) (by kernel_rfl) (fun _ _ _ h => h) (yieldsIf_load_mid (by rfl) 28 _ rfl SK 0 rfl (encK X) _ sR.out Tryd.underlying28 rfl (by rw [encK_length]; exact hi32'.out)) hk.out ?_
  refine wpAnyH_take (i := 4) (v := .slice A5 n c5) rfl (by kernel_rfl) (by kernel_rfl) (by kernel_rfl) (fun _ _ _ h => h) (Or.inl ⟨by rfl, by intro W _; go_simp⟩) hk.out ?_
  simp only [Act.put, List.setIfInBounds_toArray, List.set_cons_zero, List.set_cons_succ]
  refine wpAnyH_ready (rs := [5]) (by kernel_rfl) (by simp) ?_
  refine AllReadyH.cons rfl (fun K hK => ?_) AllReadyH.nil
  go_simp
  go_wp2_with (go_at_call 29; refine (smS.out _ hk.out.1).mono ?_; rintro e wf ⟨rfl, bf⟩; skip)
  have hdf := Lib.hid (sK.out _ _ hk.out.1 bf)
  have hkf : Hid (S wf ∧ wf.heap[SK]? = some (.cells (encK X).toArray 28 (0, 0))) := Lib.hid ⟨hdf.out, (bf.block SK (lt_of_block hk.out.2)).trans hk.out.2⟩
  refine hK.out _ _ hkf.out (fun _ => ?_)
  clear hK K bf hk
  refine wpAnyH_take (i := 6) rfl (by kernel_rfl) (by kernel_rfl) (by kernel_rfl) (fun _ _ _ h => h) (yieldsIf_bin (by rfl) .neq 28 _ _ _ rfl (.agg (encK X).toArray) (.agg (encK X).toArray) rfl rfl (.bool false) (fun W => by rw [guK]) (fun W _ => hqn.out W)) hkf.out ?_
  refine wpAnyH_take (i := 7) (v := .bool false) rfl (by kernel_rfl) (by kernel_rfl) (by kernel_rfl) (fun _ _ _ h => h) (Or.inl ⟨by rfl, by intro W _; go_simp⟩) hkf.out ?_
  simp only [Act.put, List.setIfInBounds_toArray, List.set_cons_zero, List.set_cons_succ]
  refine wpAnyH_done (by kernel_rfl) ?_ _
  by_cases hkd : 1 < o.kind
  · have hM := hgt.out hkd
    have hgk : (1 : Int) < (o.kind : Int) := by omega
    have hqM : ((M : Int) == 0) = false := by rw [beq_eq_false_iff_ne]; omega
    clear hM hkd
    go_wp2_with (first
      | (go_at_call 18
         refine (spare_to wf (layL o) (hn.out ()) A5 c5 (sG.out _ hdf.out).enc.byt hnm.out).mono ?_
         rintro e wg ⟨⟨gg, cg, rfl, og⟩, bg⟩
         have hbg := Lib.hid bg
         have og' := Lib.hid (spare_own (hn.out ()) og)
         have hgs := Lib.hid bg.size
         clear og bg)
      | (at_builtin; (refine wpList_app1 elB _ #[_] rfl rfl _ _ rfl rfl og'.out rfl (by intro u hu; simp at hu; subst hu; rfl) (by unfold maxLen; have := hn8.out; omega) (by have := hn8.out; omega) hgs.out (n + 1) rfl (u8s (layL o ++ [0])) (by rw [u8s_append]; rfl) ?_)
         intro Ah ch wh oh _ bh
         have hdh := Lib.hid (sK.out _ _ hdf.out (hbg.out.trans bh))
         have oh' := Lib.hid oh
         clear oh bh)
      | (go_at_call 19
         refine (dec_own wh (u8t_keep hU.out (sL.out _ hdh.out)) (layL o ++ [0]) (hn1.out ()) oh'.out hnm1.out hlt1.out hmo.out).mono ?_
         rintro e wi ⟨⟨qi, rfl, oi⟩, bi⟩
         have hdi := Lib.hid (sK.out _ _ hdh.out bi)
         have xk := (sG.out _ hdi.out).ks.blk.c0
         have hBt := Lib.hid (sL.out _ hdi.out)
         clear oi bi oh')
      | (go_at_call 19
         refine (dec_in wi (u8t_keep hU.out hBt.out) l (hl'.out ()) hA'.out ((hb'.out.below hBt.out).mono hBt.out.size) hs'.out h256'.out hD.out).mono ?_
         rintro e wu ⟨⟨qu, rfl, ou⟩, bu⟩
         have hBu := Lib.hid (hBt.out.trans (bu.mono hBt.out.size))
         have ou' := Lib.hid (ou.base (Nat.zero_le _))
         clear ou bu)
      | (refine wpList_store_row rfl 31 _ _ rfl wu.heap.size (ocells O qu).toArray rfl rfl 31 _ (heap_alloc_new wu _) (by rw [h39'.out]; exact hi39'.out) (by rw [h39'.out, h39'.out]) (hone'.out _ _) ?_
         have hnv := row_new wu 31 (ocells oZ pZ).toArray (ocells O qu).toArray
         have hbv := hnv.2 wu.heap.size (Nat.le_refl _)
         generalize ((wu.alloc (.cells (ocells oZ pZ).toArray 31)).setRow wu.heap.size (ocells O qu).toArray) = wv at hnv hbv ⊢
         have hBv := Lib.hid (hBu.out.trans (hbv.mono hBu.out.size))
         have ov := Lib.hid (ou'.out.below hbv)
         have hxv := Lib.hid hnv.1
         clear hnv hbv hBu ou'
         generalize wu.heap.size = SV at hxv ⊢)
      | (refine wpList_load_row_g rfl 31 _ rfl SV rfl 31 _ (0, 0) _ hxv.out Tryd.underlying31 rfl (by rw [h39'.out]; exact hi39'.out) ?_)
      | (go_at_call 12
         refine (encode_ok wv O qu (enc_of (u8t_keep hU.out hBv.out) ov.out hOk.out.fit hOk.out.good) hOe.out (hOn.out ())).mono ?_
         rintro e wx ⟨⟨Ax, cx, rfl, ox⟩, bx⟩
         rw [hOl.out ()] at ox
         have hBx := Lib.hid (hBv.out.trans (bx.mono hBv.out.size))
         have oy := Lib.hid (ov.out.below bx)
         have hxx := Lib.hid ((bx.block SV (lt_of_block hxv.out)).trans hxv.out)
         have hcv := conv_bytes wx l Ax cx _ ox.byt h256'.out
         have hcw := conv_bytes wx l A c _ (hb'.out.below hBx.out) h256'.out
         rw [hl'.out ()] at hcv hcw
         clear ox bx hBv ov hxv)
      | (refine wpList_load_row_g rfl 31 _ rfl SV rfl 31 _ (0, 0) _ hxx.out Tryd.underlying31 rfl (by rw [h39'.out]; exact hi39'.out) ?_)
      | (go_at_call 16
         refine (check_to wx O qu (enc_of (u8t_keep hU.out hBx.out) oy.out hOk.out.fit hOk.out.good) hOe.out).mono ?_
         rintro e wy ⟨rfl, by_⟩
         have hBy := Lib.hid (hBx.out.trans (by_.mono hBx.out.size))
         clear by_))
    go_ret
    exact ⟨rfl, hBy.out⟩
  · have hgk : ¬ (1 : Int) < (o.kind : Int) := by omega
    have hkd1 := Lib.hid hkd
    clear hkd
    go_wp2_with (first
      | (go_at_call 18
         refine (spare_to wf (layL o) (hn.out ()) A5 c5 (sG.out _ hdf.out).enc.byt hnm.out).mono ?_
         rintro e wg ⟨⟨gg, cg, rfl, og⟩, bg⟩
         have hbg := Lib.hid bg
         have og' := Lib.hid (spare_own (hn.out ()) og)
         have hgs := Lib.hid bg.size
         clear og bg)
      | (at_builtin; (refine wpList_app1 elB _ #[_] rfl rfl _ _ rfl rfl og'.out rfl (by intro u hu; simp at hu; subst hu; rfl) (by unfold maxLen; have := hn8.out; omega) (by have := hn8.out; omega) hgs.out (n + 1) rfl (u8s (layL o ++ [0])) (by rw [u8s_append]; rfl) ?_)
         intro Ah ch wh oh _ bh
         have hdh := Lib.hid (sK.out _ _ hdf.out (hbg.out.trans bh))
         have oh' := Lib.hid oh
         clear oh bh)
      | (go_at_call 19
         refine (dec_own wh (u8t_keep hU.out (sL.out _ hdh.out)) (layL o ++ [0]) (hn1.out ()) oh'.out hnm1.out hlt1.out hmo.out).mono ?_
         rintro e wi ⟨⟨qi, rfl, oi⟩, bi⟩
         have hdi := Lib.hid (sK.out _ _ hdh.out bi)
         have xk := (sG.out _ hdi.out).ks.blk.c0
         have hBt := Lib.hid (sL.out _ hdi.out)
         clear oi bi oh')
      | (go_at_call 19
         refine (dec_in wi (u8t_keep hU.out hBt.out) l (hl'.out ()) hA'.out ((hb'.out.below hBt.out).mono hBt.out.size) hs'.out h256'.out hD.out).mono ?_
         rintro e wu ⟨⟨qu, rfl, ou⟩, bu⟩
         have hBu := Lib.hid (hBt.out.trans (bu.mono hBt.out.size))
         have ou' := Lib.hid (ou.base (Nat.zero_le _))
         clear ou bu)
      | (refine wpList_store_row rfl 31 _ _ rfl wu.heap.size (ocells O qu).toArray rfl rfl 31 _ (heap_alloc_new wu _) (by rw [h39'.out]; exact hi39'.out) (by rw [h39'.out, h39'.out]) (hone'.out _ _) ?_
         have hnv := row_new wu 31 (ocells oZ pZ).toArray (ocells O qu).toArray
         have hbv := hnv.2 wu.heap.size (Nat.le_refl _)
         generalize ((wu.alloc (.cells (ocells oZ pZ).toArray 31)).setRow wu.heap.size (ocells O qu).toArray) = wv at hnv hbv ⊢
         have hBv := Lib.hid (hBu.out.trans (hbv.mono hBu.out.size))
         have ov := Lib.hid (ou'.out.below hbv)
         have hxv := Lib.hid hnv.1
         clear hnv hbv hBu ou'
         generalize wu.heap.size = SV at hxv ⊢)
      | (refine wpList_load_row_g rfl 31 _ rfl SV rfl 31 _ (0, 0) _ hxv.out Tryd.underlying31 rfl (by rw [h39'.out]; exact hi39'.out) ?_)
      | (go_at_call 12
         refine (encode_ok wv O qu (enc_of (u8t_keep hU.out hBv.out) ov.out hOk.out.fit hOk.out.good) hOe.out (hOn.out ())).mono ?_
         rintro e wx ⟨⟨Ax, cx, rfl, ox⟩, bx⟩
         rw [hOl.out ()] at ox
         have hBx := Lib.hid (hBv.out.trans (bx.mono hBv.out.size))
         have oy := Lib.hid (ov.out.below bx)
         have hxx := Lib.hid ((bx.block SV (lt_of_block hxv.out)).trans hxv.out)
         have hcv := conv_bytes wx l Ax cx _ ox.byt h256'.out
         have hcw := conv_bytes wx l A c _ (hb'.out.below hBx.out) h256'.out
         rw [hl'.out ()] at hcv hcw
         clear ox bx hBv ov hxv)
      | (refine wpList_load_row_g rfl 31 _ rfl SV rfl 31 _ (0, 0) _ hxx.out Tryd.underlying31 rfl (by rw [h39'.out]; exact hi39'.out) ?_)
      | (go_at_call 16
         refine (check_to wx O qu (enc_of (u8t_keep hU.out hBx.out) oy.out hOk.out.fit hOk.out.good) hOe.out).mono ?_
         rintro e wy ⟨rfl, by_⟩
         have hBy := Lib.hid (hBx.out.trans (by_.mono hBx.out.size))
         clear by_))
    go_ret
    exact ⟨rfl, hBy.out⟩
end
end Go.Proofs.YtkjndgapejbgcaaDoor

namespace Go.Proofs.YtkjndgapejbgcaaDoor
open Go.RowKit

def ksL : List Nat := [1116352408, 1899447441, 3049323471, 3921009573, 961987163, 1508970993, 2453635748, 2870763221, 3624381080, 310598401, 607225278, 1426881987, 1925078388, 2162078206, 2614888103, 3248222580, 3835390401, 4022224774, 264347078, 604807628, 770255983, 1249150122, 1555081692, 1996064986, 2554220882, 2821834349, 2952996808, 3210313671, 3336571891, 3584528711, 113926993, 338241895, 666307205, 773529912, 1294757372, 1396182291, 1695183700, 1986661051, 2177026350, 2456956037, 2730485921, 2820302411, 3259730800, 3345764771, 3516065817, 3600352804, 4094571909, 275423344, 430227734, 506948616, 659060556, 883997877, 958139571, 1322822218, 1537002063, 1747873779, 1955562222, 2024104815, 2227730452, 2361852424, 2428436474, 2756734187, 3204031479, 3329325298]
theorem ksL_length : ksL.length = 64 := rfl
set_option maxRecDepth 10000 in
theorem ksL_lt : ∀ x ∈ ksL, x < 4294967296 := by decide

theorem tab_at {W : World} {name : String} {k : IntKind} {g : Nat} {l : List Nat} (h : Lib.TabIs Tryd.prog W name k (l.map fun n : Nat => (n : Int))) (hg : Tryd.prog.globalNamed name = some g) :
    ∀ wr : World, Below W.heap.size W wr → ∀ t, t < l.length → wr.cell? ⟨g, t, none⟩ = some (.int k ((l[t]?.getD 0 : Nat) : Int)) := by
  intro wr hb t ht
  have h1 := h.cell hg t (by simpa using ht)
  rw [hb.cell (World.block_lt_of_cell? W ⟨g, t, none⟩ h1), h1]
  simp [List.getD, ht]

section
variable {W : World}
theorem tab_ref (h : Lib.TabIs Tryd.prog W "gleaner/gleanerref02.added" .u64 [1116352408, 1899447441, 3049323471, 3921009573, 961987163, 1508970993, 2453635748, 2870763221, 3624381080, 310598401, 607225278, 1426881987, 1925078388, 2162078206, 2614888103, 3248222580, 3835390401, 4022224774, 264347078, 604807628, 770255983, 1249150122, 1555081692, 1996064986, 2554220882, 2821834349, 2952996808, 3210313671, 3336571891, 3584528711, 113926993, 338241895, 666307205, 773529912, 1294757372, 1396182291, 1695183700, 1986661051, 2177026350, 2456956037, 2730485921, 2820302411, 3259730800, 3345764771, 3516065817, 3600352804, 4094571909, 275423344, 430227734, 506948616, 659060556, 883997877, 958139571, 1322822218, 1537002063, 1747873779, 1955562222, 2024104815, 2227730452, 2361852424, 2428436474, 2756734187, 3204031479, 3329325298]) : ∀ wr : World, Below W.heap.size W wr → ∀ t, t < 64 → wr.cell? ⟨1, t, none⟩ = some (.int .u64 ((ksL[t]?.getD 0 : Nat) : Int)) :=
  tab_at (l := ksL) h (by kernel_rfl)
theorem tab_begin (h : Lib.TabIs Tryd.prog W "gleaner/gleanerref02.begin" .u64 [1779033703, 3144134277, 1013904242, 2773480762, 1359893119, 2600822924, 528734635, 1541459225]) : ∀ wr : World, Below W.heap.size W wr → ∀ t, t < 8 → wr.cell? ⟨0, t, none⟩ = some (.int .u64 ((startL[t]?.getD 0 : Nat) : Int)) :=
  tab_at (l := startL) h (by kernel_rfl)
theorem tab_sha (h : Lib.TabIs Tryd.prog W "gleaner/sha.added" .u32 [1116352408, 1899447441, 3049323471, 3921009573, 961987163, 1508970993, 2453635748, 2870763221, 3624381080, 310598401, 607225278, 1426881987, 1925078388, 2162078206, 2614888103, 3248222580, 3835390401, 4022224774, 264347078, 604807628, 770255983, 1249150122, 1555081692, 1996064986, 2554220882, 2821834349, 2952996808, 3210313671, 3336571891, 3584528711, 113926993, 338241895, 666307205, 773529912, 1294757372, 1396182291, 1695183700, 1986661051, 2177026350, 2456956037, 2730485921, 2820302411, 3259730800, 3345764771, 3516065817, 3600352804, 4094571909, 275423344, 430227734, 506948616, 659060556, 883997877, 958139571, 1322822218, 1537002063, 1747873779, 1955562222, 2024104815, 2227730452, 2361852424, 2428436474, 2756734187, 3204031479, 3329325298]) : ∀ wr : World, Below W.heap.size W wr → ∀ t, t < 64 → wr.cell? ⟨4, t, none⟩ = some (.int .u32 ((ksL[t]?.getD 0 : Nat) : Int)) :=
  tab_at (l := ksL) h (by kernel_rfl)
end
end Go.Proofs.YtkjndgapejbgcaaDoor

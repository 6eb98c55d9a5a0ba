/- The document's Decode: the walk. spare and clean, the length as a letter. -/
import Derived.Test.YtkjndgapejbgcaaDoorPkD40
import Derived.Test.YtkjndgapejbgcaaDoorPkD41
import Derived.Test.YtkjndgapejbgcaaDoorPkD35
import Derived.Test.YtkjndgapejbgcaaDoorPkD7

namespace Go.Proofs.YtkjndgapejbgcaaDoor
open Go.RowKit
set_option linter.unusedSimpArgs false
set_option linter.unusedVariables false

theorem rread_any {w : World} {g c : Nat} {A : Option Addr} {l : List Nat} {s : DSt} (h : RDecS w g A c l s) (hl : l.length ≤ 8192) :
    Calls Tryd.prog 52 #[.pointer (some ⟨g, 0, none⟩)] w (RReadPost w g A c l (rreadM l s)) := by
  by_cases h4 : (fixM l 1 s).1 = 0 ∨ 4 < (fixM l 1 s).1
  · exact rread_other h hl _ _ rfl h4
  · rcases (by omega : (fixM l 1 s).1 = 1 ∨ (fixM l 1 s).1 = 2 ∨ (fixM l 1 s).1 = 3 ∨ (fixM l 1 s).1 = 4) with k | k | k | k
    · exact rread_1 h hl (fixM l 1 s).2 (Prod.ext k rfl)
    · exact rread_2 h hl (fixM l 1 s).2 (Prod.ext k rfl)
    · exact rread_3 h hl (fixM l 1 s).2 (Prod.ext k rfl)
    · exact rread_4 h hl (fixM l 1 s).2 (Prod.ext k rfl)
theorem rreadM_ok {l : List Nat} (hl : ∀ x ∈ l, x < 256) (hn : l.length ≤ 8192) (s : DSt) : Read (rreadM l s).1 := by
  have h0 : (⟨#[]⟩ : ByteArray).size = 0 := rfl
  have hk := fixM_lt hl 1 s
  unfold rreadM
  simp only
  split
  · have h1 := rawM_length l (leftM l.length (fixM l 1 s).2) (fixM l 1 s).2
    have h2 := leftM_le l.length (fixM l 1 s).2
    refine ⟨⟨by simp, by simp [oZ], by simp [oZ], by simp [oZ], zk_ok, by simp [oZ], by simp [oZ, h0]⟩, ⟨by simp only; omega, by simp [oZ], by simp [oZ], by simp [oZ], rawM_lt hl _ _⟩, by simp only; omega, by simp [oZ, h0]⟩
  · split
    · have h1 := loopM_length (partM l) (varM l 128 (fixM l 1 s).2).1 (varM l 128 (fixM l 1 s).2).2
      have h2 := varM_most l 128 (fixM l 1 s).2
      exact ⟨⟨by simp, loopM_all (partM_ok hl) _ _, by simp [oZ], by simp [oZ], zk_ok, by simp [oZ], by simp [oZ, h0]⟩, ⟨by simp [oZ], by simp only; omega, by simp [oZ], by simp [oZ], by simp [oZ]⟩, by simp [oZ], by simp [oZ, h0]⟩
    · split
      · have h1 := loopM_length (itemM l) (varM l 128 (fixM l 1 s).2).1 (varM l 128 (fixM l 1 s).2).2
        have h2 := varM_most l 128 (fixM l 1 s).2
        exact ⟨⟨by simp, by simp [oZ], loopM_all (itemM_ok hl) _ _, by simp [oZ], zk_ok, by simp [oZ], by simp [oZ, h0]⟩, ⟨by simp [oZ], by simp [oZ], by simp only; omega, by simp [oZ], by simp [oZ]⟩, by simp [oZ], by simp [oZ, h0]⟩
      · split
        · generalize (fixM l 1 s).2 = s1
          have h1 := loopM_length (keyM l) (varM l 128 (keyM l s1).2).1 (varM l 128 (keyM l s1).2).2
          have h2 := varM_most l 128 (keyM l s1).2
          have h3 := textM_length l 1024 (fixM l 8 (loopM (keyM l) (varM l 128 (keyM l s1).2).1 (varM l 128 (keyM l s1).2).2).2).2
          have h4 := fixM_lt hl 8 (loopM (keyM l) (varM l 128 (keyM l s1).2).1 (varM l 128 (keyM l s1).2).2).2
          have h5 := signed_in (u := (fixM l 8 (loopM (keyM l) (varM l 128 (keyM l s1).2).1 (varM l 128 (keyM l s1).2).2).2).1) (by simpa using h4)
          exact ⟨⟨by simp, by simp [oZ], by simp [oZ], loopM_all (keyM_ok hl) _ _, keyM_ok hl s1, h5, by simp only [strB_size]; unfold maxLen; omega⟩, ⟨by simp [oZ], by simp [oZ], by simp [oZ], by simp only; omega, by simp [oZ]⟩, by simp [oZ], by simp only [strB_size]; omega⟩
        · exact ⟨⟨by simpa using hk, by simp [oZ], by simp [oZ], by simp [oZ], zk_ok, by simp [oZ], by simp [oZ, h0]⟩, ⟨by simp [oZ], by simp [oZ], by simp [oZ], by simp [oZ], by simp [oZ]⟩, by simp [oZ], by simp [oZ, h0]⟩

section
variable (w : World) (hT : U8T w) (A : Option Addr) (l : List Nat) (n c : Nat) (hn : l.length = n) (hb : Byt w w.heap.size A l) (hs : n ≤ 140737488355328) (h256 : ∀ x ∈ l, x < 256)
include hT hn hb hs h256
omit hT hb h256 in
set_option maxRecDepth 100000 in
set_option maxHeartbeats 4000000 in
theorem rdecode_long (hlong : 8192 < l.length) : Calls Tryd.prog 20 #[.slice A n c] w (DecodePost w (rdecM l)) := by
  have hz := zeroO
  have hi39 : (Tryd.prog.info? 31).map (·.size) = some 39 := by kernel_rfl
  have hi39' := Lib.hid hi39
  have h39' := Lib.hid (fun (x : ObjT) (q : Lay) => show (ocells x q).toArray.size = 39 by simp [ocells_length])
  have hone' := Lib.hid (fun (x : ObjT) (q : Lay) => show (ocells x q).toArray.all (·.oneCell') = true from all_oneCell_toArray (ocells_one x q))
  have hN0 : Hid ((w.alloc (.cells (ocells oZ pZ).toArray 31)).heap[w.heap.size]? = some (.cells (ocells oZ pZ).toArray 31 (0, 0))) := Lib.hid (heap_alloc_new w _)
  have hBz : Hid (Below w.heap.size w (w.alloc (.cells (ocells oZ pZ).toArray 31))) := Lib.hid ((Below.refl _ _).alloc (Nat.le_refl _) _)
  have hR : Hid (rdecM l = (48, oZ)) := Lib.hid (by unfold rdecM; rw [if_pos hlong])
  have hg : (8192 : Int) < n := by omega
  obtain ⟨RR, hRR⟩ : ∃ R, Hid (∀ _ : Unit, rdecM l = R) := ⟨_, Lib.hid fun _ => rfl⟩
  rw [hRR.out ()]
  clear hn hlong hi39
  go_enter Tryd.func20, Tryd.ntmps20
  go_wp2_with (first
    | (refine wpList_built rfl 31 _ #[] rfl (by simp) _ (buildO _) ?_)
    | (refine wpList_store_row rfl 31 _ _ rfl w.heap.size (ocells oZ pZ).toArray rfl rfl 31 _ hN0.out (by rw [h39'.out]; exact hi39'.out) rfl (hone'.out _ _) ?_))
  have hres := setRow_heap (w.alloc (.cells (ocells oZ pZ).toArray 31)) w.heap.size _ (ocells oZ pZ).toArray 31 _ hN0.out
  refine bodyPost_ret (results_row_tmp rfl _ _ w.heap.size 31 _ (0, 0) _ (.int .i64 48) rfl rfl hres Tryd.underlying31 rfl (by rw [h39'.out]; exact hi39'.out)) rfl ?_
  rw [← hRR.out (), hR.out]
  exact ⟨⟨pZ, rfl, OOwn.zero _ _ 0⟩, setRow_below hBz.out (Nat.le_refl _) _⟩
set_option maxRecDepth 100000 in
set_option maxHeartbeats 8000000 in
theorem rdecode_stop (hsh : l.length ≤ 8192) (O : ObjT) (s1 : DSt) (hO0 : rreadM l (some 0) = (O, s1)) (hs1 : s1 ≠ some l.length) : Calls Tryd.prog 20 #[.slice A n c] w (DecodePost w (rdecM l)) := by
  have hz := zeroO
  have hi39 : (Tryd.prog.info? 31).map (·.size) = some 39 := by kernel_rfl
  have hi39' := Lib.hid hi39
  have h39' := Lib.hid (fun (x : ObjT) (q : Lay) => show (ocells x q).toArray.size = 39 by simp [ocells_length])
  have hone' := Lib.hid (fun (x : ObjT) (q : Lay) => show (ocells x q).toArray.all (·.oneCell') = true from all_oneCell_toArray (ocells_one x q))
  have hN0 : Hid ((w.alloc (.cells (ocells oZ pZ).toArray 31)).heap[w.heap.size]? = some (.cells (ocells oZ pZ).toArray 31 (0, 0))) := Lib.hid (heap_alloc_new w _)
  have hBz : Hid (Below w.heap.size w (w.alloc (.cells (ocells oZ pZ).toArray 31))) := Lib.hid ((Below.refl _ _).alloc (Nat.le_refl _) _)
  have hO := Lib.hid hO0
  have hR : Hid (rdecM l = (49, oZ)) := Lib.hid (by unfold rdecM; rw [if_neg (by omega), hO0]; rw [if_neg (fun h => hs1 h.1)])
  have hlz : (n : Int) ≤ 8192 := by omega
  have hop := Lib.hid (ropen_any _ A l n c hn ((hb.below hBz.out).mono hBz.out.size) (by omega) h256)
  have hrdk : Hid (Read O) := Lib.hid (by have := rreadM_ok h256 hsh (some 0); rwa [hO0] at this)
  obtain ⟨RR, hRR⟩ : ∃ R, Hid (∀ _ : Unit, rdecM l = R) := ⟨_, Lib.hid fun _ => rfl⟩
  rw [hRR.out ()]
  have hT' := Lib.hid hT
  have hn' := Lib.hid (fun _ : Unit => hn)
  have hb' := Lib.hid hb
  have h256' := Lib.hid h256
  have hsh' := Lib.hid hsh
  have hs1' := Lib.hid hs1
  clear hs1
  clear hT hn hb h256 hsh hi39 hO0
  go_enter Tryd.func20, Tryd.ntmps20
  go_wp2_with (first
    | (go_at_call 51
       refine hop.out.mono ?_
       rintro e w1 ⟨⟨g, A1, c1, rfl, hg, d1, hab⟩, b1⟩
       have hg' : Hid (w.heap.size + 1 ≤ g) := Lib.hid (by simpa using hg)
       have hs12 : Hid (w.heap.size + 1 ≤ w1.heap.size) := Lib.hid (by have := b1.size; simpa using this)
       have hB1 := Lib.hid (hBz.out.trans (b1.mono hBz.out.size))
       have hN1 := Lib.hid ((b1.block w.heap.size (by simp)).trans hN0.out)
       have hrc := rread_any d1 hsh'.out
       rw [hO.out] at hrc
       have hrc' := Lib.hid hrc
       clear d1 b1 hg hab hrc hop)
    | (go_at_call 52
       refine hrc'.out.mono ?_
       rintro e w2 ⟨p, rfl, d2, g2, o2⟩
       have hB2 := Lib.hid (hB1.out.trans (grown_below g2 hB1.out.size (fun k hk => by injection hk with hk; have := hg'.out; omega)))
       have hN2 := Lib.hid ((g2.block w.heap.size (lt_of_block hN1.out) (fun e => by injection e with e; have := hg'.out; omega)).trans hN1.out)
       have d2' : Hid (RDecS w2 g A1 c1 l s1) := Lib.hid d2
       have o2' : Hid (OOwn w2 w1.heap.size O p) := Lib.hid o2
       clear d2 g2 o2 hrc' hB1 hN1)
    | (refine wpList_store_row rfl 31 _ _ rfl w2.heap.size (ocells O p).toArray rfl rfl 31 _ (heap_alloc_new w2 _) (by rw [h39'.out]; exact hi39'.out) (by rw [h39'.out, h39'.out]) (hone'.out _ _) ?_
       have hnw := row_new w2 31 (ocells oZ pZ).toArray (ocells O p).toArray
       have hbb := hnw.2 w2.heap.size (Nat.le_refl _)
       generalize ((w2.alloc (.cells (ocells oZ pZ).toArray 31)).setRow w2.heap.size (ocells O p).toArray) = w3 at hnw hbb ⊢
       have hB3 := Lib.hid (hB2.out.trans (hbb.mono hB2.out.size))
       have hN3 := Lib.hid ((hbb.block w.heap.size (lt_of_block hN2.out)).trans hN2.out)
       have o3 := Lib.hid (o2'.out.below hbb)
       have hx3 := Lib.hid hnw.1
       have hend := Lib.hid (rend_any (d2'.out.keep hbb))
       clear hnw hbb hB2 hN2 d2' o2'
       generalize w2.heap.size = h at hx3 ⊢))
  go_wp2_with (first
    | (go_at_call 53; refine hend.out.mono ?_; rintro e w' ⟨⟨x, y, rfl, hy⟩, q, rfl⟩
       have hy0 : (y != 0) = true := by rw [bne_iff_ne]; exact fun e => hs1'.out (hy.1 e)
       have hB6 := Lib.hid (below_drewN hB3.out q)
       have hN6 : Hid ((w3.drewN q).heap[w.heap.size]? = some (.cells (ocells oZ pZ).toArray 31 (0, 0))) := Lib.hid hN3.out
       clear hy)
    | (refine wpList_built rfl 31 _ #[] rfl (by simp) _ (buildO _) ?_)
    | (refine wpList_store_row rfl 31 _ _ rfl w.heap.size (ocells oZ pZ).toArray rfl rfl 31 _ hN6.out (by rw [h39'.out]; exact hi39'.out) rfl (hone'.out _ _) ?_))
  have hres := setRow_heap _ w.heap.size _ (ocells oZ pZ).toArray 31 _ hN6.out
  refine bodyPost_ret (results_row_tmp rfl _ _ w.heap.size 31 _ (0, 0) _ (.int .i64 49) rfl rfl hres Tryd.underlying31 rfl (by rw [h39'.out]; exact hi39'.out)) rfl ?_
  rw [← hRR.out (), hR.out]
  exact ⟨⟨pZ, rfl, OOwn.zero _ _ 0⟩, setRow_below hB6.out (Nat.le_refl _) _⟩
set_option maxRecDepth 100000 in
set_option maxHeartbeats 8000000 in
theorem rdecode_bad (hsh : l.length ≤ 8192) (O : ObjT) (s1 : DSt) (hO0 : rreadM l (some 0) = (O, s1)) (hs1 : s1 = some l.length) (E : Nat) (hE1 : encE O = E) (hE2 : E ≠ 0) : Calls Tryd.prog 20 #[.slice A n c] w (DecodePost w (rdecM l)) := by
  have hz := zeroO
  have hi39 : (Tryd.prog.info? 31).map (·.size) = some 39 := by kernel_rfl
  have hi39' := Lib.hid hi39
  have h39' := Lib.hid (fun (x : ObjT) (q : Lay) => show (ocells x q).toArray.size = 39 by simp [ocells_length])
  have hone' := Lib.hid (fun (x : ObjT) (q : Lay) => show (ocells x q).toArray.all (·.oneCell') = true from all_oneCell_toArray (ocells_one x q))
  have hN0 : Hid ((w.alloc (.cells (ocells oZ pZ).toArray 31)).heap[w.heap.size]? = some (.cells (ocells oZ pZ).toArray 31 (0, 0))) := Lib.hid (heap_alloc_new w _)
  have hBz : Hid (Below w.heap.size w (w.alloc (.cells (ocells oZ pZ).toArray 31))) := Lib.hid ((Below.refl _ _).alloc (Nat.le_refl _) _)
  have hO := Lib.hid hO0
  have hR : Hid (rdecM l = (49, oZ)) := Lib.hid (by unfold rdecM; rw [if_neg (by omega), hO0]; rw [if_neg (fun h => hE2 (hE1.symm.trans h.2.1))])
  have hlz : (n : Int) ≤ 8192 := by omega
  have hop := Lib.hid (ropen_any _ A l n c hn ((hb.below hBz.out).mono hBz.out.size) (by omega) h256)
  have hrdk : Hid (Read O) := Lib.hid (by have := rreadM_ok h256 hsh (some 0); rwa [hO0] at this)
  obtain ⟨RR, hRR⟩ : ∃ R, Hid (∀ _ : Unit, rdecM l = R) := ⟨_, Lib.hid fun _ => rfl⟩
  rw [hRR.out ()]
  have hT' := Lib.hid hT
  have hn' := Lib.hid (fun _ : Unit => hn)
  have hb' := Lib.hid hb
  have h256' := Lib.hid h256
  have hsh' := Lib.hid hsh
  have hs1' := Lib.hid hs1
  have hE := Lib.hid (fun _ : Unit => hE1)
  have hE0 := Lib.hid hE2
  have hq : ((E : Int) != 0) = true := by simp [bne_iff_ne]; omega
  clear hs1 hE1 hE2
  clear hT hn hb h256 hsh hi39 hO0
  go_enter Tryd.func20, Tryd.ntmps20
  go_wp2_with (first
    | (go_at_call 51
       refine hop.out.mono ?_
       rintro e w1 ⟨⟨g, A1, c1, rfl, hg, d1, hab⟩, b1⟩
       have hg' : Hid (w.heap.size + 1 ≤ g) := Lib.hid (by simpa using hg)
       have hs12 : Hid (w.heap.size + 1 ≤ w1.heap.size) := Lib.hid (by have := b1.size; simpa using this)
       have hB1 := Lib.hid (hBz.out.trans (b1.mono hBz.out.size))
       have hN1 := Lib.hid ((b1.block w.heap.size (by simp)).trans hN0.out)
       have hrc := rread_any d1 hsh'.out
       rw [hO.out] at hrc
       have hrc' := Lib.hid hrc
       clear d1 b1 hg hab hrc hop)
    | (go_at_call 52
       refine hrc'.out.mono ?_
       rintro e w2 ⟨p, rfl, d2, g2, o2⟩
       have hB2 := Lib.hid (hB1.out.trans (grown_below g2 hB1.out.size (fun k hk => by injection hk with hk; have := hg'.out; omega)))
       have hN2 := Lib.hid ((g2.block w.heap.size (lt_of_block hN1.out) (fun e => by injection e with e; have := hg'.out; omega)).trans hN1.out)
       have d2' : Hid (RDecS w2 g A1 c1 l s1) := Lib.hid d2
       have o2' : Hid (OOwn w2 w1.heap.size O p) := Lib.hid o2
       clear d2 g2 o2 hrc' hB1 hN1)
    | (refine wpList_store_row rfl 31 _ _ rfl w2.heap.size (ocells O p).toArray rfl rfl 31 _ (heap_alloc_new w2 _) (by rw [h39'.out]; exact hi39'.out) (by rw [h39'.out, h39'.out]) (hone'.out _ _) ?_
       have hnw := row_new w2 31 (ocells oZ pZ).toArray (ocells O p).toArray
       have hbb := hnw.2 w2.heap.size (Nat.le_refl _)
       generalize ((w2.alloc (.cells (ocells oZ pZ).toArray 31)).setRow w2.heap.size (ocells O p).toArray) = w3 at hnw hbb ⊢
       have hB3 := Lib.hid (hB2.out.trans (hbb.mono hB2.out.size))
       have hN3 := Lib.hid ((hbb.block w.heap.size (lt_of_block hN2.out)).trans hN2.out)
       have o3 := Lib.hid (o2'.out.below hbb)
       have hx3 := Lib.hid hnw.1
       have hend := Lib.hid (rend_any (d2'.out.keep hbb))
       clear hnw hbb hB2 hN2 d2' o2'
       generalize w2.heap.size = h at hx3 ⊢))
  go_wp2_with (first
    | (go_at_call 53; refine hend.out.mono ?_; rintro e w' ⟨⟨x, y, rfl, hy⟩, q, rfl⟩
       obtain rfl : y = 0 := hy.2 hs1'.out
       have hB4 := Lib.hid (below_drewN hB3.out q)
       have hN4 : Hid ((w3.drewN q).heap[w.heap.size]? = some (.cells (ocells oZ pZ).toArray 31 (0, 0))) := Lib.hid hN3.out
       have hx4 : Hid ((w3.drewN q).heap[h]? = some (.cells (ocells O p).toArray 31 (0, 0))) := Lib.hid hx3.out
       have o4 := Lib.hid (o3.out.below (below_drewN (Below.refl _ _) q))
       generalize w3.drewN q = w4 at hB4 hN4 hx4 o4 ⊢
       have hin : Hid (EncIn w4 O p) := Lib.hid ⟨⟨u8t_keep hT'.out hB4.out, o4.out.objIn, hrdk.out.fit, fun x hx => (hrdk.out.good.ps x hx).2, hrdk.out.good.note⟩, hrdk.out.good⟩
       clear hy hend hB3 hN3 hx3 o3)
    | (refine wpList_load_row_g rfl 31 _ rfl h rfl 31 _ (0, 0) _ hx4.out Tryd.underlying31 rfl (by rw [h39'.out]; exact hi39'.out) ?_)
    | (go_at_call 22
       refine (rencode_bad _ O p hin.out (hE.out ()) hE0.out).mono ?_
       rintro e w6 ⟨⟨A6, c6, rfl⟩, b6⟩
       have hB6 := Lib.hid (hB4.out.trans (b6.mono hB4.out.size))
       have hN6 := Lib.hid ((b6.block w.heap.size (lt_of_block hN4.out)).trans hN4.out)
       clear b6)
    | (refine wpList_built rfl 31 _ #[] rfl (by simp) _ (buildO _) ?_)
    | (refine wpList_store_row rfl 31 _ _ rfl w.heap.size (ocells oZ pZ).toArray rfl rfl 31 _ hN6.out (by rw [h39'.out]; exact hi39'.out) rfl (hone'.out _ _) ?_))
  have hres := setRow_heap w6 w.heap.size _ (ocells oZ pZ).toArray 31 _ hN6.out
  refine bodyPost_ret (results_row_tmp rfl _ _ w.heap.size 31 _ (0, 0) _ (.int .i64 49) rfl rfl hres Tryd.underlying31 rfl (by rw [h39'.out]; exact hi39'.out)) rfl ?_
  rw [← hRR.out (), hR.out]
  exact ⟨⟨pZ, rfl, OOwn.zero _ _ 0⟩, setRow_below hB6.out (Nat.le_refl _) _⟩
set_option maxRecDepth 100000 in
set_option maxHeartbeats 8000000 in
theorem rdecode_other (hsh : l.length ≤ 8192) (O : ObjT) (s1 : DSt) (hO0 : rreadM l (some 0) = (O, s1)) (hs1 : s1 = some l.length) (hE1 : encE O = 0) (hl1 : layL O ≠ l) : Calls Tryd.prog 20 #[.slice A n c] w (DecodePost w (rdecM l)) := by
  have hz := zeroO
  have hi39 : (Tryd.prog.info? 31).map (·.size) = some 39 := by kernel_rfl
  have hi39' := Lib.hid hi39
  have h39' := Lib.hid (fun (x : ObjT) (q : Lay) => show (ocells x q).toArray.size = 39 by simp [ocells_length])
  have hone' := Lib.hid (fun (x : ObjT) (q : Lay) => show (ocells x q).toArray.all (·.oneCell') = true from all_oneCell_toArray (ocells_one x q))
  have hN0 : Hid ((w.alloc (.cells (ocells oZ pZ).toArray 31)).heap[w.heap.size]? = some (.cells (ocells oZ pZ).toArray 31 (0, 0))) := Lib.hid (heap_alloc_new w _)
  have hBz : Hid (Below w.heap.size w (w.alloc (.cells (ocells oZ pZ).toArray 31))) := Lib.hid ((Below.refl _ _).alloc (Nat.le_refl _) _)
  have hO := Lib.hid hO0
  have hR : Hid (rdecM l = (49, oZ)) := Lib.hid (by unfold rdecM; rw [if_neg (by omega), hO0]; rw [if_neg (fun h => hl1 h.2.2)])
  have hlz : (n : Int) ≤ 8192 := by omega
  have hop := Lib.hid (ropen_any _ A l n c hn ((hb.below hBz.out).mono hBz.out.size) (by omega) h256)
  have hrdk : Hid (Read O) := Lib.hid (by have := rreadM_ok h256 hsh (some 0); rwa [hO0] at this)
  obtain ⟨RR, hRR⟩ : ∃ R, Hid (∀ _ : Unit, rdecM l = R) := ⟨_, Lib.hid fun _ => rfl⟩
  rw [hRR.out ()]
  have hT' := Lib.hid hT
  have hn' := Lib.hid (fun _ : Unit => hn)
  have hb' := Lib.hid hb
  have h256' := Lib.hid h256
  have hsh' := Lib.hid hsh
  have hs1' := Lib.hid hs1
  have hE := Lib.hid (fun _ : Unit => hE1)
  obtain ⟨m, hm⟩ : ∃ m, Hid (∀ _ : Unit, (layL O).length = m) := ⟨_, Lib.hid fun _ => rfl⟩
  obtain ⟨L, hL⟩ : ∃ L, Hid (∀ _ : Unit, layL O = L) := ⟨_, Lib.hid fun _ => rfl⟩
  have hLt : Hid (∀ x ∈ L, x < 256) := Lib.hid (by rw [← hL.out ()]; exact layL_lt hrdk.out.good hrdk.out.fit.b hrdk.out.good.kind)
  have hne : ((strB L).toList == (strB l).toList) = false := by rw [strB_eq _ _ hLt.out h256]; exact decide_eq_false (by rw [← hL.out ()]; exact hl1)
  clear hs1 hE1 hl1
  clear hT hn hb h256 hsh hi39 hO0
  go_enter Tryd.func20, Tryd.ntmps20
  go_wp2_with (first
    | (go_at_call 51
       refine hop.out.mono ?_
       rintro e w1 ⟨⟨g, A1, c1, rfl, hg, d1, hab⟩, b1⟩
       have hg' : Hid (w.heap.size + 1 ≤ g) := Lib.hid (by simpa using hg)
       have hs12 : Hid (w.heap.size + 1 ≤ w1.heap.size) := Lib.hid (by have := b1.size; simpa using this)
       have hB1 := Lib.hid (hBz.out.trans (b1.mono hBz.out.size))
       have hN1 := Lib.hid ((b1.block w.heap.size (by simp)).trans hN0.out)
       have hrc := rread_any d1 hsh'.out
       rw [hO.out] at hrc
       have hrc' := Lib.hid hrc
       clear d1 b1 hg hab hrc hop)
    | (go_at_call 52
       refine hrc'.out.mono ?_
       rintro e w2 ⟨p, rfl, d2, g2, o2⟩
       have hB2 := Lib.hid (hB1.out.trans (grown_below g2 hB1.out.size (fun k hk => by injection hk with hk; have := hg'.out; omega)))
       have hN2 := Lib.hid ((g2.block w.heap.size (lt_of_block hN1.out) (fun e => by injection e with e; have := hg'.out; omega)).trans hN1.out)
       have d2' : Hid (RDecS w2 g A1 c1 l s1) := Lib.hid d2
       have o2' : Hid (OOwn w2 w1.heap.size O p) := Lib.hid o2
       clear d2 g2 o2 hrc' hB1 hN1)
    | (refine wpList_store_row rfl 31 _ _ rfl w2.heap.size (ocells O p).toArray rfl rfl 31 _ (heap_alloc_new w2 _) (by rw [h39'.out]; exact hi39'.out) (by rw [h39'.out, h39'.out]) (hone'.out _ _) ?_
       have hnw := row_new w2 31 (ocells oZ pZ).toArray (ocells O p).toArray
       have hbb := hnw.2 w2.heap.size (Nat.le_refl _)
       generalize ((w2.alloc (.cells (ocells oZ pZ).toArray 31)).setRow w2.heap.size (ocells O p).toArray) = w3 at hnw hbb ⊢
       have hB3 := Lib.hid (hB2.out.trans (hbb.mono hB2.out.size))
       have hN3 := Lib.hid ((hbb.block w.heap.size (lt_of_block hN2.out)).trans hN2.out)
       have o3 := Lib.hid (o2'.out.below hbb)
       have hx3 := Lib.hid hnw.1
       have hend := Lib.hid (rend_any (d2'.out.keep hbb))
       clear hnw hbb hB2 hN2 d2' o2'
       generalize w2.heap.size = h at hx3 ⊢))
  go_wp2_with (first
    | (go_at_call 53; refine hend.out.mono ?_; rintro e w' ⟨⟨x, y, rfl, hy⟩, q, rfl⟩
       obtain rfl : y = 0 := hy.2 hs1'.out
       have hB4 := Lib.hid (below_drewN hB3.out q)
       have hN4 : Hid ((w3.drewN q).heap[w.heap.size]? = some (.cells (ocells oZ pZ).toArray 31 (0, 0))) := Lib.hid hN3.out
       have hx4 : Hid ((w3.drewN q).heap[h]? = some (.cells (ocells O p).toArray 31 (0, 0))) := Lib.hid hx3.out
       have o4 := Lib.hid (o3.out.below (below_drewN (Below.refl _ _) q))
       generalize w3.drewN q = w4 at hB4 hN4 hx4 o4 ⊢
       have hin : Hid (EncIn w4 O p) := Lib.hid ⟨⟨u8t_keep hT'.out hB4.out, o4.out.objIn, hrdk.out.fit, fun x hx => (hrdk.out.good.ps x hx).2, hrdk.out.good.note⟩, hrdk.out.good⟩
       clear hy hend hB3 hN3 hx3 o3)
    | (refine wpList_load_row_g rfl 31 _ rfl h rfl 31 _ (0, 0) _ hx4.out Tryd.underlying31 rfl (by rw [h39'.out]; exact hi39'.out) ?_)
    | (go_at_call 22
       refine (rencode_ok _ O p hin.out (hE.out ()) (hm.out ())).mono ?_
       rintro e w6 ⟨⟨A6, c6, rfl, o6⟩, b6⟩
       have hB6 := Lib.hid (hB4.out.trans (b6.mono hB4.out.size))
       have hN6 := Lib.hid ((b6.block w.heap.size (lt_of_block hN4.out)).trans hN4.out)
       have hx6 := Lib.hid ((b6.block h (lt_of_block hx4.out)).trans hx4.out)
       have o7 := Lib.hid (o4.out.below b6)
       have hcv := conv_bytes w6 (layL O) A6 c6 _ o6.byt (by rw [hL.out ()]; exact hLt.out)
       have hcw := conv_bytes w6 l A c _ (hb'.out.below hB6.out) h256'.out
       rw [hm.out (), hL.out ()] at hcv
       rw [hn'.out ()] at hcw
       clear b6 o6)
    | (refine wpList_built rfl 31 _ #[] rfl (by simp) _ (buildO _) ?_)
    | (refine wpList_store_row rfl 31 _ _ rfl w.heap.size (ocells oZ pZ).toArray rfl rfl 31 _ hN6.out (by rw [h39'.out]; exact hi39'.out) rfl (hone'.out _ _) ?_))
  have hres := setRow_heap w6 w.heap.size _ (ocells oZ pZ).toArray 31 _ hN6.out
  refine bodyPost_ret (results_row_tmp rfl _ _ w.heap.size 31 _ (0, 0) _ (.int .i64 49) rfl rfl hres Tryd.underlying31 rfl (by rw [h39'.out]; exact hi39'.out)) rfl ?_
  rw [← hRR.out (), hR.out]
  exact ⟨⟨pZ, rfl, OOwn.zero _ _ 0⟩, setRow_below hB6.out (Nat.le_refl _) _⟩
set_option maxRecDepth 100000 in
set_option maxHeartbeats 8000000 in
theorem rdecode_good (hsh : l.length ≤ 8192) (O : ObjT) (s1 : DSt) (hO0 : rreadM l (some 0) = (O, s1)) (hs1 : s1 = some l.length) (hE1 : encE O = 0) (hl1 : layL O = l) : Calls Tryd.prog 20 #[.slice A n c] w (DecodePost w (rdecM l)) := by
  have hz := zeroO
  have hi39 : (Tryd.prog.info? 31).map (·.size) = some 39 := by kernel_rfl
  have hi39' := Lib.hid hi39
  have h39' := Lib.hid (fun (x : ObjT) (q : Lay) => show (ocells x q).toArray.size = 39 by simp [ocells_length])
  have hone' := Lib.hid (fun (x : ObjT) (q : Lay) => show (ocells x q).toArray.all (·.oneCell') = true from all_oneCell_toArray (ocells_one x q))
  have hN0 : Hid ((w.alloc (.cells (ocells oZ pZ).toArray 31)).heap[w.heap.size]? = some (.cells (ocells oZ pZ).toArray 31 (0, 0))) := Lib.hid (heap_alloc_new w _)
  have hBz : Hid (Below w.heap.size w (w.alloc (.cells (ocells oZ pZ).toArray 31))) := Lib.hid ((Below.refl _ _).alloc (Nat.le_refl _) _)
  have hO := Lib.hid hO0
  have hR : Hid (rdecM l = (0, O)) := Lib.hid (by unfold rdecM; rw [if_neg (by omega), hO0]; rw [if_pos ⟨hs1, hE1, hl1⟩])
  have hlz : (n : Int) ≤ 8192 := by omega
  have hop := Lib.hid (ropen_any _ A l n c hn ((hb.below hBz.out).mono hBz.out.size) (by omega) h256)
  have hrdk : Hid (Read O) := Lib.hid (by have := rreadM_ok h256 hsh (some 0); rwa [hO0] at this)
  obtain ⟨RR, hRR⟩ : ∃ R, Hid (∀ _ : Unit, rdecM l = R) := ⟨_, Lib.hid fun _ => rfl⟩
  rw [hRR.out ()]
  have hT' := Lib.hid hT
  have hn' := Lib.hid (fun _ : Unit => hn)
  have hb' := Lib.hid hb
  have h256' := Lib.hid h256
  have hsh' := Lib.hid hsh
  have hs1' := Lib.hid hs1
  have hE := Lib.hid (fun _ : Unit => hE1)
  obtain ⟨m, hm⟩ : ∃ m, Hid (∀ _ : Unit, (layL O).length = m) := ⟨_, Lib.hid fun _ => rfl⟩
  have hL : Hid (∀ _ : Unit, layL O = l) := Lib.hid fun _ => hl1
  have hLt : Hid (∀ x ∈ l, x < 256) := Lib.hid h256
  clear hs1 hE1 hl1
  clear hT hn hb h256 hsh hi39 hO0
  go_enter Tryd.func20, Tryd.ntmps20
  go_wp2_with (first
    | (go_at_call 51
       refine hop.out.mono ?_
       rintro e w1 ⟨⟨g, A1, c1, rfl, hg, d1, hab⟩, b1⟩
       have hg' : Hid (w.heap.size + 1 ≤ g) := Lib.hid (by simpa using hg)
       have hs12 : Hid (w.heap.size + 1 ≤ w1.heap.size) := Lib.hid (by have := b1.size; simpa using this)
       have hB1 := Lib.hid (hBz.out.trans (b1.mono hBz.out.size))
       have hN1 := Lib.hid ((b1.block w.heap.size (by simp)).trans hN0.out)
       have hrc := rread_any d1 hsh'.out
       rw [hO.out] at hrc
       have hrc' := Lib.hid hrc
       clear d1 b1 hg hab hrc hop)
    | (go_at_call 52
       refine hrc'.out.mono ?_
       rintro e w2 ⟨p, rfl, d2, g2, o2⟩
       have hB2 := Lib.hid (hB1.out.trans (grown_below g2 hB1.out.size (fun k hk => by injection hk with hk; have := hg'.out; omega)))
       have hN2 := Lib.hid ((g2.block w.heap.size (lt_of_block hN1.out) (fun e => by injection e with e; have := hg'.out; omega)).trans hN1.out)
       have d2' : Hid (RDecS w2 g A1 c1 l s1) := Lib.hid d2
       have o2' : Hid (OOwn w2 w1.heap.size O p) := Lib.hid o2
       clear d2 g2 o2 hrc' hB1 hN1)
    | (refine wpList_store_row rfl 31 _ _ rfl w2.heap.size (ocells O p).toArray rfl rfl 31 _ (heap_alloc_new w2 _) (by rw [h39'.out]; exact hi39'.out) (by rw [h39'.out, h39'.out]) (hone'.out _ _) ?_
       have hnw := row_new w2 31 (ocells oZ pZ).toArray (ocells O p).toArray
       have hbb := hnw.2 w2.heap.size (Nat.le_refl _)
       generalize ((w2.alloc (.cells (ocells oZ pZ).toArray 31)).setRow w2.heap.size (ocells O p).toArray) = w3 at hnw hbb ⊢
       have hB3 := Lib.hid (hB2.out.trans (hbb.mono hB2.out.size))
       have hN3 := Lib.hid ((hbb.block w.heap.size (lt_of_block hN2.out)).trans hN2.out)
       have o3 := Lib.hid (o2'.out.below hbb)
       have hx3 := Lib.hid hnw.1
       have hend := Lib.hid (rend_any (d2'.out.keep hbb))
       clear hnw hbb hB2 hN2 d2' o2'
       generalize w2.heap.size = h at hx3 ⊢))
  go_wp2_with (first
    | (go_at_call 53; refine hend.out.mono ?_; rintro e w' ⟨⟨x, y, rfl, hy⟩, q, rfl⟩
       obtain rfl : y = 0 := hy.2 hs1'.out
       have hB4 := Lib.hid (below_drewN hB3.out q)
       have hN4 : Hid ((w3.drewN q).heap[w.heap.size]? = some (.cells (ocells oZ pZ).toArray 31 (0, 0))) := Lib.hid hN3.out
       have hx4 : Hid ((w3.drewN q).heap[h]? = some (.cells (ocells O p).toArray 31 (0, 0))) := Lib.hid hx3.out
       have o4 := Lib.hid (o3.out.below (below_drewN (Below.refl _ _) q))
       generalize w3.drewN q = w4 at hB4 hN4 hx4 o4 ⊢
       have hin : Hid (EncIn w4 O p) := Lib.hid ⟨⟨u8t_keep hT'.out hB4.out, o4.out.objIn, hrdk.out.fit, fun x hx => (hrdk.out.good.ps x hx).2, hrdk.out.good.note⟩, hrdk.out.good⟩
       clear hy hend hB3 hN3 hx3 o3)
    | (refine wpList_load_row_g rfl 31 _ rfl h rfl 31 _ (0, 0) _ hx4.out Tryd.underlying31 rfl (by rw [h39'.out]; exact hi39'.out) ?_)
    | (go_at_call 22
       refine (rencode_ok _ O p hin.out (hE.out ()) (hm.out ())).mono ?_
       rintro e w6 ⟨⟨A6, c6, rfl, o6⟩, b6⟩
       have hB6 := Lib.hid (hB4.out.trans (b6.mono hB4.out.size))
       have hN6 := Lib.hid ((b6.block w.heap.size (lt_of_block hN4.out)).trans hN4.out)
       have hx6 := Lib.hid ((b6.block h (lt_of_block hx4.out)).trans hx4.out)
       have o7 := Lib.hid (o4.out.below b6)
       have hcv := conv_bytes w6 (layL O) A6 c6 _ o6.byt (by rw [hL.out ()]; exact hLt.out)
       have hcw := conv_bytes w6 l A c _ (hb'.out.below hB6.out) h256'.out
       rw [hm.out (), hL.out ()] at hcv
       rw [hn'.out ()] at hcw
       clear b6 o6)
    | (refine wpList_load_row_g rfl 31 _ rfl h rfl 31 _ (0, 0) _ hx6.out Tryd.underlying31 rfl (by rw [h39'.out]; exact hi39'.out) ?_)
    | (refine wpList_store_row rfl 31 _ _ rfl w.heap.size (ocells O p).toArray rfl rfl 31 _ hN6.out (by rw [h39'.out]; exact hi39'.out) (by rw [h39'.out, h39'.out]) (hone'.out _ _) ?_))
  have hres := setRow_heap w6 w.heap.size _ (ocells O p).toArray 31 _ hN6.out
  refine bodyPost_ret (results_row_tmp rfl _ _ w.heap.size 31 _ (0, 0) _ (.int .i64 0) rfl rfl hres Tryd.underlying31 rfl (by rw [h39'.out]; exact hi39'.out)) rfl ?_
  rw [← hRR.out (), hR.out]
  exact ⟨⟨p, rfl, (o7.out.rowFar hs12.out _).base (Nat.le_of_lt hs12.out)⟩, setRow_below hB6.out (Nat.le_refl _) _⟩
theorem rdecode_any : Calls Tryd.prog 20 #[.slice A n c] w (DecodePost w (rdecM l)) := by
  by_cases hlong : 8192 < l.length
  · exact rdecode_long w A l n c hn hs hlong
  · have hsh : l.length ≤ 8192 := by omega
    obtain ⟨O, s1, hO⟩ : ∃ O s1, rreadM l (some 0) = (O, s1) := ⟨_, _, rfl⟩
    by_cases hs1 : s1 = some l.length
    · by_cases hE : encE O = 0
      · by_cases hl : layL O = l
        · exact rdecode_good w hT A l n c hn hb hs h256 hsh O s1 hO hs1 hE hl
        · exact rdecode_other w hT A l n c hn hb hs h256 hsh O s1 hO hs1 hE hl
      · exact rdecode_bad w hT A l n c hn hb hs h256 hsh O s1 hO hs1 _ rfl hE
    · exact rdecode_stop w hT A l n c hn hb hs h256 hsh O s1 hO hs1
end
end Go.Proofs.YtkjndgapejbgcaaDoor

namespace Go.Proofs.YtkjndgapejbgcaaDoor
open Go.RowKit
set_option linter.unusedSimpArgs false
set_option linter.unusedVariables false

theorem spare_byt {w : World} {B cc : Nat} {A : Option Addr} {b : List Nat} (ho : Own w B 5 1 A (b.length + 70) cc (u8s (marked b 70))) : Byt w w.heap.size A b := by
  have h1 := ho.byt
  have := Rd.take h1 (m := b.length) (by rw [marked_length]; omega)
  refine this.congr fun j hj => ?_
  rw [marked, List.getElem?_append_left hj]
theorem spare_to (w : World) (b : List Nat) {L : Nat} (hb : b.length = L) (A : Option Addr) (c : Nat) (hA : Byt w w.heap.size A b) (hL : L ≤ 140737488355328) :
    Calls Tryd.prog 18 #[.slice A L c] w fun e w' => (∃ ga cc, e = .returned (.slice (some ⟨ga, 0, none⟩) L cc) ∧ Own w' w.heap.size 5 1 (some ⟨ga, 0, none⟩) (b.length + 70) cc (u8s (marked b 70))) ∧ Below w.heap.size w w' := by
  subst hb
  exact spare_any w b A c hA hL
theorem clean_to (w : World) (b : List Nat) {L : Nat} (hb : b.length = L) (A : Option Addr) (B cc : Nat) (ho : Own w B 5 1 A (b.length + 70) cc (u8s (marked b 70))) (hL : L ≤ 140737488355328) :
    Calls Tryd.prog 21 #[.slice A L cc] w fun e w' => e = .returned (.bool true) ∧ w = w' := by
  subst hb
  exact clean_any w b A B cc ho hL
end Go.Proofs.YtkjndgapejbgcaaDoor

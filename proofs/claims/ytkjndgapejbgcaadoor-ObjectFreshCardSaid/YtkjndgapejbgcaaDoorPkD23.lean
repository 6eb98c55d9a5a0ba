/- An object's one form as bytes: object.Encode. (Printed by tools/genenc.py.) -/
import Derived.Test.YtkjndgapejbgcaaDoorPkD17
import Derived.Test.YtkjndgapejbgcaaDoorPkD18
import Derived.Test.YtkjndgapejbgcaaDoorPkD7

namespace Go.Proofs.YtkjndgapejbgcaaDoor
open Go.RowKit
set_option linter.unusedSimpArgs false
set_option linter.unusedVariables false

/-- What Encode tells: the bytes in new memory, the reason. -/
def EncPost (w : World) (o : ObjT) (e : Ending) (w' : World) : Prop :=
  (∃ A c, e = .returned (.tuple #[.slice A (encL o).length c, .int .i64 (encE o : Nat)]) ∧ Own w' w.heap.size 5 1 A (encL o).length c (u8s (encL o))) ∧ Below w.heap.size w w'
/-- What Encode's walk asks of an object. -/
structure EncIn (w : World) (o : ObjT) (p : Lay) : Prop where
  may : MayIn w o p
  good : Good o
theorem EncPost.no {w w' : World} {o : ObjT} {E : Nat} (h0 : encE o = E) (h1 : E ≠ 0) (hb : Below w.heap.size w w') : EncPost w o (.returned (.tuple #[.slice none 0 0, .int .i64 (E : Int)])) w' := by
  have hl : encL o = [] := by unfold encL; rw [if_neg (by rw [h0]; exact h1)]
  refine ⟨⟨none, 0, ?_, ?_⟩, hb⟩
  · rw [hl, h0]; rfl
  · rw [hl]; exact Own.nil _ _ _ _
theorem EncPost.yes {w w' : World} {o : ObjT} {A : Option Addr} {n c : Nat} (h0 : encE o = 0) (hn : (layL o).length = n) (ho : Own w' w.heap.size 5 1 A n c (u8s (layL o))) (hb : Below w.heap.size w w') : EncPost w o (.returned (.tuple #[.slice A n c, .int .i64 0])) w' := by
  subst hn
  have hl : encL o = layL o := by unfold encL; rw [if_pos h0]
  refine ⟨⟨A, c, ?_, ?_⟩, hb⟩
  · rw [hl, h0]; rfl
  · rw [hl]; exact ho
theorem EncS.first {w w1 w' : World} {o : ObjT} {p : Lay} {A : Option Addr} {c : Nat} {l : List Nat} {x : Obj} (hb : OBlk w1 w.heap.size o p) (hB : Below w.heap.size w w1) (he : EncAt w' w1.heap.size A c l) (hr : EncR w1.heap.size (w1.alloc x) none w' A) : EncS w w' w1.heap.size o p A c l := by
  have hlt := lt_of_block hb
  have hba : Below w.heap.size w (w1.alloc x) := hB.alloc hB.size _
  refine ⟨hba.trans (hr.below (by omega) (fun k hk => by simp [blockOf] at hk) hba.size), ?_, hlt, he⟩
  exact ((hr.block _ (by simp; omega) (by omega) (by simp [blockOf])).trans (Below.heap_alloc w1 x _ hlt)).trans hb
theorem encE_large {o : ObjT} (hm : mayE o = 0) (hd : o.data.length < 8192) (h : 8192 < (layL o).length) : encE o = 48 := by
  unfold encE
  rw [if_neg (by simp [hm]), if_neg (by omega), if_pos h]
theorem encE_ok {o : ObjT} (hm : mayE o = 0) (hd : o.data.length < 8192) (h : (layL o).length ≤ 8192) : encE o = 0 := by
  unfold encE
  rw [if_neg (by simp [hm]), if_neg (by omega), if_neg (by omega)]

set_option maxRecDepth 100000 in
set_option maxHeartbeats 2000000 in
theorem encode_no (w : World) (o : ObjT) (p : Lay) (hm : EncIn w o p) (h : mayE o ≠ 0) :
    Calls Tryd.prog 12 #[.agg (ocells o p).toArray] w (EncPost w o) := by
  have hi39 : (Tryd.prog.info? 31).map (·.size) = some 39 := by kernel_rfl
  have hi39' := Lib.hid hi39
  have h39' := Lib.hid (fun (x : ObjT) (q : Lay) => show (ocells x q).toArray.size = 39 by simp [ocells_length])
  have h0 : OBlk (w.alloc (.cells (ocells o p).toArray 31)) w.heap.size o p := heap_alloc_new w _
  have hB : Below w.heap.size w (w.alloc (.cells (ocells o p).toArray 31)) := (Below.refl _ _).alloc (Nat.le_refl _) _
  have hE : Hid (encE o = mayE o) := Lib.hid (by unfold encE; rw [if_pos h])
  obtain ⟨M, hM⟩ : ∃ M, Hid (∀ _ : Unit, mayE o = M) := ⟨_, Lib.hid fun _ => rfl⟩
  rw [hM.out ()] at h
  have hq : ((M : Int) != 0) = true := by simp [bne_iff_ne]; omega
  have hz := Lib.hid h
  have hm' := Lib.hid hm
  have h0' := Lib.hid h0
  have hB' := Lib.hid hB
  clear hm h0 hB hi39 h
  go_enter Tryd.func12, Tryd.ntmps12
  go_wp2_with (first
    | (refine wpList_load_row rfl 31 _ rfl w.heap.size rfl 31 _ (0, 0) _ h0'.out Tryd.underlying31 rfl (by rw [h39'.out]; exact hi39'.out) ?_)
    | (go_at_call 32
       have hmi : MayIn (w.alloc (.cells (ocells o p).toArray 31)) o p := ⟨u8t_keep hm'.out.may.tabs hB'.out, (hm'.out.may.oin.below hB'.out).mono hB'.out.size, hm'.out.may.fit, hm'.out.may.ps, hm'.out.may.note⟩
       refine (may_any _ o p hmi).mono ?_
       rintro e w1 ⟨rfl, b1⟩
       rw [hM.out ()]
       have hB1 := Lib.hid (hB'.out.trans (b1.mono hB'.out.size))
       clear b1 hmi))
  go_ret2
  exact EncPost.no (by rw [hE.out]; exact hM.out ()) hz.out hB1.out


set_option maxRecDepth 100000 in
set_option maxHeartbeats 4000000 in
theorem encode_much (w : World) (o : ObjT) (p : Lay) (hm : EncIn w o p) (h : mayE o = 0) (hd : 8192 ≤ o.data.length) :
    Calls Tryd.prog 12 #[.agg (ocells o p).toArray] w (EncPost w o) := by
  have hi39 : (Tryd.prog.info? 31).map (·.size) = some 39 := by kernel_rfl
  have hi39' := Lib.hid hi39
  have hi32 : (Tryd.prog.info? 28).map (·.size) = some 32 := by kernel_rfl
  have hi32' := Lib.hid hi32
  have hi33 : (Tryd.prog.info? 47).map (·.size) = some 33 := by kernel_rfl
  have hi33' := Lib.hid hi33
  have hi35 : (Tryd.prog.info? 50).map (·.size) = some 35 := by kernel_rfl
  have hi35' := Lib.hid hi35
  have zP := zeroP; have zI := zeroI; have zK0 := zeroKey; have bE := buildE
  have h39' := Lib.hid (fun (x : ObjT) (q : Lay) => show (ocells x q).toArray.size = 39 by simp [ocells_length])
  have h0 : OBlk (w.alloc (.cells (ocells o p).toArray 31)) w.heap.size o p := heap_alloc_new w _
  have hB : Below w.heap.size w (w.alloc (.cells (ocells o p).toArray 31)) := (Below.refl _ _).alloc (Nat.le_refl _) _
  obtain ⟨nd, hnd⟩ : ∃ n, Hid (∀ _ : Unit, o.data.length = n) := ⟨_, Lib.hid fun _ => rfl⟩
  obtain ⟨np, hnp⟩ : ∃ n, Hid (∀ _ : Unit, o.parts.length = n) := ⟨_, Lib.hid fun _ => rfl⟩
  obtain ⟨ni, hni⟩ : ∃ n, Hid (∀ _ : Unit, o.items.length = n) := ⟨_, Lib.hid fun _ => rfl⟩
  obtain ⟨nk, hnk⟩ : ∃ n, Hid (∀ _ : Unit, o.parents.length = n) := ⟨_, Lib.hid fun _ => rfl⟩
  have hmb := mayE_bounds h
  have lp : np ≤ 128 := by rw [← hnp.out ()]; exact hmb.ps
  have li : ni ≤ 128 := by rw [← hni.out ()]; exact hmb.xs
  have lk : nk ≤ 127 := by rw [← hnk.out ()]; exact hmb.ks
  have hE : Hid (encE o = 48) := Lib.hid (by unfold encE; rw [if_neg (by simp [h]), if_pos hd])
  rw [hnd.out ()] at hd
  have hdz : (8192 : Int) ≤ (nd : Int) := by omega
  have hmay := Lib.hid (fun _ : Unit => h)
  have hmb' := Lib.hid hmb
  have hm' := Lib.hid hm
  have h0' := Lib.hid h0
  have hB' := Lib.hid hB
  clear hm h0 hB hi39 hi32 hi33 hi35 h hmb hd
  go_enter Tryd.func12, Tryd.ntmps12
  go_wp2_with (first
    | (refine wpList_load_row rfl 31 _ rfl w.heap.size rfl 31 _ (0, 0) _ h0'.out Tryd.underlying31 rfl (by rw [h39'.out]; exact hi39'.out) ?_)
    | (go_at_call 32
       have hmi : MayIn (w.alloc (.cells (ocells o p).toArray 31)) o p := ⟨u8t_keep hm'.out.may.tabs hB'.out, (hm'.out.may.oin.below hB'.out).mono hB'.out.size, hm'.out.may.fit, hm'.out.may.ps, hm'.out.may.note⟩
       refine (may_any _ o p hmi).mono ?_
       rintro e w1 ⟨rfl, b1⟩
       rw [hmay.out ()]
       have hb1 := Lib.hid (OBlk.below h0'.out b1 (lt_of_block h0'.out))
       have hB1 := Lib.hid (hB'.out.trans (b1.mono hB'.out.size))
       clear b1 hmi
       have c1 := hb1.out.c1
       rw [hnd.out ()] at c1
       skip))
  go_ret2
  exact EncPost.no hE.out (by decide) hB1.out


set_option maxRecDepth 100000 in
set_option maxHeartbeats 4000000 in
theorem encode_k1 (w : World) (o : ObjT) (p : Lay) (hm : EncIn w o p) (h : mayE o = 0) (hk0 : o.kind = 1) (hd : o.data.length < 8192) :
    Calls Tryd.prog 12 #[.agg (ocells o p).toArray] w (EncPost w o) := by
  have hi39 : (Tryd.prog.info? 31).map (·.size) = some 39 := by kernel_rfl
  have hi39' := Lib.hid hi39
  have hi32 : (Tryd.prog.info? 28).map (·.size) = some 32 := by kernel_rfl
  have hi32' := Lib.hid hi32
  have hi33 : (Tryd.prog.info? 47).map (·.size) = some 33 := by kernel_rfl
  have hi33' := Lib.hid hi33
  have hi35 : (Tryd.prog.info? 50).map (·.size) = some 35 := by kernel_rfl
  have hi35' := Lib.hid hi35
  have zP := zeroP; have zI := zeroI; have zK0 := zeroKey; have bE := buildE
  have h39' := Lib.hid (fun (x : ObjT) (q : Lay) => show (ocells x q).toArray.size = 39 by simp [ocells_length])
  have h0 : OBlk (w.alloc (.cells (ocells o p).toArray 31)) w.heap.size o p := heap_alloc_new w _
  have hB : Below w.heap.size w (w.alloc (.cells (ocells o p).toArray 31)) := (Below.refl _ _).alloc (Nat.le_refl _) _
  obtain ⟨nd, hnd⟩ : ∃ n, Hid (∀ _ : Unit, o.data.length = n) := ⟨_, Lib.hid fun _ => rfl⟩
  obtain ⟨np, hnp⟩ : ∃ n, Hid (∀ _ : Unit, o.parts.length = n) := ⟨_, Lib.hid fun _ => rfl⟩
  obtain ⟨ni, hni⟩ : ∃ n, Hid (∀ _ : Unit, o.items.length = n) := ⟨_, Lib.hid fun _ => rfl⟩
  obtain ⟨nk, hnk⟩ : ∃ n, Hid (∀ _ : Unit, o.parents.length = n) := ⟨_, Lib.hid fun _ => rfl⟩
  have hmb := mayE_bounds h
  have lp : np ≤ 128 := by rw [← hnp.out ()]; exact hmb.ps
  have li : ni ≤ 128 := by rw [← hni.out ()]; exact hmb.xs
  have lk : nk ≤ 127 := by rw [← hnk.out ()]; exact hmb.ks
  have hlay : Hid ([1] ++ o.data = layL o) := Lib.hid (by unfold layL; rw [if_pos hk0, hk0])
  have hk := Lib.hid (fun _ : Unit => hk0)
  rw [hnd.out ()] at hd
  have hdz : (nd : Int) < 8192 := by omega
  have hmay := Lib.hid (fun _ : Unit => h)
  have hmb' := Lib.hid hmb
  have hm' := Lib.hid hm
  have h0' := Lib.hid h0
  have hB' := Lib.hid hB
  clear hm h0 hB hi39 hi32 hi33 hi35 h hmb hk0 
  go_enter Tryd.func12, Tryd.ntmps12
  go_wp2_with (first
    | (refine wpList_load_row rfl 31 _ rfl w.heap.size rfl 31 _ (0, 0) _ h0'.out Tryd.underlying31 rfl (by rw [h39'.out]; exact hi39'.out) ?_)
    | (go_at_call 32
       have hmi : MayIn (w.alloc (.cells (ocells o p).toArray 31)) o p := ⟨u8t_keep hm'.out.may.tabs hB'.out, (hm'.out.may.oin.below hB'.out).mono hB'.out.size, hm'.out.may.fit, hm'.out.may.ps, hm'.out.may.note⟩
       refine (may_any _ o p hmi).mono ?_
       rintro e w1 ⟨rfl, b1⟩
       rw [hmay.out ()]
       have hb1 := Lib.hid (OBlk.below h0'.out b1 (lt_of_block h0'.out))
       have hB1 := Lib.hid (hB'.out.trans (b1.mono hB'.out.size))
       clear b1 hmi
       have c1 := hb1.out.c1
       rw [hnd.out ()] at c1
       have hbE : OBlk (w1.alloc (.cells #[.slice none 0 0, .pointer none] 59)) w.heap.size o p := (Below.heap_alloc w1 _ _ (lt_of_block hb1.out)).trans hb1.out
       have hZ : Hid (EncZ (w1.alloc (.cells #[.slice none 0 0, .pointer none] 59)) w1.heap.size) := Lib.hid ⟨heap_alloc_new w1 _⟩
       have cE : (w1.alloc (.cells #[.slice none 0 0, .pointer none] 59)).cell? ⟨w.heap.size, 0, none⟩ = some (.int .u8 1) := by have := hbE.c0; rw [hk.out ()] at this; exact this
       clear hbE h0' hB'))
  refine (put8F_any hZ.out 1 (by omega)).mono ?_
  rintro e w2 ⟨⟨v, rfl⟩, A2, c2, he, hr⟩
  have hS2 : Hid (EncS w w2 w1.heap.size o p A2 c2 [1]) := Lib.hid (EncS.first hb1.out hB1.out he hr)
  generalize w1.heap.size = g at hS2 ⊢
  clear he hr hZ hb1 hB1 cE c1
  have d0 : w2.cell? ⟨w.heap.size, 0, none⟩ = some (.int .u8 1) := by have := hS2.out.blk.c0; rw [hk.out ()] at this; exact this
  have d1 := hS2.out.blk.c1
  rw [hnd.out ()] at d1
  go_wp2_with fail
  refine (raw_any hS2.out.enc o.data p.Ad p.cd nd _ (hnd.out ()) (hm'.out.may.oin.below hS2.out.bel).d (by simp; omega)).mono ?_
  rintro e w5 ⟨⟨v, rfl⟩, A5, c5, he, hr⟩
  have hS4 := Lib.hid (hS2.out.call he hr)
  clear he hr d0 d1 hS2
  have hS5 : Hid (EncS w w5 g o p A5 c5 (layL o)) := Lib.hid (by have := hS4.out; rw [hlay.out] at this; exact this)
  by_cases hbig : 8192 < (layL o).length
  · have hE : Hid (encE o = 48) := Lib.hid (encE_large (hmay.out ()) (by rw [hnd.out ()]; omega) hbig)
    have hlb : (8192 : Int) < ((layL o).length : Int) := by omega
    obtain ⟨N, hN⟩ : ∃ N, Hid (∀ _ : Unit, (layL o).length = N) := ⟨_, Lib.hid fun _ => rfl⟩
    have hlen := Lib.hid (len_any hS5.out.enc)
    rw [hN.out ()] at hlb hlen
    clear hbig
    go_wp2_with fail
    refine hlen.out.mono ?_
    rintro e w' ⟨rfl, rfl⟩
    go_wp2_with fail
    go_ret2
    exact EncPost.no hE.out (by decide) hS5.out.bel
  · have hE : Hid (encE o = 0) := Lib.hid (encE_ok (hmay.out ()) (by rw [hnd.out ()]; omega) (by omega))
    have hlb : ((layL o).length : Int) ≤ 8192 := by omega
    have h0l : 0 < (layL o).length := by unfold layL; rw [List.length_append]; simp; omega
    obtain ⟨N, hN⟩ : ∃ N, Hid (∀ _ : Unit, (layL o).length = N) := ⟨_, Lib.hid fun _ => rfl⟩
    have hlen := Lib.hid (len_any hS5.out.enc)
    have hbyt := Lib.hid (encbytes_any hS5.out.enc h0l (by omega))
    rw [hN.out ()] at hlb hlen hbyt
    clear hbig h0l
    go_wp2_with fail
    refine hlen.out.mono ?_
    rintro e w' ⟨rfl, rfl⟩
    go_wp2_with fail
    refine hbyt.out.mono ?_
    rintro e w6 ⟨⟨A6, c6, rfl, o6⟩, b6⟩
    have o6' := Lib.hid (o6.base (show w.heap.size ≤ w5.heap.size from hS5.out.bel.size))
    have b6' := Lib.hid (hS5.out.bel.trans (b6.mono hS5.out.bel.size))
    clear o6 b6
    go_wp2_with fail
    go_ret2
    exact EncPost.yes hE.out (hN.out ()) o6'.out b6'.out

set_option maxRecDepth 100000 in
set_option maxHeartbeats 4000000 in
theorem encode_k2 (w : World) (o : ObjT) (p : Lay) (hm : EncIn w o p) (h : mayE o = 0) (hk0 : o.kind = 2) (hd : o.data.length < 8192) :
    Calls Tryd.prog 12 #[.agg (ocells o p).toArray] w (EncPost w o) := by
  have hi39 : (Tryd.prog.info? 31).map (·.size) = some 39 := by kernel_rfl
  have hi39' := Lib.hid hi39
  have hi32 : (Tryd.prog.info? 28).map (·.size) = some 32 := by kernel_rfl
  have hi32' := Lib.hid hi32
  have hi33 : (Tryd.prog.info? 47).map (·.size) = some 33 := by kernel_rfl
  have hi33' := Lib.hid hi33
  have hi35 : (Tryd.prog.info? 50).map (·.size) = some 35 := by kernel_rfl
  have hi35' := Lib.hid hi35
  have zP := zeroP; have zI := zeroI; have zK0 := zeroKey; have bE := buildE
  have h39' := Lib.hid (fun (x : ObjT) (q : Lay) => show (ocells x q).toArray.size = 39 by simp [ocells_length])
  have h0 : OBlk (w.alloc (.cells (ocells o p).toArray 31)) w.heap.size o p := heap_alloc_new w _
  have hB : Below w.heap.size w (w.alloc (.cells (ocells o p).toArray 31)) := (Below.refl _ _).alloc (Nat.le_refl _) _
  obtain ⟨nd, hnd⟩ : ∃ n, Hid (∀ _ : Unit, o.data.length = n) := ⟨_, Lib.hid fun _ => rfl⟩
  obtain ⟨np, hnp⟩ : ∃ n, Hid (∀ _ : Unit, o.parts.length = n) := ⟨_, Lib.hid fun _ => rfl⟩
  obtain ⟨ni, hni⟩ : ∃ n, Hid (∀ _ : Unit, o.items.length = n) := ⟨_, Lib.hid fun _ => rfl⟩
  obtain ⟨nk, hnk⟩ : ∃ n, Hid (∀ _ : Unit, o.parents.length = n) := ⟨_, Lib.hid fun _ => rfl⟩
  have hmb := mayE_bounds h
  have lp : np ≤ 128 := by rw [← hnp.out ()]; exact hmb.ps
  have li : ni ≤ 128 := by rw [← hni.out ()]; exact hmb.xs
  have lk : nk ≤ 127 := by rw [← hnk.out ()]; exact hmb.ks
  have hlay : Hid ([2] ++ varL o.parts.length ++ o.parts.flatMap oneP = layL o) := Lib.hid (by unfold layL; rw [if_neg (by omega), if_pos hk0, hk0]; simp)
  have hk := Lib.hid (fun _ : Unit => hk0)
  rw [hnd.out ()] at hd
  have hdz : (nd : Int) < 8192 := by omega
  have hmay := Lib.hid (fun _ : Unit => h)
  have hmb' := Lib.hid hmb
  have hm' := Lib.hid hm
  have h0' := Lib.hid h0
  have hB' := Lib.hid hB
  clear hm h0 hB hi39 hi32 hi33 hi35 h hmb hk0 
  go_enter Tryd.func12, Tryd.ntmps12
  go_wp2_with (first
    | (refine wpList_load_row rfl 31 _ rfl w.heap.size rfl 31 _ (0, 0) _ h0'.out Tryd.underlying31 rfl (by rw [h39'.out]; exact hi39'.out) ?_)
    | (go_at_call 32
       have hmi : MayIn (w.alloc (.cells (ocells o p).toArray 31)) o p := ⟨u8t_keep hm'.out.may.tabs hB'.out, (hm'.out.may.oin.below hB'.out).mono hB'.out.size, hm'.out.may.fit, hm'.out.may.ps, hm'.out.may.note⟩
       refine (may_any _ o p hmi).mono ?_
       rintro e w1 ⟨rfl, b1⟩
       rw [hmay.out ()]
       have hb1 := Lib.hid (OBlk.below h0'.out b1 (lt_of_block h0'.out))
       have hB1 := Lib.hid (hB'.out.trans (b1.mono hB'.out.size))
       clear b1 hmi
       have c1 := hb1.out.c1
       rw [hnd.out ()] at c1
       have hbE : OBlk (w1.alloc (.cells #[.slice none 0 0, .pointer none] 59)) w.heap.size o p := (Below.heap_alloc w1 _ _ (lt_of_block hb1.out)).trans hb1.out
       have hZ : Hid (EncZ (w1.alloc (.cells #[.slice none 0 0, .pointer none] 59)) w1.heap.size) := Lib.hid ⟨heap_alloc_new w1 _⟩
       have cE : (w1.alloc (.cells #[.slice none 0 0, .pointer none] 59)).cell? ⟨w.heap.size, 0, none⟩ = some (.int .u8 2) := by have := hbE.c0; rw [hk.out ()] at this; exact this
       clear hbE h0' hB'))
  refine (put8F_any hZ.out 2 (by omega)).mono ?_
  rintro e w2 ⟨⟨v, rfl⟩, A2, c2, he, hr⟩
  have hS2 : Hid (EncS w w2 w1.heap.size o p A2 c2 [2]) := Lib.hid (EncS.first hb1.out hB1.out he hr)
  generalize w1.heap.size = g at hS2 ⊢
  clear he hr hZ hb1 hB1 cE c1
  have d0 : w2.cell? ⟨w.heap.size, 0, none⟩ = some (.int .u8 2) := by have := hS2.out.blk.c0; rw [hk.out ()] at this; exact this
  have d2 := hS2.out.blk.c2
  rw [hnp.out ()] at d2
  have hwr : IntKind.u64.wrap (np : Int) = (np : Int) := by rw [IntKind.wrap_u64]; omega
  go_wp2_with fail
  refine (var_any hS2.out.enc np (by omega) (by simp)).mono ?_
  rintro e w3 ⟨⟨v, rfl⟩, A3, c3, he, hr⟩
  have hS3 := Lib.hid (hS2.out.call he hr)
  clear he hr d0 d2 hS2
  have d2 := hS3.out.blk.c2
  rw [hnp.out ()] at d2
  go_wp2_with fail
  go_loopw [46] (fun iv wr => ∃ (k : Nat) (A' : Option Addr) (c' : Nat), k ≤ np ∧ iv = .int .i64 (k : Int) ∧ Hid (EncS w wr g o p A' c' ([2] ++ varL np ++ (o.parts.take k).flatMap oneP))) (fun iv _ => np - (intOf iv).toNat)
  case atStart => exact ⟨0, A3, c3, by omega, rfl, Lib.hid (by simpa using hS3.out)⟩
  case round =>
    clear hS3 d2
    obtain ⟨k, A4, c4, hkn, rfl, hS4⟩ := hrel
    by_cases hlt : k < np
    · have hkx : k < o.parts.length := by rw [hnp.out ()]; exact hlt
      obtain ⟨b, off, hAp, _, hc⟩ := Row.elem (Rd.below hm'.out.may.oin.ps hS4.out.bel) encP_length (by decide) hkx
      rw [hAp]
      have hz64 := hm'.out.may.ps _ (List.getElem_mem hkx)
      have hsucc := flat_take_succ oneP hkx
      have hlen : ([2] ++ varL np ++ (o.parts.take k).flatMap oneP).length ≤ 10000 := by
        have := flat_take_le oneP 42 o.parts (fun x _ => oneP_le x) k (by rw [hnp.out ()]; exact lp)
        have := varL_le np
        simp only [List.length_append, List.length_singleton]
        omega
      obtain ⟨x, hx⟩ : ∃ x, o.parts[k] = x := ⟨_, rfl⟩
      rw [hx] at hc hz64 hsucc
      have hlen' := Lib.hid hlen
      have hsucc' := Lib.hid hsucc
      obtain ⟨z, hz⟩ : ∃ z, x.2 = z := ⟨_, rfl⟩
      have hz' := Lib.hid (fun _ : Unit => hz)
      rw [hz] at hz64
      have hrg := Lib.hid (show wr.rangeAt b (off + k * 33) (encP x) from fun j v hv => hc j v hv)
      have hnw := row_new wr 47 (encP (zK, 0)).toArray (encP x).toArray
      have hN := Lib.hid hnw.1
      have hNb := Lib.hid (hnw.2 _ (Nat.le_refl wr.heap.size))
      have hxs' := Lib.hid (show (encP x).toArray.size = 33 by simp [encP_length])
      have hzs' := Lib.hid (show (encP (zK, 0)).toArray.size = 33 by simp [encP_length])
      have hone' := Lib.hid (show (encP x).toArray.all (·.oneCell') = true from all_oneCell_toArray (encP_one x))
      have h32' := Lib.hid (show (encP x)[32]? = some (.int .u64 (z : Int)) by simp [encP, u8s, x.1.2, hz])
      have hky := Lib.hid (fun (W : World) (h : W.heap[wr.heap.size]? = some (.cells (encP x).toArray 47 (0, 0))) => show W.rangeAt wr.heap.size 0 (encK x.1) from range_of h (by simpa using encP_key x))
      have hl32 := Lib.hid (encK_length x.1)
      clear hc hnw hx hkx hz hlen hsucc
      go_wp2_with (first
        | (refine wpList_load_mid rfl 47 _ rfl b (off + k * 33) rfl (encP x) _ hrg.out Tryd.underlying47 rfl (by rw [encP_length]; exact hi33'.out) ?_)
        | (refine wpList_store_row rfl 47 _ _ rfl wr.heap.size (encP x).toArray rfl rfl 47 _ (heap_alloc_new wr _) (by rw [hxs'.out]; exact hi33'.out) (by rw [hxs'.out, hzs'.out]) hone'.out ?_
           generalize ((wr.alloc (.cells (encP (zK, 0)).toArray 47)).setRow wr.heap.size (encP x).toArray) = w5 at hN hNb ⊢
           have hS5 := Lib.hid (hS4.out.keep hNb.out)
           have hL5 := Lib.hid (LocB.new hS4.out hN.out)
           generalize wr.heap.size = NL at hky hL5 ⊢)
        | (refine wpList_load_mid rfl 28 _ rfl NL 0 rfl (encK x.1) _ (hky.out _ hL5.out.blk) Tryd.underlying28 rfl (by rw [hl32.out]; exact hi32'.out) ?_))
      refine (key_any hS5.out.enc x.1 (by have := hlen'.out; omega)).mono ?_
      rintro e w6 ⟨⟨v, rfl⟩, A6, c6, he, hr⟩
      have hS6 := Lib.hid (hS5.out.call he hr)
      have hL6 := Lib.hid (hL5.out.call hr)
      clear he hr
      have e1 : w6.cell? ⟨NL, 32, none⟩ = some (.int .u64 (z : Int)) := hL6.out.cell h32'.out
      go_wp2_with fail
      refine (var_any hS6.out.enc z hz64 (by have := hlen'.out; have := x.1.2; rw [List.length_append]; omega)).mono ?_
      rintro e w7 ⟨⟨v, rfl⟩, A7, c7, he, hr⟩
      have hS7 := Lib.hid (hS6.out.call he hr)
      clear he hr e1
      go_wp2_with fail
      go_roundw
      case rel => exact ⟨k + 1, A7, c7, by omega, by go_num, Lib.hid (by have := hS7.out; rw [← hz'.out ()] at this; rw [hsucc'.out, ← List.append_assoc]; exact (List.append_assoc _ x.1.1 (varL x.2)) ▸ this)⟩
      case measure => simp [intOf]; omega
    · obtain rfl : k = np := by omega
      have hall : (o.parts.take k).flatMap oneP = o.parts.flatMap oneP := by rw [List.take_of_length_le (by rw [hnp.out ()]; exact Nat.le_refl _)]
      obtain ⟨w5, hw5⟩ : ∃ w5, w5 = wr := ⟨_, rfl⟩
      subst hw5
      have hS6 : Hid (EncS w w5 g o p A4 c4 ([2] ++ varL o.parts.length ++ o.parts.flatMap oneP)) := Lib.hid (by rw [hnp.out (), ← hall]; exact hS4.out)
      clear hS4 hall
      obtain ⟨A5, hA5⟩ : ∃ A5, A5 = A4 := ⟨_, rfl⟩
      subst hA5
      obtain ⟨c5, hc5⟩ : ∃ c5, c5 = c4 := ⟨_, rfl⟩
      subst hc5
      have hS5 : Hid (EncS w w5 g o p A5 c5 (layL o)) := Lib.hid (by have := hS6.out; rw [hlay.out] at this; exact this)
      by_cases hbig : 8192 < (layL o).length
      · have hE : Hid (encE o = 48) := Lib.hid (encE_large (hmay.out ()) (by rw [hnd.out ()]; omega) hbig)
        have hlb : (8192 : Int) < ((layL o).length : Int) := by omega
        obtain ⟨N, hN⟩ : ∃ N, Hid (∀ _ : Unit, (layL o).length = N) := ⟨_, Lib.hid fun _ => rfl⟩
        have hlen := Lib.hid (len_any hS5.out.enc)
        rw [hN.out ()] at hlb hlen
        clear hbig
        go_wp2_with fail
        refine hlen.out.mono ?_
        rintro e w' ⟨rfl, rfl⟩
        go_wp2_with fail
        go_ret2
        exact EncPost.no hE.out (by decide) hS5.out.bel
      · have hE : Hid (encE o = 0) := Lib.hid (encE_ok (hmay.out ()) (by rw [hnd.out ()]; omega) (by omega))
        have hlb : ((layL o).length : Int) ≤ 8192 := by omega
        have h0l : 0 < (layL o).length := by unfold layL; rw [List.length_append]; simp; omega
        obtain ⟨N, hN⟩ : ∃ N, Hid (∀ _ : Unit, (layL o).length = N) := ⟨_, Lib.hid fun _ => rfl⟩
        have hlen := Lib.hid (len_any hS5.out.enc)
        have hbyt := Lib.hid (encbytes_any hS5.out.enc h0l (by omega))
        rw [hN.out ()] at hlb hlen hbyt
        clear hbig h0l
        go_wp2_with fail
        refine hlen.out.mono ?_
        rintro e w' ⟨rfl, rfl⟩
        go_wp2_with fail
        refine hbyt.out.mono ?_
        rintro e w6 ⟨⟨A6, c6, rfl, o6⟩, b6⟩
        have o6' := Lib.hid (o6.base (show w.heap.size ≤ w5.heap.size from hS5.out.bel.size))
        have b6' := Lib.hid (hS5.out.bel.trans (b6.mono hS5.out.bel.size))
        clear o6 b6
        go_wp2_with fail
        go_ret2
        exact EncPost.yes hE.out (hN.out ()) o6'.out b6'.out

set_option maxRecDepth 100000 in
set_option maxHeartbeats 4000000 in
theorem encode_k3 (w : World) (o : ObjT) (p : Lay) (hm : EncIn w o p) (h : mayE o = 0) (hk0 : o.kind = 3) (hd : o.data.length < 8192) :
    Calls Tryd.prog 12 #[.agg (ocells o p).toArray] w (EncPost w o) := by
  have hi39 : (Tryd.prog.info? 31).map (·.size) = some 39 := by kernel_rfl
  have hi39' := Lib.hid hi39
  have hi32 : (Tryd.prog.info? 28).map (·.size) = some 32 := by kernel_rfl
  have hi32' := Lib.hid hi32
  have hi33 : (Tryd.prog.info? 47).map (·.size) = some 33 := by kernel_rfl
  have hi33' := Lib.hid hi33
  have hi35 : (Tryd.prog.info? 50).map (·.size) = some 35 := by kernel_rfl
  have hi35' := Lib.hid hi35
  have zP := zeroP; have zI := zeroI; have zK0 := zeroKey; have bE := buildE
  have h39' := Lib.hid (fun (x : ObjT) (q : Lay) => show (ocells x q).toArray.size = 39 by simp [ocells_length])
  have h0 : OBlk (w.alloc (.cells (ocells o p).toArray 31)) w.heap.size o p := heap_alloc_new w _
  have hB : Below w.heap.size w (w.alloc (.cells (ocells o p).toArray 31)) := (Below.refl _ _).alloc (Nat.le_refl _) _
  obtain ⟨nd, hnd⟩ : ∃ n, Hid (∀ _ : Unit, o.data.length = n) := ⟨_, Lib.hid fun _ => rfl⟩
  obtain ⟨np, hnp⟩ : ∃ n, Hid (∀ _ : Unit, o.parts.length = n) := ⟨_, Lib.hid fun _ => rfl⟩
  obtain ⟨ni, hni⟩ : ∃ n, Hid (∀ _ : Unit, o.items.length = n) := ⟨_, Lib.hid fun _ => rfl⟩
  obtain ⟨nk, hnk⟩ : ∃ n, Hid (∀ _ : Unit, o.parents.length = n) := ⟨_, Lib.hid fun _ => rfl⟩
  have hmb := mayE_bounds h
  have lp : np ≤ 128 := by rw [← hnp.out ()]; exact hmb.ps
  have li : ni ≤ 128 := by rw [← hni.out ()]; exact hmb.xs
  have lk : nk ≤ 127 := by rw [← hnk.out ()]; exact hmb.ks
  have hlay : Hid ([3] ++ varL o.items.length ++ o.items.flatMap oneI = layL o) := Lib.hid (by unfold layL; rw [if_neg (by omega), if_neg (by omega), if_pos hk0, hk0]; simp)
  have hnm : Hid (∀ x ∈ o.items, x.1.size ≤ 64) := Lib.hid fun x hx => nameOk_size (itemsE_names o.items none (by have := hmb.hk; unfold kindE at this; rwa [if_neg (by omega), if_pos hk0] at this) x hx)
  have hk := Lib.hid (fun _ : Unit => hk0)
  rw [hnd.out ()] at hd
  have hdz : (nd : Int) < 8192 := by omega
  have hmay := Lib.hid (fun _ : Unit => h)
  have hmb' := Lib.hid hmb
  have hm' := Lib.hid hm
  have h0' := Lib.hid h0
  have hB' := Lib.hid hB
  clear hm h0 hB hi39 hi32 hi33 hi35 h hmb hk0 
  go_enter Tryd.func12, Tryd.ntmps12
  go_wp2_with (first
    | (refine wpList_load_row rfl 31 _ rfl w.heap.size rfl 31 _ (0, 0) _ h0'.out Tryd.underlying31 rfl (by rw [h39'.out]; exact hi39'.out) ?_)
    | (go_at_call 32
       have hmi : MayIn (w.alloc (.cells (ocells o p).toArray 31)) o p := ⟨u8t_keep hm'.out.may.tabs hB'.out, (hm'.out.may.oin.below hB'.out).mono hB'.out.size, hm'.out.may.fit, hm'.out.may.ps, hm'.out.may.note⟩
       refine (may_any _ o p hmi).mono ?_
       rintro e w1 ⟨rfl, b1⟩
       rw [hmay.out ()]
       have hb1 := Lib.hid (OBlk.below h0'.out b1 (lt_of_block h0'.out))
       have hB1 := Lib.hid (hB'.out.trans (b1.mono hB'.out.size))
       clear b1 hmi
       have c1 := hb1.out.c1
       rw [hnd.out ()] at c1
       have hbE : OBlk (w1.alloc (.cells #[.slice none 0 0, .pointer none] 59)) w.heap.size o p := (Below.heap_alloc w1 _ _ (lt_of_block hb1.out)).trans hb1.out
       have hZ : Hid (EncZ (w1.alloc (.cells #[.slice none 0 0, .pointer none] 59)) w1.heap.size) := Lib.hid ⟨heap_alloc_new w1 _⟩
       have cE : (w1.alloc (.cells #[.slice none 0 0, .pointer none] 59)).cell? ⟨w.heap.size, 0, none⟩ = some (.int .u8 3) := by have := hbE.c0; rw [hk.out ()] at this; exact this
       clear hbE h0' hB'))
  refine (put8F_any hZ.out 3 (by omega)).mono ?_
  rintro e w2 ⟨⟨v, rfl⟩, A2, c2, he, hr⟩
  have hS2 : Hid (EncS w w2 w1.heap.size o p A2 c2 [3]) := Lib.hid (EncS.first hb1.out hB1.out he hr)
  generalize w1.heap.size = g at hS2 ⊢
  clear he hr hZ hb1 hB1 cE c1
  have d0 : w2.cell? ⟨w.heap.size, 0, none⟩ = some (.int .u8 3) := by have := hS2.out.blk.c0; rw [hk.out ()] at this; exact this
  have d3 := hS2.out.blk.c3
  rw [hni.out ()] at d3
  have hwr : IntKind.u64.wrap (ni : Int) = (ni : Int) := by rw [IntKind.wrap_u64]; omega
  go_wp2_with fail
  refine (var_any hS2.out.enc ni (by omega) (by simp)).mono ?_
  rintro e w3 ⟨⟨v, rfl⟩, A3, c3, he, hr⟩
  have hS3 := Lib.hid (hS2.out.call he hr)
  clear he hr d0 d3 hS2
  have d3 := hS3.out.blk.c3
  rw [hni.out ()] at d3
  go_wp2_with fail
  go_loopw [70] (fun iv wr => ∃ (k : Nat) (A' : Option Addr) (c' : Nat), k ≤ ni ∧ iv = .int .i64 (k : Int) ∧ Hid (EncS w wr g o p A' c' ([3] ++ varL ni ++ (o.items.take k).flatMap oneI))) (fun iv _ => ni - (intOf iv).toNat)
  case atStart => exact ⟨0, A3, c3, by omega, rfl, Lib.hid (by simpa using hS3.out)⟩
  case round =>
    clear hS3 d3
    obtain ⟨k, A4, c4, hkn, rfl, hS4⟩ := hrel
    by_cases hlt : k < ni
    · have hkx : k < o.items.length := by rw [hni.out ()]; exact hlt
      obtain ⟨b, off, hAp, _, hc⟩ := Row.elem (Rd.below hm'.out.may.oin.xs hS4.out.bel) encI_length (by decide) hkx
      rw [hAp]
      have hgx := hm'.out.good.xs _ (List.getElem_mem hkx)
      have hnx := hnm.out _ (List.getElem_mem hkx)
      have hsucc := flat_take_succ oneI hkx
      have hlen : ([3] ++ varL ni ++ (o.items.take k).flatMap oneI).length ≤ 16000 := by
        have := flat_take_le oneI 117 o.items (fun x hx => oneI_le x (hnm.out x hx)) k (by rw [hni.out ()]; exact li)
        have := varL_le ni
        simp only [List.length_append, List.length_singleton]
        omega
      obtain ⟨x, hx⟩ : ∃ x, o.items[k] = x := ⟨_, rfl⟩
      rw [hx] at hc hgx hnx hsucc
      have hlen' := Lib.hid hlen
      have hsucc' := Lib.hid hsucc
      obtain ⟨nm, hnm1⟩ : ∃ y, x.1 = y := ⟨_, rfl⟩
      obtain ⟨mo, hmo⟩ : ∃ y, x.2.1 = y := ⟨_, rfl⟩
      obtain ⟨z, hz⟩ : ∃ z, x.2.2.1 = z := ⟨_, rfl⟩
      have hz' := Lib.hid (fun _ : Unit => hz)
      have hmo' := Lib.hid (fun _ : Unit => hmo)
      have hnm' := Lib.hid (fun _ : Unit => hnm1)
      have hz64 : z < 18446744073709551616 := by rw [← hz]; exact hgx.2.2.1
      have hm256 : mo < 256 := by rw [← hmo]; exact hgx.2.1
      have hn64 : nm.size ≤ 64 := by rw [← hnm1]; exact hnx
      have hrg := Lib.hid (show wr.rangeAt b (off + k * 35) (encI x) from fun j v hv => hc j v hv)
      have hnw := row_new wr 50 (encI (⟨#[]⟩, 0, 0, zK)).toArray (encI x).toArray
      have hN := Lib.hid hnw.1
      have hNb := Lib.hid (hnw.2 _ (Nat.le_refl wr.heap.size))
      have hxs' := Lib.hid (show (encI x).toArray.size = 35 by simp [encI_length])
      have hzs' := Lib.hid (show (encI (⟨#[]⟩, 0, 0, zK)).toArray.size = 35 by simp [encI_length])
      have hone' := Lib.hid (show (encI x).toArray.all (·.oneCell') = true from all_oneCell_toArray (encI_one x))
      have g0' := Lib.hid (show (encI x)[0]? = some (.string nm) by simp [encI, hnm1])
      have g1' := Lib.hid (show (encI x)[1]? = some (.int .u8 (mo : Int)) by simp [encI, hmo])
      have g2' := Lib.hid (show (encI x)[2]? = some (.int .u64 (z : Int)) by simp [encI, hz])
      have hky := Lib.hid (fun (W : World) (h : W.heap[wr.heap.size]? = some (.cells (encI x).toArray 50 (0, 0))) => show W.rangeAt wr.heap.size 3 (encK x.2.2.2) from range_of h (encI_key x))
      have hl32 := Lib.hid (encK_length x.2.2.2)
      have hfix : Hid (fixF 1 mo = [mo]) := Lib.hid (by unfold fixF fixF; rw [Nat.mod_eq_of_lt hm256])
      clear hc hnw hx hkx hz hmo hnm1 hlen hsucc hgx hnx
      go_wp2_with (first
        | (refine wpList_load_mid rfl 50 _ rfl b (off + k * 35) rfl (encI x) _ hrg.out Tryd.underlying50 rfl (by rw [encI_length]; exact hi35'.out) ?_)
        | (refine wpList_store_row rfl 50 _ _ rfl wr.heap.size (encI x).toArray rfl rfl 50 _ (heap_alloc_new wr _) (by rw [hxs'.out]; exact hi35'.out) (by rw [hxs'.out, hzs'.out]) hone'.out ?_
           generalize ((wr.alloc (.cells (encI (⟨#[]⟩, 0, 0, zK)).toArray 50)).setRow wr.heap.size (encI x).toArray) = w5 at hN hNb ⊢
           have hS5 := Lib.hid (hS4.out.keep hNb.out)
           have hL5 := Lib.hid (LocB.new hS4.out hN.out)
           generalize wr.heap.size = NL at hky hL5 ⊢
           have e0 : w5.cell? ⟨NL, 0, none⟩ = some (.string nm) := hL5.out.cell g0'.out))
      refine (text_any hS5.out.enc nm (by omega) (by have := hlen'.out; omega)).mono ?_
      rintro e w6 ⟨⟨v, rfl⟩, A6, c6, he, hr⟩
      have hS6 := Lib.hid (hS5.out.call he hr)
      have hL6 := Lib.hid (hL5.out.call hr)
      clear he hr e0
      have hl6 : Hid (([3] ++ varL ni ++ (o.items.take k).flatMap oneI ++ (varL nm.size ++ strL nm)).length ≤ 16100) := Lib.hid (by have h2 : (varL nm.size ++ strL nm).length ≤ 74 := (by rw [List.length_append, strL_length]; have := varL_le nm.size; omega); rw [List.length_append]; have := hlen'.out; omega)
      have e1 : w6.cell? ⟨NL, 1, none⟩ = some (.int .u8 (mo : Int)) := hL6.out.cell g1'.out
      go_wp2_with fail
      refine (put8_any hS6.out.enc mo hm256 (by have := hl6.out; omega)).mono ?_
      rintro e w7 ⟨⟨v, rfl⟩, A7, c7, he, hr⟩
      rw [hfix.out] at he
      have hS7 := Lib.hid (hS6.out.call he hr)
      have hL7 := Lib.hid (hL6.out.call hr)
      clear he hr e1
      have hl7 : Hid (([3] ++ varL ni ++ (o.items.take k).flatMap oneI ++ (varL nm.size ++ strL nm) ++ [mo]).length ≤ 16101) := Lib.hid (by rw [List.length_append, List.length_singleton]; have := hl6.out; omega)
      have e2 : w7.cell? ⟨NL, 2, none⟩ = some (.int .u64 (z : Int)) := hL7.out.cell g2'.out
      go_wp2_with fail
      refine (var_any hS7.out.enc z hz64 (by have := hl7.out; omega)).mono ?_
      rintro e w8 ⟨⟨v, rfl⟩, A8, c8, he, hr⟩
      have hS8 := Lib.hid (hS7.out.call he hr)
      have hL8 := Lib.hid (hL7.out.call hr)
      clear he hr e2
      have hl8 : Hid (([3] ++ varL ni ++ (o.items.take k).flatMap oneI ++ (varL nm.size ++ strL nm) ++ [mo] ++ varL z).length ≤ 16111) := Lib.hid (by rw [List.length_append]; have := hl7.out; have := varL_le z; omega)
      go_wp2_with (first
        | (refine wpList_load_mid rfl 28 _ rfl NL 3 rfl (encK x.2.2.2) _ (hky.out _ hL8.out.blk) Tryd.underlying28 rfl (by rw [hl32.out]; exact hi32'.out) ?_))
      refine (key_any hS8.out.enc x.2.2.2 (by have := hl8.out; omega)).mono ?_
      rintro e w9 ⟨⟨v, rfl⟩, A9, c9, he, hr⟩
      have hS9 := Lib.hid (hS8.out.call he hr)
      clear he hr
      go_wp2_with fail
      go_roundw
      case rel => exact ⟨k + 1, A9, c9, by omega, by go_num, Lib.hid (by
        have := hS9.out
        rw [← hz'.out (), ← hmo'.out (), ← hnm'.out ()] at this
        rw [hsucc'.out, ← List.append_assoc]
        have e : oneI x = (((varL x.1.size ++ strL x.1) ++ [x.2.1]) ++ varL x.2.2.1) ++ x.2.2.2.1 := rfl
        rw [e]
        simpa only [List.append_assoc] using this)⟩
      case measure => simp [intOf]; omega
    · obtain rfl : k = ni := by omega
      have hall : (o.items.take k).flatMap oneI = o.items.flatMap oneI := by rw [List.take_of_length_le (by rw [hni.out ()]; exact Nat.le_refl _)]
      obtain ⟨w5, hw5⟩ : ∃ w5, w5 = wr := ⟨_, rfl⟩
      subst hw5
      have hS6 : Hid (EncS w w5 g o p A4 c4 ([3] ++ varL o.items.length ++ o.items.flatMap oneI)) := Lib.hid (by rw [hni.out (), ← hall]; exact hS4.out)
      clear hS4 hall
      obtain ⟨A5, hA5⟩ : ∃ A5, A5 = A4 := ⟨_, rfl⟩
      subst hA5
      obtain ⟨c5, hc5⟩ : ∃ c5, c5 = c4 := ⟨_, rfl⟩
      subst hc5
      have hS5 : Hid (EncS w w5 g o p A5 c5 (layL o)) := Lib.hid (by have := hS6.out; rw [hlay.out] at this; exact this)
      by_cases hbig : 8192 < (layL o).length
      · have hE : Hid (encE o = 48) := Lib.hid (encE_large (hmay.out ()) (by rw [hnd.out ()]; omega) hbig)
        have hlb : (8192 : Int) < ((layL o).length : Int) := by omega
        obtain ⟨N, hN⟩ : ∃ N, Hid (∀ _ : Unit, (layL o).length = N) := ⟨_, Lib.hid fun _ => rfl⟩
        have hlen := Lib.hid (len_any hS5.out.enc)
        rw [hN.out ()] at hlb hlen
        clear hbig
        go_wp2_with fail
        refine hlen.out.mono ?_
        rintro e w' ⟨rfl, rfl⟩
        go_wp2_with fail
        go_ret2
        exact EncPost.no hE.out (by decide) hS5.out.bel
      · have hE : Hid (encE o = 0) := Lib.hid (encE_ok (hmay.out ()) (by rw [hnd.out ()]; omega) (by omega))
        have hlb : ((layL o).length : Int) ≤ 8192 := by omega
        have h0l : 0 < (layL o).length := by unfold layL; rw [List.length_append]; simp; omega
        obtain ⟨N, hN⟩ : ∃ N, Hid (∀ _ : Unit, (layL o).length = N) := ⟨_, Lib.hid fun _ => rfl⟩
        have hlen := Lib.hid (len_any hS5.out.enc)
        have hbyt := Lib.hid (encbytes_any hS5.out.enc h0l (by omega))
        rw [hN.out ()] at hlb hlen hbyt
        clear hbig h0l
        go_wp2_with fail
        refine hlen.out.mono ?_
        rintro e w' ⟨rfl, rfl⟩
        go_wp2_with fail
        refine hbyt.out.mono ?_
        rintro e w6 ⟨⟨A6, c6, rfl, o6⟩, b6⟩
        have o6' := Lib.hid (o6.base (show w.heap.size ≤ w5.heap.size from hS5.out.bel.size))
        have b6' := Lib.hid (hS5.out.bel.trans (b6.mono hS5.out.bel.size))
        clear o6 b6
        go_wp2_with fail
        go_ret2
        exact EncPost.yes hE.out (hN.out ()) o6'.out b6'.out

set_option maxRecDepth 100000 in
set_option maxHeartbeats 4000000 in
theorem encode_k4 (w : World) (o : ObjT) (p : Lay) (hm : EncIn w o p) (h : mayE o = 0) (hk0 : o.kind = 4) (hd : o.data.length < 8192) :
    Calls Tryd.prog 12 #[.agg (ocells o p).toArray] w (EncPost w o) := by
  have hi39 : (Tryd.prog.info? 31).map (·.size) = some 39 := by kernel_rfl
  have hi39' := Lib.hid hi39
  have hi32 : (Tryd.prog.info? 28).map (·.size) = some 32 := by kernel_rfl
  have hi32' := Lib.hid hi32
  have hi33 : (Tryd.prog.info? 47).map (·.size) = some 33 := by kernel_rfl
  have hi33' := Lib.hid hi33
  have hi35 : (Tryd.prog.info? 50).map (·.size) = some 35 := by kernel_rfl
  have hi35' := Lib.hid hi35
  have zP := zeroP; have zI := zeroI; have zK0 := zeroKey; have bE := buildE
  have h39' := Lib.hid (fun (x : ObjT) (q : Lay) => show (ocells x q).toArray.size = 39 by simp [ocells_length])
  have h0 : OBlk (w.alloc (.cells (ocells o p).toArray 31)) w.heap.size o p := heap_alloc_new w _
  have hB : Below w.heap.size w (w.alloc (.cells (ocells o p).toArray 31)) := (Below.refl _ _).alloc (Nat.le_refl _) _
  obtain ⟨nd, hnd⟩ : ∃ n, Hid (∀ _ : Unit, o.data.length = n) := ⟨_, Lib.hid fun _ => rfl⟩
  obtain ⟨np, hnp⟩ : ∃ n, Hid (∀ _ : Unit, o.parts.length = n) := ⟨_, Lib.hid fun _ => rfl⟩
  obtain ⟨ni, hni⟩ : ∃ n, Hid (∀ _ : Unit, o.items.length = n) := ⟨_, Lib.hid fun _ => rfl⟩
  obtain ⟨nk, hnk⟩ : ∃ n, Hid (∀ _ : Unit, o.parents.length = n) := ⟨_, Lib.hid fun _ => rfl⟩
  have hmb := mayE_bounds h
  have lp : np ≤ 128 := by rw [← hnp.out ()]; exact hmb.ps
  have li : ni ≤ 128 := by rw [← hni.out ()]; exact hmb.xs
  have lk : nk ≤ 127 := by rw [← hnk.out ()]; exact hmb.ks
  have hlay : Hid ([4] ++ layT o = layL o) := Lib.hid (by unfold layL; rw [if_neg (by omega), if_neg (by omega), if_neg (by omega), if_pos hk0, hk0])
  have hnt : o.note.size ≤ 1024 := by
    have := hmb.hk
    unfold kindE noteB at this
    rw [if_neg (by omega), if_neg (by omega), if_pos hk0] at this
    by_cases h1 : 1024 < o.note.size
    · simp [h1] at this
    · omega
  obtain ⟨s, hs⟩ : ∃ s, Hid (∀ _ : Unit, o.note = s) := ⟨_, Lib.hid fun _ => rfl⟩
  obtain ⟨tm, htm⟩ : ∃ s, Hid (∀ _ : Unit, o.time = s) := ⟨_, Lib.hid fun _ => rfl⟩
  rw [hs.out ()] at hnt
  have hl32 := Lib.hid (encK_length o.tree)
  have hk := Lib.hid (fun _ : Unit => hk0)
  rw [hnd.out ()] at hd
  have hdz : (nd : Int) < 8192 := by omega
  have hmay := Lib.hid (fun _ : Unit => h)
  have hmb' := Lib.hid hmb
  have hm' := Lib.hid hm
  have h0' := Lib.hid h0
  have hB' := Lib.hid hB
  clear hm h0 hB hi39 hi32 hi33 hi35 h hmb hk0 
  go_enter Tryd.func12, Tryd.ntmps12
  go_wp2_with (first
    | (refine wpList_load_row rfl 31 _ rfl w.heap.size rfl 31 _ (0, 0) _ h0'.out Tryd.underlying31 rfl (by rw [h39'.out]; exact hi39'.out) ?_)
    | (go_at_call 32
       have hmi : MayIn (w.alloc (.cells (ocells o p).toArray 31)) o p := ⟨u8t_keep hm'.out.may.tabs hB'.out, (hm'.out.may.oin.below hB'.out).mono hB'.out.size, hm'.out.may.fit, hm'.out.may.ps, hm'.out.may.note⟩
       refine (may_any _ o p hmi).mono ?_
       rintro e w1 ⟨rfl, b1⟩
       rw [hmay.out ()]
       have hb1 := Lib.hid (OBlk.below h0'.out b1 (lt_of_block h0'.out))
       have hB1 := Lib.hid (hB'.out.trans (b1.mono hB'.out.size))
       clear b1 hmi
       have c1 := hb1.out.c1
       rw [hnd.out ()] at c1
       have hbE : OBlk (w1.alloc (.cells #[.slice none 0 0, .pointer none] 59)) w.heap.size o p := (Below.heap_alloc w1 _ _ (lt_of_block hb1.out)).trans hb1.out
       have hZ : Hid (EncZ (w1.alloc (.cells #[.slice none 0 0, .pointer none] 59)) w1.heap.size) := Lib.hid ⟨heap_alloc_new w1 _⟩
       have cE : (w1.alloc (.cells #[.slice none 0 0, .pointer none] 59)).cell? ⟨w.heap.size, 0, none⟩ = some (.int .u8 4) := by have := hbE.c0; rw [hk.out ()] at this; exact this
       clear hbE h0' hB'))
  refine (put8F_any hZ.out 4 (by omega)).mono ?_
  rintro e w2 ⟨⟨v, rfl⟩, A2, c2, he, hr⟩
  have hS2 : Hid (EncS w w2 w1.heap.size o p A2 c2 [4]) := Lib.hid (EncS.first hb1.out hB1.out he hr)
  generalize w1.heap.size = g at hS2 ⊢
  clear he hr hZ hb1 hB1 cE c1
  have d0 : w2.cell? ⟨w.heap.size, 0, none⟩ = some (.int .u8 4) := by have := hS2.out.blk.c0; rw [hk.out ()] at this; exact this
  go_wp2_with (first
    | (refine wpList_load_mid rfl 28 _ rfl w.heap.size 4 rfl (encK o.tree) _ hS2.out.blk.tree Tryd.underlying28 rfl (by rw [hl32.out]; exact hi32'.out) ?_))
  refine (key_any hS2.out.enc o.tree (by simp)).mono ?_
  rintro e w3 ⟨⟨v, rfl⟩, A3, c3, he, hr⟩
  have hS3 := Lib.hid (hS2.out.call he hr)
  clear he hr d0 hS2
  have d3 := hS3.out.blk.c36
  rw [hnk.out ()] at d3
  have hwr : IntKind.u64.wrap (nk : Int) = (nk : Int) := by rw [IntKind.wrap_u64]; omega
  go_wp2_with fail
  refine (var_any hS3.out.enc nk (by omega) (by rw [List.length_append, o.tree.2]; simp)).mono ?_
  rintro e w4 ⟨⟨v, rfl⟩, A4, c4, he, hr⟩
  have hS4 := Lib.hid (hS3.out.call he hr)
  clear he hr d3 hS3
  have d3 := hS4.out.blk.c36
  rw [hnk.out ()] at d3
  go_wp2_with fail
  go_loopw [106] (fun iv wr => ∃ (k : Nat) (A' : Option Addr) (c' : Nat), k ≤ nk ∧ iv = .int .i64 (k : Int) ∧ Hid (EncS w wr g o p A' c' ([4] ++ o.tree.1 ++ varL nk ++ (o.parents.take k).flatMap oneK))) (fun iv _ => nk - (intOf iv).toNat)
  case atStart => exact ⟨0, A4, c4, by omega, rfl, Lib.hid (by simpa using hS4.out)⟩
  case round =>
    clear hS4 d3
    obtain ⟨k, A4, c4, hkn, rfl, hS4⟩ := hrel
    have hlen : ([4] ++ o.tree.1 ++ varL nk ++ (o.parents.take k).flatMap oneK).length ≤ 5000 := by
      have := flat_take_le oneK 32 o.parents (fun x _ => oneK_le x) k (by rw [hnk.out ()]; omega)
      have := varL_le nk
      have := o.tree.2
      simp only [List.length_append, List.length_singleton]
      omega
    have hlen' := Lib.hid hlen
    clear hlen
    by_cases hlt : k < nk
    · have hkx : k < o.parents.length := by rw [hnk.out ()]; exact hlt
      obtain ⟨b, off, hAp, _, hc⟩ := Row.elem (Rd.below hm'.out.may.oin.ks hS4.out.bel) encK_length (by decide) hkx
      rw [hAp]
      have hsucc := flat_take_succ oneK hkx
      obtain ⟨x, hx⟩ : ∃ x, o.parents[k] = x := ⟨_, rfl⟩
      rw [hx] at hc hsucc
      have hsucc' := Lib.hid hsucc
      have hrg := Lib.hid (show wr.rangeAt b (off + k * 32) (encK x) from fun j v hv => hc j v hv)
      have hnw := row_new wr 28 (encK zK).toArray (encK x).toArray
      have hN := Lib.hid hnw.1
      have hNb := Lib.hid (hnw.2 _ (Nat.le_refl wr.heap.size))
      have hxs' := Lib.hid (show (encK x).toArray.size = 32 by simp [encK_length])
      have hzs' := Lib.hid (show (encK zK).toArray.size = 32 by simp [encK_length])
      have hone' := Lib.hid (show (encK x).toArray.all (·.oneCell') = true from all_oneCell_toArray (encK_one x))
      have hky := Lib.hid (fun (W : World) (h : W.heap[wr.heap.size]? = some (.cells (encK x).toArray 28 (0, 0))) => show W.rangeAt wr.heap.size 0 (encK x) from range_of h (by simp))
      have hx32 := Lib.hid (encK_length x)
      clear hc hnw hx hkx hsucc
      go_wp2_with (first
        | (refine wpList_load_mid rfl 28 _ rfl b (off + k * 32) rfl (encK x) _ hrg.out Tryd.underlying28 rfl (by rw [hx32.out]; exact hi32'.out) ?_)
        | (refine wpList_store_row rfl 28 _ _ rfl wr.heap.size (encK x).toArray rfl rfl 28 _ (heap_alloc_new wr _) (by rw [hxs'.out]; exact hi32'.out) (by rw [hxs'.out, hzs'.out]) hone'.out ?_
           generalize ((wr.alloc (.cells (encK zK).toArray 28)).setRow wr.heap.size (encK x).toArray) = w5 at hN hNb ⊢
           have hS5 := Lib.hid (hS4.out.keep hNb.out)
           have hL5 := Lib.hid (LocB.new hS4.out hN.out)
           generalize wr.heap.size = NL at hky hL5 ⊢)
        | (refine wpList_load_mid rfl 28 _ rfl NL 0 rfl (encK x) _ (hky.out _ hL5.out.blk) Tryd.underlying28 rfl (by rw [hx32.out]; exact hi32'.out) ?_))
      refine (key_any hS5.out.enc x (by have := hlen'.out; omega)).mono ?_
      rintro e w6 ⟨⟨v, rfl⟩, A6, c6, he, hr⟩
      have hS6 := Lib.hid (hS5.out.call he hr)
      clear he hr
      go_wp2_with fail
      go_roundw
      case rel => exact ⟨k + 1, A6, c6, by omega, by go_num, Lib.hid (by rw [hsucc'.out, ← List.append_assoc]; exact hS6.out)⟩
      case measure => simp [intOf]; omega
    · obtain rfl : k = nk := by omega
      have hall : (o.parents.take k).flatMap oneK = o.parents.flatMap oneK := by rw [List.take_of_length_le (by rw [hnk.out ()]; exact Nat.le_refl _)]
      rw [hall] at hS4 hlen'
      clear hall
      have d4 := hS4.out.blk.c37
      rw [htm.out ()] at d4
      go_wp2_with fail
      refine (put64_any hS4.out.enc tm (by have := hlen'.out; omega)).mono ?_
      rintro e w6 ⟨⟨v, rfl⟩, A6, c6, he, hr⟩
      have hS6 := Lib.hid (hS4.out.call he hr)
      have hl6 : Hid (([4] ++ o.tree.1 ++ varL k ++ o.parents.flatMap oneK ++ fixF 8 (tm % 18446744073709551616).toNat).length ≤ 5010) := Lib.hid (by rw [List.length_append, fixF_length]; have := hlen'.out; omega)
      clear he hr d4 hS4
      have d5 := hS6.out.blk.c38
      rw [hs.out ()] at d5
      go_wp2_with fail
      refine (text_any hS6.out.enc s (by omega) (by have := hl6.out; omega)).mono ?_
      rintro e w5 ⟨⟨v, rfl⟩, A5, c5, he, hr⟩
      have hS7 : Hid (EncS w w5 g o p A5 c5 ([4] ++ layT o)) := Lib.hid (by
        have := hS6.out.call he hr
        rw [← hs.out (), ← htm.out (), ← hnk.out ()] at this
        have e : layT o = o.tree.1 ++ varL o.parents.length ++ o.parents.flatMap oneK ++ fixF 8 (o.time % 18446744073709551616).toNat ++ (varL o.note.size ++ strL o.note) := rfl
        rw [e]
        simpa only [List.append_assoc] using this)
      clear he hr d5 hS6
      have hS5 : Hid (EncS w w5 g o p A5 c5 (layL o)) := Lib.hid (by have := hS7.out; rw [hlay.out] at this; exact this)
      by_cases hbig : 8192 < (layL o).length
      · have hE : Hid (encE o = 48) := Lib.hid (encE_large (hmay.out ()) (by rw [hnd.out ()]; omega) hbig)
        have hlb : (8192 : Int) < ((layL o).length : Int) := by omega
        obtain ⟨N, hN⟩ : ∃ N, Hid (∀ _ : Unit, (layL o).length = N) := ⟨_, Lib.hid fun _ => rfl⟩
        have hlen := Lib.hid (len_any hS5.out.enc)
        rw [hN.out ()] at hlb hlen
        clear hbig
        go_wp2_with fail
        refine hlen.out.mono ?_
        rintro e w' ⟨rfl, rfl⟩
        go_wp2_with fail
        go_ret2
        exact EncPost.no hE.out (by decide) hS5.out.bel
      · have hE : Hid (encE o = 0) := Lib.hid (encE_ok (hmay.out ()) (by rw [hnd.out ()]; omega) (by omega))
        have hlb : ((layL o).length : Int) ≤ 8192 := by omega
        have h0l : 0 < (layL o).length := by unfold layL; rw [List.length_append]; simp; omega
        obtain ⟨N, hN⟩ : ∃ N, Hid (∀ _ : Unit, (layL o).length = N) := ⟨_, Lib.hid fun _ => rfl⟩
        have hlen := Lib.hid (len_any hS5.out.enc)
        have hbyt := Lib.hid (encbytes_any hS5.out.enc h0l (by omega))
        rw [hN.out ()] at hlb hlen hbyt
        clear hbig h0l
        go_wp2_with fail
        refine hlen.out.mono ?_
        rintro e w' ⟨rfl, rfl⟩
        go_wp2_with fail
        refine hbyt.out.mono ?_
        rintro e w6 ⟨⟨A6, c6, rfl, o6⟩, b6⟩
        have o6' := Lib.hid (o6.base (show w.heap.size ≤ w5.heap.size from hS5.out.bel.size))
        have b6' := Lib.hid (hS5.out.bel.trans (b6.mono hS5.out.bel.size))
        clear o6 b6
        go_wp2_with fail
        go_ret2
        exact EncPost.yes hE.out (hN.out ()) o6'.out b6'.out

theorem encode_any (w : World) (o : ObjT) (p : Lay) (hm : EncIn w o p) : Calls Tryd.prog 12 #[.agg (ocells o p).toArray] w (EncPost w o) := by
  by_cases h : mayE o = 0
  · by_cases hd : 8192 ≤ o.data.length
    · exact encode_much w o p hm h hd
    · have hb := mayE_bounds h
      have h1 := hb.k1
      have h4 := hb.k4
      have hd' : o.data.length < 8192 := by omega
      rcases (by omega : o.kind = 1 ∨ o.kind = 2 ∨ o.kind = 3 ∨ o.kind = 4) with k | k | k | k
      · exact encode_k1 w o p hm h k hd'
      · exact encode_k2 w o p hm h k hd'
      · exact encode_k3 w o p hm h k hd'
      · exact encode_k4 w o p hm h k hd'
  · exact encode_no w o p hm h

end Go.Proofs.YtkjndgapejbgcaaDoor

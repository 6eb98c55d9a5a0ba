/- The object whose encoding some bytes are: object.Decode. (Printed by tools/gendecode.py.) -/
import Derived.Test.YtkjndgapejbgcaaDoorPkD25
import Derived.Test.YtkjndgapejbgcaaDoorPkD35

namespace Go.Proofs.YtkjndgapejbgcaaDoor
open Go.RowKit
set_option linter.unusedSimpArgs false
set_option linter.unusedVariables false

theorem gr2_below {w w' : World} {g h B : Nat} (k : Gr2 w w' g h) (hg : B ≤ g) (hh : B ≤ h) (hs : B ≤ w.heap.size) : Below B w w' :=
  ⟨k.os, k.tape, k.output, k.size, fun j hj => k.block j (by omega) (by omega) (by omega)⟩
theorem Own.rowFar {w : World} {B : Nat} {e : TypeId} {size n c : Nat} {A : Option Addr} {xs : List Value} (ho : Own w B e size A n c xs) {g : Nat} (hg : g < B) (cs : Array Value) : Own (w.setRow g cs) B e size A n c xs :=
  ho.kept (grown_setRow w g cs) fun k hk e => by have := (ho.lt k hk).1; injection e with e; omega
section
variable {w w' : World} {B : Nat} {o : ObjT} {p : Lay}
theorem OOwn.objIn (h : OOwn w B o p) : ObjIn w w.heap.size o p := ⟨h.d.byt, h.ps.rd, h.xs.rd, h.ks.rd⟩
theorem OOwn.below (h : OOwn w B o p) (hb : Below w.heap.size w w') : OOwn w' B o p :=
  ⟨h.d.below hb fun k hk => (h.d.lt k hk).2, h.ps.below hb fun k hk => (h.ps.lt k hk).2, h.xs.below hb fun k hk => (h.xs.lt k hk).2, h.ks.below hb fun k hk => (h.ks.lt k hk).2⟩
theorem OOwn.base {B' : Nat} (h : OOwn w B o p) (hB : B' ≤ B) : OOwn w B' o p := ⟨h.d.base hB, h.ps.base hB, h.xs.base hB, h.ks.base hB⟩
theorem OOwn.rowFar (h : OOwn w B o p) {g : Nat} (hg : g < B) (cs : Array Value) : OOwn (w.setRow g cs) B o p := ⟨h.d.rowFar hg cs, h.ps.rowFar hg cs, h.xs.rowFar hg cs, h.ks.rowFar hg cs⟩
end
theorem buildOk (K : Nat) (w : World) : (Instr.build 31 #[(0, .int .u8 (K : Int))]).run Tryd.prog w = .ok (.agg (ocells { oZ with kind := K } pZ).toArray) w := run_build w _ _ _ (by kernel_rfl)
theorem open_gen (w : World) (A : Option Addr) (l : List Nat) (n c : Nat) (hn : l.length = n) (hA : A = none → n = 0 ∧ c = 0) (hb : Byt w w.heap.size A l) (hs : n ≤ 140737488355328) (h256 : ∀ x ∈ l, x < 256) :
    Calls Tryd.prog 47 #[.slice A n c] w (OpenPost w l) := by
  cases A with
  | some a => exact open_any w a l n c hn hb hs h256
  | none =>
    obtain ⟨rfl, rfl⟩ := hA rfl
    obtain rfl : l = [] := List.length_eq_zero_iff.1 hn
    exact open_nil w
/-- What Decode leaves. -/
def DecodePost (w : World) (R : Nat × ObjT) (e : Ending) (w' : World) : Prop :=
  (∃ p, e = .returned (.tuple #[.agg (ocells R.2 p).toArray, .int .i64 (R.1 : Int)]) ∧ OOwn w' w.heap.size R.2 p) ∧ Below w.heap.size w w'

theorem readerOf1 (w : World) : Calls Tryd.prog 49 #[.int .u8 1] w fun e w' => e = .returned (.func (.func 76) #[] #[]) ∧ w = w' := by
  go_enter Tryd.func49, Tryd.ntmps49
  go_wp2_with fail
  go_ret
  exact ⟨rfl, rfl⟩
theorem readerOf2 (w : World) : Calls Tryd.prog 49 #[.int .u8 2] w fun e w' => e = .returned (.func (.func 79) #[] #[]) ∧ w = w' := by
  go_enter Tryd.func49, Tryd.ntmps49
  go_wp2_with fail
  go_ret
  exact ⟨rfl, rfl⟩
theorem readerOf3 (w : World) : Calls Tryd.prog 49 #[.int .u8 3] w fun e w' => e = .returned (.func (.func 82) #[] #[]) ∧ w = w' := by
  go_enter Tryd.func49, Tryd.ntmps49
  go_wp2_with fail
  go_ret
  exact ⟨rfl, rfl⟩
theorem readerOf4 (w : World) : Calls Tryd.prog 49 #[.int .u8 4] w fun e w' => e = .returned (.func (.func 85) #[] #[]) ∧ w = w' := by
  go_enter Tryd.func49, Tryd.ntmps49
  go_wp2_with fail
  go_ret
  exact ⟨rfl, rfl⟩
theorem readerNo (w : World) (K : Nat) (h : kindIn K = false) : Calls Tryd.prog 49 #[.int .u8 (K : Int)] w fun e w' => e = .returned .nilFunc ∧ w = w' := by
  have hk : ¬ (1 ≤ K ∧ K ≤ 4) := by unfold kindIn at h; simpa using h
  have q1 : ((K : Int) == 1) = false := by simp; omega
  have q2 : ((K : Int) == 2) = false := by simp; omega
  have q3 : ((K : Int) == 3) = false := by simp; omega
  have q4 : ((K : Int) == 4) = false := by simp; omega
  clear h hk
  go_enter Tryd.func49, Tryd.ntmps49
  go_wp2_with fail
  go_ret
  exact ⟨rfl, rfl⟩

set_option maxRecDepth 100000 in
set_option maxHeartbeats 4000000 in
theorem decode_long (w : World) (hT : U8T w) (A : Option Addr) (l : List Nat) (n c : Nat) (hn : l.length = n) (hA : A = none → n = 0 ∧ c = 0) (hb : Byt w w.heap.size A l) (hs : n ≤ 140737488355328) (h256 : ∀ x ∈ l, x < 256) (hlong : 8192 < l.length) :
    Calls Tryd.prog 19 #[.slice A n c] w (DecodePost w (decM l)) := by
  have hz := zeroO
  have hi39 : (Tryd.prog.info? 31).map (·.size) = some 39 := by kernel_rfl
  have hi39' := Lib.hid hi39
  have h39' := Lib.hid (fun (x : ObjT) (q : Lay) => show (ocells x q).toArray.size = 39 by simp [ocells_length])
  have hone' := Lib.hid (fun (x : ObjT) (q : Lay) => show (ocells x q).toArray.all (·.oneCell') = true from all_oneCell_toArray (ocells_one x q))
  have hN0 : Hid ((w.alloc (.cells (ocells oZ pZ).toArray 31)).heap[w.heap.size]? = some (.cells (ocells oZ pZ).toArray 31 (0, 0))) := Lib.hid (heap_alloc_new w _)
  have hBz : Below w.heap.size w (w.alloc (.cells (ocells oZ pZ).toArray 31)) := (Below.refl _ _).alloc (Nat.le_refl _) _
  have hB0 := Lib.hid hBz
  have hop := Lib.hid (open_gen _ A l n c hn hA ((hb.below hBz).mono hBz.size) hs h256)
  obtain ⟨RR, hRR⟩ : ∃ R, Hid (∀ _ : Unit, decM l = R) := ⟨_, Lib.hid fun _ => rfl⟩
  rw [hRR.out ()]
  have hT' := Lib.hid hT
  have hn' := Lib.hid (fun _ : Unit => hn)
  have h256' := Lib.hid h256
  have hR : Hid (decM l = (48, oZ)) := Lib.hid (by unfold decM; rw [if_pos hlong])
  rw [hn'.out ()] at hlong
  have hlz : (8192 : Int) < (n : Int) := by omega
  clear hT hb h256 hi39 hBz hlong
  clear hA hn
  go_enter Tryd.func19, Tryd.ntmps19
  go_wp2_with (first
    | (refine wpList_built rfl 31 _ #[] rfl (by simp) _ (buildO _) ?_)
    | (refine wpList_store_row rfl 31 _ _ rfl w.heap.size (ocells oZ pZ).toArray rfl rfl 31 _ hN0.out (by rw [h39'.out]; exact hi39'.out) rfl (hone'.out _ _) ?_))
  have hres := setRow_heap _ w.heap.size _ (ocells oZ pZ).toArray 31 _ hN0.out
  refine bodyPost_ret (results_row_tmp rfl _ _ w.heap.size 31 _ (0, 0) _ (.int .i64 48) rfl rfl hres Tryd.underlying31 rfl (by rw [h39'.out]; exact hi39'.out)) rfl ?_
  rw [← hRR.out (), hR.out]
  exact ⟨⟨pZ, rfl, OOwn.zero _ _ 0⟩, setRow_below hB0.out (Nat.le_refl _) _⟩

set_option maxRecDepth 100000 in
set_option maxHeartbeats 4000000 in
theorem decode_kind (w : World) (hT : U8T w) (A : Option Addr) (l : List Nat) (n c : Nat) (hn : l.length = n) (hA : A = none → n = 0 ∧ c = 0) (hb : Byt w w.heap.size A l) (hs : n ≤ 140737488355328) (h256 : ∀ x ∈ l, x < 256) (hsh : l.length ≤ 8192) (hkd : kindIn (fixM l 1 (some 0)).1 = false) :
    Calls Tryd.prog 19 #[.slice A n c] w (DecodePost w (decM l)) := by
  have hz := zeroO
  have hi39 : (Tryd.prog.info? 31).map (·.size) = some 39 := by kernel_rfl
  have hi39' := Lib.hid hi39
  have h39' := Lib.hid (fun (x : ObjT) (q : Lay) => show (ocells x q).toArray.size = 39 by simp [ocells_length])
  have hone' := Lib.hid (fun (x : ObjT) (q : Lay) => show (ocells x q).toArray.all (·.oneCell') = true from all_oneCell_toArray (ocells_one x q))
  have hN0 : Hid ((w.alloc (.cells (ocells oZ pZ).toArray 31)).heap[w.heap.size]? = some (.cells (ocells oZ pZ).toArray 31 (0, 0))) := Lib.hid (heap_alloc_new w _)
  have hBz : Below w.heap.size w (w.alloc (.cells (ocells oZ pZ).toArray 31)) := (Below.refl _ _).alloc (Nat.le_refl _) _
  have hB0 := Lib.hid hBz
  have hop := Lib.hid (open_gen _ A l n c hn hA ((hb.below hBz).mono hBz.size) hs h256)
  obtain ⟨RR, hRR⟩ : ∃ R, Hid (∀ _ : Unit, decM l = R) := ⟨_, Lib.hid fun _ => rfl⟩
  rw [hRR.out ()]
  have hT' := Lib.hid hT
  have hn' := Lib.hid (fun _ : Unit => hn)
  have h256' := Lib.hid h256
  have hshort : l.length ≤ 8192 := hsh
  have hshort' := Lib.hid hshort
  rw [hn'.out ()] at hshort
  have hlz : (n : Int) ≤ 8192 := by omega
  obtain ⟨K, s0, hK⟩ : ∃ x s', Hid (fixM l 1 (some 0) = (x, s')) := ⟨_, _, Lib.hid rfl⟩
  have hR : Hid (decM l = (49, oZ)) := Lib.hid (by unfold decM; rw [if_neg (by omega), if_pos hkd])
  rw [hK.out] at hkd
  have hrd := Lib.hid (fun W => readerNo W K hkd)
  have hnf : ∀ W, (binOp .eql 75 .nilFunc .nilFunc).run Tryd.prog W = .ok (.bool true) W := fun W => by kernel_rfl
  clear hT hb h256 hi39 hBz hsh hkd
  clear hA hn
  go_enter Tryd.func19, Tryd.ntmps19
  go_wp2_with fail
  refine hop.out.mono ?_
  rintro e w1 ⟨⟨g, A1, c1, rfl, hg, d1, hab⟩, b1⟩
  have htk := takeuint8_any d1
  rw [hK.out] at htk
  have htk' := Lib.hid htk
  have hg' : Hid (w.heap.size + 1 ≤ g) := Lib.hid (by simpa using hg)
  have hB1 := Lib.hid (hB0.out.trans (b1.mono hB0.out.size))
  have hN1 := Lib.hid ((b1.block w.heap.size (by simp)).trans hN0.out)
  have hab1 : Hid (∀ j, blockOf A1 = some j → w.heap.size + 1 ≤ j) := Lib.hid fun j hj => by simpa using hab j hj
  clear hop d1 hab b1 htk hg
  go_wp2_with fail
  refine htk'.out.mono ?_
  rintro e w2 ⟨rfl, d2, g2⟩
  have hB2 := Lib.hid (hB1.out.trans (grown_below g2 hB1.out.size (fun k hk => by injection hk with hk; have := hg'.out; omega)))
  have hN2 := Lib.hid ((g2.block w.heap.size (lt_of_block hN1.out) (fun e => by injection e with e; have := hg'.out; omega)).trans hN1.out)
  have d2' := Lib.hid d2
  clear d2 g2 htk' hB1 hN1
  go_wp2_with (first
    | (refine wpList_built rfl 31 _ #[(0, .int .u8 (K : Int))] rfl (by rw [List.map_toArray]; rfl) _ (buildOk K _) ?_)
    | (refine wpList_store_row rfl 31 _ _ rfl w2.heap.size (ocells { oZ with kind := K } pZ).toArray rfl rfl 31 _ (heap_alloc_new w2 _) (by rw [h39'.out]; exact hi39'.out) (by rw [h39'.out, h39'.out]) (hone'.out _ _) ?_
       have hnw := row_new w2 31 (ocells oZ pZ).toArray (ocells { oZ with kind := K } pZ).toArray
       have hbb := hnw.2 w2.heap.size (Nat.le_refl _)
       generalize ((w2.alloc (.cells (ocells oZ pZ).toArray 31)).setRow w2.heap.size (ocells { oZ with kind := K } pZ).toArray) = w3 at hnw hbb ⊢
       have hB3 := Lib.hid (hB2.out.trans (hbb.mono hB2.out.size))
       have hN3 := Lib.hid ((hbb.block w.heap.size (lt_of_block hN2.out)).trans hN2.out)
       have hr3 : Hid (RdS w3 w3 g w2.heap.size A1 c1 l s0 { oZ with kind := K } pZ) := Lib.hid (RdS.start (d2'.out.keep hbb) hnw.1 (by have := d2'.out.gl; omega) (fun e => by have := d2'.out.ab _ e; omega))
       have hhs := Lib.hid hB2.out.size
       have hne0 := Lib.hid (show w.heap.size ≠ w2.heap.size from by have := lt_of_block hN2.out; omega)
       clear hnw hbb hB2 hN2 d2'
       generalize w2.heap.size = h at hr3 hhs hne0 ⊢
       have x0 : w3.cell? ⟨h, 0, none⟩ = some (.int .u8 (K : Int)) := hr3.out.ob.c0)
    | (go_at_call 49; refine (hrd.out _).mono ?_; rintro e w' ⟨rfl, rfl⟩)
    | (refine wpList_built rfl 31 _ #[] rfl (by simp) _ (buildO _) ?_)
    | (refine wpList_store_row rfl 31 _ _ rfl w.heap.size (ocells oZ pZ).toArray rfl rfl 31 _ hN3.out (by rw [h39'.out]; exact hi39'.out) rfl (hone'.out _ _) ?_))
  have hres := setRow_heap w3 w.heap.size _ (ocells oZ pZ).toArray 31 _ hN3.out
  refine bodyPost_ret (results_row_tmp rfl _ _ w.heap.size 31 _ (0, 0) _ (.int .i64 49) rfl rfl hres Tryd.underlying31 rfl (by rw [h39'.out]; exact hi39'.out)) rfl ?_
  rw [← hRR.out (), hR.out]
  exact ⟨⟨pZ, rfl, OOwn.zero _ _ 0⟩, setRow_below hB3.out (Nat.le_refl _) _⟩

set_option maxRecDepth 100000 in
set_option maxHeartbeats 4000000 in
theorem decode_k1 (w : World) (hT : U8T w) (A : Option Addr) (l : List Nat) (n c : Nat) (hn : l.length = n) (hA : A = none → n = 0 ∧ c = 0) (hb : Byt w w.heap.size A l) (hs : n ≤ 140737488355328) (h256 : ∀ x ∈ l, x < 256) (hsh : l.length ≤ 8192) (hkd : (fixM l 1 (some 0)).1 = 1) :
    Calls Tryd.prog 19 #[.slice A n c] w (DecodePost w (decM l)) := by
  have hz := zeroO
  have hi39 : (Tryd.prog.info? 31).map (·.size) = some 39 := by kernel_rfl
  have hi39' := Lib.hid hi39
  have h39' := Lib.hid (fun (x : ObjT) (q : Lay) => show (ocells x q).toArray.size = 39 by simp [ocells_length])
  have hone' := Lib.hid (fun (x : ObjT) (q : Lay) => show (ocells x q).toArray.all (·.oneCell') = true from all_oneCell_toArray (ocells_one x q))
  have hN0 : Hid ((w.alloc (.cells (ocells oZ pZ).toArray 31)).heap[w.heap.size]? = some (.cells (ocells oZ pZ).toArray 31 (0, 0))) := Lib.hid (heap_alloc_new w _)
  have hBz : Below w.heap.size w (w.alloc (.cells (ocells oZ pZ).toArray 31)) := (Below.refl _ _).alloc (Nat.le_refl _) _
  have hB0 := Lib.hid hBz
  have hop := Lib.hid (open_gen _ A l n c hn hA ((hb.below hBz).mono hBz.size) hs h256)
  obtain ⟨RR, hRR⟩ : ∃ R, Hid (∀ _ : Unit, decM l = R) := ⟨_, Lib.hid fun _ => rfl⟩
  rw [hRR.out ()]
  have hT' := Lib.hid hT
  have hn' := Lib.hid (fun _ : Unit => hn)
  have h256' := Lib.hid h256
  have hshort : l.length ≤ 8192 := hsh
  have hshort' := Lib.hid hshort
  rw [hn'.out ()] at hshort
  have hlz : (n : Int) ≤ 8192 := by omega
  obtain ⟨K, s0, hK⟩ : ∃ x s', Hid (fixM l 1 (some 0) = (x, s')) := ⟨_, _, Lib.hid rfl⟩
  obtain ⟨O, s1, hO⟩ : ∃ x s', Hid (readM l 1 s0 = (x, s')) := ⟨_, _, Lib.hid rfl⟩
  have hR : Hid (decM l = if s1 = some l.length ∧ mayE O = 0 then (0, O) else (49, oZ)) := Lib.hid (by unfold decM; rw [if_neg (by omega), if_neg (by rw [hkd]; decide), hkd]; rw [hK.out]; simp only; rw [hO.out])
  rw [hK.out] at hkd
  simp only at hkd
  subst hkd
  have hrdk : Hid (Read O) := Lib.hid (by have := readM_ok h256 hsh 1 s0; rwa [hO.out] at this)
  have hnf : ∀ W, (binOp .eql 75 (.func (.func 76) #[] #[]) .nilFunc).run Tryd.prog W = .ok (.bool false) W := fun W => by kernel_rfl
  clear hT hb h256 hi39 hBz hsh
  clear hA hn
  go_enter Tryd.func19, Tryd.ntmps19
  go_wp2_with fail
  refine hop.out.mono ?_
  rintro e w1 ⟨⟨g, A1, c1, rfl, hg, d1, hab⟩, b1⟩
  have htk := takeuint8_any d1
  rw [hK.out] at htk
  have htk' := Lib.hid htk
  have hg' : Hid (w.heap.size + 1 ≤ g) := Lib.hid (by simpa using hg)
  have hB1 := Lib.hid (hB0.out.trans (b1.mono hB0.out.size))
  have hN1 := Lib.hid ((b1.block w.heap.size (by simp)).trans hN0.out)
  have hab1 : Hid (∀ j, blockOf A1 = some j → w.heap.size + 1 ≤ j) := Lib.hid fun j hj => by simpa using hab j hj
  clear hop d1 hab b1 htk hg
  go_wp2_with fail
  refine htk'.out.mono ?_
  rintro e w2 ⟨rfl, d2, g2⟩
  have hB2 := Lib.hid (hB1.out.trans (grown_below g2 hB1.out.size (fun k hk => by injection hk with hk; have := hg'.out; omega)))
  have hN2 := Lib.hid ((g2.block w.heap.size (lt_of_block hN1.out) (fun e => by injection e with e; have := hg'.out; omega)).trans hN1.out)
  have d2' := Lib.hid d2
  clear d2 g2 htk' hB1 hN1
  go_wp2_with (first
    | (refine wpList_built rfl 31 _ #[(0, .int .u8 1)] rfl (by rw [List.map_toArray]; rfl) _ (buildOk 1 _) ?_)
    | (refine wpList_store_row rfl 31 _ _ rfl w2.heap.size (ocells { oZ with kind := 1 } pZ).toArray rfl rfl 31 _ (heap_alloc_new w2 _) (by rw [h39'.out]; exact hi39'.out) (by rw [h39'.out, h39'.out]) (hone'.out _ _) ?_
       have hnw := row_new w2 31 (ocells oZ pZ).toArray (ocells { oZ with kind := 1 } pZ).toArray
       have hbb := hnw.2 w2.heap.size (Nat.le_refl _)
       generalize ((w2.alloc (.cells (ocells oZ pZ).toArray 31)).setRow w2.heap.size (ocells { oZ with kind := 1 } pZ).toArray) = w3 at hnw hbb ⊢
       have hB3 := Lib.hid (hB2.out.trans (hbb.mono hB2.out.size))
       have hN3 := Lib.hid ((hbb.block w.heap.size (lt_of_block hN2.out)).trans hN2.out)
       have hr3 : Hid (RdS w3 w3 g w2.heap.size A1 c1 l s0 { oZ with kind := 1 } pZ) := Lib.hid (RdS.start (d2'.out.keep hbb) hnw.1 (by have := d2'.out.gl; omega) (fun e => by have := d2'.out.ab _ e; omega))
       have hhs := Lib.hid hB2.out.size
       have hne0 := Lib.hid (show w.heap.size ≠ w2.heap.size from by have := lt_of_block hN2.out; omega)
       clear hnw hbb hB2 hN2 d2'
       generalize w2.heap.size = h at hr3 hhs hne0 ⊢
       have x0 : w3.cell? ⟨h, 0, none⟩ = some (.int .u8 1) := hr3.out.ob.c0)
    | (go_at_call 49; refine (readerOf1 _).mono ?_; rintro e w' ⟨rfl, rfl⟩)
    | (go_at_call 76
       refine (reader1_any hr3.out).mono ?_
       rintro e w4 ⟨⟨v4, rfl⟩, p, r4, o4⟩
       rw [hO.out] at r4 o4
       simp only at r4 o4
       have hhs' := Lib.hid hB3.out.size
       have hne3 := Lib.hid (show w.heap.size ≠ w3.heap.size from by have := lt_of_block hN3.out; omega)
       have hB4 := Lib.hid (hB3.out.trans (gr2_below r4.gr (by have := hg'.out; omega) hhs.out hB3.out.size))
       have hN4 := Lib.hid ((r4.gr.block w.heap.size (lt_of_block hN3.out) (by have := hg'.out; omega) hne0.out).trans hN3.out)
       have r4' := Lib.hid r4
       have o4' := Lib.hid o4
       have hend := Lib.hid (endd_any r4.dec)
       clear r4 o4 hB3 hN3 hr3 x0))
  by_cases hs1 : s1 = some l.length
  · have hsL := Lib.hid hs1
    have hend2 : Hid (Calls Tryd.prog 50 #[.pointer (some ⟨g, 0, none⟩)] w4 fun e w' => e = .returned .nilIface ∧ ∃ n, w' = w4.drewN n) := Lib.hid (by
      refine hend.out.mono ?_
      rintro e w' ⟨h1, h2⟩
      rw [if_pos hs1] at h1
      exact ⟨h1, h2⟩)
    clear hend hs1
    have hmy : Hid (∀ q : Nat, Calls Tryd.prog 32 #[.agg (ocells O p).toArray] (w4.drewN q) fun e w' => e = .returned (.int .i64 (mayE O : Nat)) ∧ Below (w4.drewN q).heap.size (w4.drewN q) w') := Lib.hid fun q =>
      may_any _ O p ⟨u8t_keep hT'.out (below_drewN hB4.out q), (o4'.out.objIn).below (below_drewN (Below.refl _ _) q), hrdk.out.fit, fun x hx => (hrdk.out.good.ps x hx).2, hrdk.out.good.note⟩
    by_cases hm : mayE O = 0
    · have hmz := Lib.hid hm
      rw [hm] at hmy
      have hR2 : Hid (decM l = (0, O)) := Lib.hid (by rw [hR.out, if_pos ⟨hsL.out, hm⟩])
      clear hm
      go_wp2_with (first
        | (go_at_call 50; refine hend2.out.mono ?_; rintro e w' ⟨rfl, q, rfl⟩
           have ho5 := Lib.hid ((r4'.out.drewN q).ob))
        | (refine wpList_load_row_g rfl 31 _ rfl h rfl 31 _ (0, 0) _ ho5.out Tryd.underlying31 rfl (by rw [h39'.out]; exact hi39'.out) ?_)
        | (go_at_call 32
           refine (hmy.out _).mono ?_
           rintro e w6 ⟨rfl, b6⟩
           have bd : Below w4.heap.size w4 w6 := (below_drewN (Below.refl _ _) _).trans b6
           have hB6 := Lib.hid (hB4.out.trans (bd.mono hB4.out.size))
           have hN6 := Lib.hid ((bd.block w.heap.size (lt_of_block hN4.out)).trans hN4.out)
           have ho6 := Lib.hid (r4'.out.ob.below bd (lt_of_block r4'.out.ob))
           have o6' := Lib.hid (o4'.out.below bd)
           clear b6 bd ho5)
        | (refine wpList_load_row_g rfl 31 _ rfl h rfl 31 _ (0, 0) _ ho6.out Tryd.underlying31 rfl (by rw [h39'.out]; exact hi39'.out) ?_)
        | (refine wpList_store_row rfl 31 _ _ rfl w.heap.size (ocells O p).toArray rfl rfl 31 _ hN6.out (by rw [h39'.out]; exact hi39'.out) (by rw [h39'.out, h39'.out]) (hone'.out _ _) ?_))
      have hres := setRow_heap w6 w.heap.size _ (ocells O p).toArray 31 _ hN6.out
      refine bodyPost_ret (results_row_tmp rfl _ _ w.heap.size 31 _ (0, 0) _ (.int .i64 0) rfl rfl hres Tryd.underlying31 rfl (by rw [h39'.out]; exact hi39'.out)) rfl ?_
      rw [← hRR.out (), hR2.out]
      have hbase : w.heap.size < w3.heap.size := Nat.lt_of_le_of_ne hhs'.out hne3.out
      exact ⟨⟨p, rfl, (o6'.out.rowFar hbase _).base (Nat.le_of_lt hbase)⟩, setRow_below hB6.out (Nat.le_refl _) _⟩
    · obtain ⟨E, hE⟩ : ∃ E, Hid (∀ _ : Unit, mayE O = E) := ⟨_, Lib.hid fun _ => rfl⟩
      have hR2 : Hid (decM l = (49, oZ)) := Lib.hid (by rw [hR.out, if_neg (fun e => hm e.2)])
      rw [hE.out ()] at hmy hm
      have hq : ((E : Int) != 0) = true := by simp [bne_iff_ne]; omega
      clear hm
      go_wp2_with (first
        | (go_at_call 50; refine hend2.out.mono ?_; rintro e w' ⟨rfl, q, rfl⟩
           have ho5 := Lib.hid ((r4'.out.drewN q).ob))
        | (refine wpList_load_row_g rfl 31 _ rfl h rfl 31 _ (0, 0) _ ho5.out Tryd.underlying31 rfl (by rw [h39'.out]; exact hi39'.out) ?_)
        | (go_at_call 32
           refine (hmy.out _).mono ?_
           rintro e w6 ⟨rfl, b6⟩
           have bd : Below w4.heap.size w4 w6 := (below_drewN (Below.refl _ _) _).trans b6
           have hB6 := Lib.hid (hB4.out.trans (bd.mono hB4.out.size))
           have hN6 := Lib.hid ((bd.block w.heap.size (lt_of_block hN4.out)).trans hN4.out)
           clear b6 bd ho5)
        | (refine wpList_built rfl 31 _ #[] rfl (by simp) _ (buildO _) ?_)
        | (refine wpList_store_row rfl 31 _ _ rfl w.heap.size (ocells oZ pZ).toArray rfl rfl 31 _ hN6.out (by rw [h39'.out]; exact hi39'.out) rfl (hone'.out _ _) ?_))
      have hres := setRow_heap w6 w.heap.size _ (ocells oZ pZ).toArray 31 _ hN6.out
      refine bodyPost_ret (results_row_tmp rfl _ _ w.heap.size 31 _ (0, 0) _ (.int .i64 49) rfl rfl hres Tryd.underlying31 rfl (by rw [h39'.out]; exact hi39'.out)) rfl ?_
      rw [← hRR.out (), hR2.out]
      exact ⟨⟨pZ, rfl, OOwn.zero _ _ 0⟩, setRow_below hB6.out (Nat.le_refl _) _⟩
  · have hR2 : Hid (decM l = (49, oZ)) := Lib.hid (by rw [hR.out, if_neg (fun e => hs1 e.1)])
    have hend2 : Hid (Calls Tryd.prog 50 #[.pointer (some ⟨g, 0, none⟩)] w4 fun e w' => (∃ t v, e = .returned (.iface t v)) ∧ ∃ n, w' = w4.drewN n) := Lib.hid (by
      refine hend.out.mono ?_
      rintro e w' ⟨h1, h2⟩
      rw [if_neg hs1] at h1
      exact ⟨h1, h2⟩)
    clear hend hs1
    go_wp2_with (first
      | (go_at_call 50; refine hend2.out.mono ?_; rintro e w' ⟨⟨ty, vv, rfl⟩, q, rfl⟩
         have hB6 := Lib.hid (below_drewN hB4.out q)
         have hN6 : Hid ((w4.drewN q).heap[w.heap.size]? = some (.cells (ocells oZ pZ).toArray 31 (0, 0))) := Lib.hid hN4.out)
      | (refine wpList_built rfl 31 _ #[] rfl (by simp) _ (buildO _) ?_)
      | (refine wpList_store_row rfl 31 _ _ rfl w.heap.size (ocells oZ pZ).toArray rfl rfl 31 _ hN6.out (by rw [h39'.out]; exact hi39'.out) rfl (hone'.out _ _) ?_))
    have hres := setRow_heap _ w.heap.size _ (ocells oZ pZ).toArray 31 _ hN6.out
    refine bodyPost_ret (results_row_tmp rfl _ _ w.heap.size 31 _ (0, 0) _ (.int .i64 49) rfl rfl hres Tryd.underlying31 rfl (by rw [h39'.out]; exact hi39'.out)) rfl ?_
    rw [← hRR.out (), hR2.out]
    exact ⟨⟨pZ, rfl, OOwn.zero _ _ 0⟩, setRow_below hB6.out (Nat.le_refl _) _⟩

set_option maxRecDepth 100000 in
set_option maxHeartbeats 4000000 in
theorem decode_k2 (w : World) (hT : U8T w) (A : Option Addr) (l : List Nat) (n c : Nat) (hn : l.length = n) (hA : A = none → n = 0 ∧ c = 0) (hb : Byt w w.heap.size A l) (hs : n ≤ 140737488355328) (h256 : ∀ x ∈ l, x < 256) (hsh : l.length ≤ 8192) (hkd : (fixM l 1 (some 0)).1 = 2) :
    Calls Tryd.prog 19 #[.slice A n c] w (DecodePost w (decM l)) := by
  have hz := zeroO
  have hi39 : (Tryd.prog.info? 31).map (·.size) = some 39 := by kernel_rfl
  have hi39' := Lib.hid hi39
  have h39' := Lib.hid (fun (x : ObjT) (q : Lay) => show (ocells x q).toArray.size = 39 by simp [ocells_length])
  have hone' := Lib.hid (fun (x : ObjT) (q : Lay) => show (ocells x q).toArray.all (·.oneCell') = true from all_oneCell_toArray (ocells_one x q))
  have hN0 : Hid ((w.alloc (.cells (ocells oZ pZ).toArray 31)).heap[w.heap.size]? = some (.cells (ocells oZ pZ).toArray 31 (0, 0))) := Lib.hid (heap_alloc_new w _)
  have hBz : Below w.heap.size w (w.alloc (.cells (ocells oZ pZ).toArray 31)) := (Below.refl _ _).alloc (Nat.le_refl _) _
  have hB0 := Lib.hid hBz
  have hop := Lib.hid (open_gen _ A l n c hn hA ((hb.below hBz).mono hBz.size) hs h256)
  obtain ⟨RR, hRR⟩ : ∃ R, Hid (∀ _ : Unit, decM l = R) := ⟨_, Lib.hid fun _ => rfl⟩
  rw [hRR.out ()]
  have hT' := Lib.hid hT
  have hn' := Lib.hid (fun _ : Unit => hn)
  have h256' := Lib.hid h256
  have hshort : l.length ≤ 8192 := hsh
  have hshort' := Lib.hid hshort
  rw [hn'.out ()] at hshort
  have hlz : (n : Int) ≤ 8192 := by omega
  obtain ⟨K, s0, hK⟩ : ∃ x s', Hid (fixM l 1 (some 0) = (x, s')) := ⟨_, _, Lib.hid rfl⟩
  obtain ⟨O, s1, hO⟩ : ∃ x s', Hid (readM l 2 s0 = (x, s')) := ⟨_, _, Lib.hid rfl⟩
  have hR : Hid (decM l = if s1 = some l.length ∧ mayE O = 0 then (0, O) else (49, oZ)) := Lib.hid (by unfold decM; rw [if_neg (by omega), if_neg (by rw [hkd]; decide), hkd]; rw [hK.out]; simp only; rw [hO.out])
  rw [hK.out] at hkd
  simp only at hkd
  subst hkd
  have hrdk : Hid (Read O) := Lib.hid (by have := readM_ok h256 hsh 2 s0; rwa [hO.out] at this)
  have hnf : ∀ W, (binOp .eql 75 (.func (.func 79) #[] #[]) .nilFunc).run Tryd.prog W = .ok (.bool false) W := fun W => by kernel_rfl
  clear hT hb h256 hi39 hBz hsh
  clear hA hn
  go_enter Tryd.func19, Tryd.ntmps19
  go_wp2_with fail
  refine hop.out.mono ?_
  rintro e w1 ⟨⟨g, A1, c1, rfl, hg, d1, hab⟩, b1⟩
  have htk := takeuint8_any d1
  rw [hK.out] at htk
  have htk' := Lib.hid htk
  have hg' : Hid (w.heap.size + 1 ≤ g) := Lib.hid (by simpa using hg)
  have hB1 := Lib.hid (hB0.out.trans (b1.mono hB0.out.size))
  have hN1 := Lib.hid ((b1.block w.heap.size (by simp)).trans hN0.out)
  have hab1 : Hid (∀ j, blockOf A1 = some j → w.heap.size + 1 ≤ j) := Lib.hid fun j hj => by simpa using hab j hj
  clear hop d1 hab b1 htk hg
  go_wp2_with fail
  refine htk'.out.mono ?_
  rintro e w2 ⟨rfl, d2, g2⟩
  have hB2 := Lib.hid (hB1.out.trans (grown_below g2 hB1.out.size (fun k hk => by injection hk with hk; have := hg'.out; omega)))
  have hN2 := Lib.hid ((g2.block w.heap.size (lt_of_block hN1.out) (fun e => by injection e with e; have := hg'.out; omega)).trans hN1.out)
  have d2' := Lib.hid d2
  clear d2 g2 htk' hB1 hN1
  go_wp2_with (first
    | (refine wpList_built rfl 31 _ #[(0, .int .u8 2)] rfl (by rw [List.map_toArray]; rfl) _ (buildOk 2 _) ?_)
    | (refine wpList_store_row rfl 31 _ _ rfl w2.heap.size (ocells { oZ with kind := 2 } pZ).toArray rfl rfl 31 _ (heap_alloc_new w2 _) (by rw [h39'.out]; exact hi39'.out) (by rw [h39'.out, h39'.out]) (hone'.out _ _) ?_
       have hnw := row_new w2 31 (ocells oZ pZ).toArray (ocells { oZ with kind := 2 } pZ).toArray
       have hbb := hnw.2 w2.heap.size (Nat.le_refl _)
       generalize ((w2.alloc (.cells (ocells oZ pZ).toArray 31)).setRow w2.heap.size (ocells { oZ with kind := 2 } pZ).toArray) = w3 at hnw hbb ⊢
       have hB3 := Lib.hid (hB2.out.trans (hbb.mono hB2.out.size))
       have hN3 := Lib.hid ((hbb.block w.heap.size (lt_of_block hN2.out)).trans hN2.out)
       have hr3 : Hid (RdS w3 w3 g w2.heap.size A1 c1 l s0 { oZ with kind := 2 } pZ) := Lib.hid (RdS.start (d2'.out.keep hbb) hnw.1 (by have := d2'.out.gl; omega) (fun e => by have := d2'.out.ab _ e; omega))
       have hhs := Lib.hid hB2.out.size
       have hne0 := Lib.hid (show w.heap.size ≠ w2.heap.size from by have := lt_of_block hN2.out; omega)
       clear hnw hbb hB2 hN2 d2'
       generalize w2.heap.size = h at hr3 hhs hne0 ⊢
       have x0 : w3.cell? ⟨h, 0, none⟩ = some (.int .u8 2) := hr3.out.ob.c0)
    | (go_at_call 49; refine (readerOf2 _).mono ?_; rintro e w' ⟨rfl, rfl⟩)
    | (go_at_call 79
       refine (reader2_any hr3.out).mono ?_
       rintro e w4 ⟨⟨v4, rfl⟩, p, r4, o4⟩
       rw [hO.out] at r4 o4
       simp only at r4 o4
       have hhs' := Lib.hid hB3.out.size
       have hne3 := Lib.hid (show w.heap.size ≠ w3.heap.size from by have := lt_of_block hN3.out; omega)
       have hB4 := Lib.hid (hB3.out.trans (gr2_below r4.gr (by have := hg'.out; omega) hhs.out hB3.out.size))
       have hN4 := Lib.hid ((r4.gr.block w.heap.size (lt_of_block hN3.out) (by have := hg'.out; omega) hne0.out).trans hN3.out)
       have r4' := Lib.hid r4
       have o4' := Lib.hid o4
       have hend := Lib.hid (endd_any r4.dec)
       clear r4 o4 hB3 hN3 hr3 x0))
  by_cases hs1 : s1 = some l.length
  · have hsL := Lib.hid hs1
    have hend2 : Hid (Calls Tryd.prog 50 #[.pointer (some ⟨g, 0, none⟩)] w4 fun e w' => e = .returned .nilIface ∧ ∃ n, w' = w4.drewN n) := Lib.hid (by
      refine hend.out.mono ?_
      rintro e w' ⟨h1, h2⟩
      rw [if_pos hs1] at h1
      exact ⟨h1, h2⟩)
    clear hend hs1
    have hmy : Hid (∀ q : Nat, Calls Tryd.prog 32 #[.agg (ocells O p).toArray] (w4.drewN q) fun e w' => e = .returned (.int .i64 (mayE O : Nat)) ∧ Below (w4.drewN q).heap.size (w4.drewN q) w') := Lib.hid fun q =>
      may_any _ O p ⟨u8t_keep hT'.out (below_drewN hB4.out q), (o4'.out.objIn).below (below_drewN (Below.refl _ _) q), hrdk.out.fit, fun x hx => (hrdk.out.good.ps x hx).2, hrdk.out.good.note⟩
    by_cases hm : mayE O = 0
    · have hmz := Lib.hid hm
      rw [hm] at hmy
      have hR2 : Hid (decM l = (0, O)) := Lib.hid (by rw [hR.out, if_pos ⟨hsL.out, hm⟩])
      clear hm
      go_wp2_with (first
        | (go_at_call 50; refine hend2.out.mono ?_; rintro e w' ⟨rfl, q, rfl⟩
           have ho5 := Lib.hid ((r4'.out.drewN q).ob))
        | (refine wpList_load_row_g rfl 31 _ rfl h rfl 31 _ (0, 0) _ ho5.out Tryd.underlying31 rfl (by rw [h39'.out]; exact hi39'.out) ?_)
        | (go_at_call 32
           refine (hmy.out _).mono ?_
           rintro e w6 ⟨rfl, b6⟩
           have bd : Below w4.heap.size w4 w6 := (below_drewN (Below.refl _ _) _).trans b6
           have hB6 := Lib.hid (hB4.out.trans (bd.mono hB4.out.size))
           have hN6 := Lib.hid ((bd.block w.heap.size (lt_of_block hN4.out)).trans hN4.out)
           have ho6 := Lib.hid (r4'.out.ob.below bd (lt_of_block r4'.out.ob))
           have o6' := Lib.hid (o4'.out.below bd)
           clear b6 bd ho5)
        | (refine wpList_load_row_g rfl 31 _ rfl h rfl 31 _ (0, 0) _ ho6.out Tryd.underlying31 rfl (by rw [h39'.out]; exact hi39'.out) ?_)
        | (refine wpList_store_row rfl 31 _ _ rfl w.heap.size (ocells O p).toArray rfl rfl 31 _ hN6.out (by rw [h39'.out]; exact hi39'.out) (by rw [h39'.out, h39'.out]) (hone'.out _ _) ?_))
      have hres := setRow_heap w6 w.heap.size _ (ocells O p).toArray 31 _ hN6.out
      refine bodyPost_ret (results_row_tmp rfl _ _ w.heap.size 31 _ (0, 0) _ (.int .i64 0) rfl rfl hres Tryd.underlying31 rfl (by rw [h39'.out]; exact hi39'.out)) rfl ?_
      rw [← hRR.out (), hR2.out]
      have hbase : w.heap.size < w3.heap.size := Nat.lt_of_le_of_ne hhs'.out hne3.out
      exact ⟨⟨p, rfl, (o6'.out.rowFar hbase _).base (Nat.le_of_lt hbase)⟩, setRow_below hB6.out (Nat.le_refl _) _⟩
    · obtain ⟨E, hE⟩ : ∃ E, Hid (∀ _ : Unit, mayE O = E) := ⟨_, Lib.hid fun _ => rfl⟩
      have hR2 : Hid (decM l = (49, oZ)) := Lib.hid (by rw [hR.out, if_neg (fun e => hm e.2)])
      rw [hE.out ()] at hmy hm
      have hq : ((E : Int) != 0) = true := by simp [bne_iff_ne]; omega
      clear hm
      go_wp2_with (first
        | (go_at_call 50; refine hend2.out.mono ?_; rintro e w' ⟨rfl, q, rfl⟩
           have ho5 := Lib.hid ((r4'.out.drewN q).ob))
        | (refine wpList_load_row_g rfl 31 _ rfl h rfl 31 _ (0, 0) _ ho5.out Tryd.underlying31 rfl (by rw [h39'.out]; exact hi39'.out) ?_)
        | (go_at_call 32
           refine (hmy.out _).mono ?_
           rintro e w6 ⟨rfl, b6⟩
           have bd : Below w4.heap.size w4 w6 := (below_drewN (Below.refl _ _) _).trans b6
           have hB6 := Lib.hid (hB4.out.trans (bd.mono hB4.out.size))
           have hN6 := Lib.hid ((bd.block w.heap.size (lt_of_block hN4.out)).trans hN4.out)
           clear b6 bd ho5)
        | (refine wpList_built rfl 31 _ #[] rfl (by simp) _ (buildO _) ?_)
        | (refine wpList_store_row rfl 31 _ _ rfl w.heap.size (ocells oZ pZ).toArray rfl rfl 31 _ hN6.out (by rw [h39'.out]; exact hi39'.out) rfl (hone'.out _ _) ?_))
      have hres := setRow_heap w6 w.heap.size _ (ocells oZ pZ).toArray 31 _ hN6.out
      refine bodyPost_ret (results_row_tmp rfl _ _ w.heap.size 31 _ (0, 0) _ (.int .i64 49) rfl rfl hres Tryd.underlying31 rfl (by rw [h39'.out]; exact hi39'.out)) rfl ?_
      rw [← hRR.out (), hR2.out]
      exact ⟨⟨pZ, rfl, OOwn.zero _ _ 0⟩, setRow_below hB6.out (Nat.le_refl _) _⟩
  · have hR2 : Hid (decM l = (49, oZ)) := Lib.hid (by rw [hR.out, if_neg (fun e => hs1 e.1)])
    have hend2 : Hid (Calls Tryd.prog 50 #[.pointer (some ⟨g, 0, none⟩)] w4 fun e w' => (∃ t v, e = .returned (.iface t v)) ∧ ∃ n, w' = w4.drewN n) := Lib.hid (by
      refine hend.out.mono ?_
      rintro e w' ⟨h1, h2⟩
      rw [if_neg hs1] at h1
      exact ⟨h1, h2⟩)
    clear hend hs1
    go_wp2_with (first
      | (go_at_call 50; refine hend2.out.mono ?_; rintro e w' ⟨⟨ty, vv, rfl⟩, q, rfl⟩
         have hB6 := Lib.hid (below_drewN hB4.out q)
         have hN6 : Hid ((w4.drewN q).heap[w.heap.size]? = some (.cells (ocells oZ pZ).toArray 31 (0, 0))) := Lib.hid hN4.out)
      | (refine wpList_built rfl 31 _ #[] rfl (by simp) _ (buildO _) ?_)
      | (refine wpList_store_row rfl 31 _ _ rfl w.heap.size (ocells oZ pZ).toArray rfl rfl 31 _ hN6.out (by rw [h39'.out]; exact hi39'.out) rfl (hone'.out _ _) ?_))
    have hres := setRow_heap _ w.heap.size _ (ocells oZ pZ).toArray 31 _ hN6.out
    refine bodyPost_ret (results_row_tmp rfl _ _ w.heap.size 31 _ (0, 0) _ (.int .i64 49) rfl rfl hres Tryd.underlying31 rfl (by rw [h39'.out]; exact hi39'.out)) rfl ?_
    rw [← hRR.out (), hR2.out]
    exact ⟨⟨pZ, rfl, OOwn.zero _ _ 0⟩, setRow_below hB6.out (Nat.le_refl _) _⟩

set_option maxRecDepth 100000 in
set_option maxHeartbeats 4000000 in
theorem decode_k3 (w : World) (hT : U8T w) (A : Option Addr) (l : List Nat) (n c : Nat) (hn : l.length = n) (hA : A = none → n = 0 ∧ c = 0) (hb : Byt w w.heap.size A l) (hs : n ≤ 140737488355328) (h256 : ∀ x ∈ l, x < 256) (hsh : l.length ≤ 8192) (hkd : (fixM l 1 (some 0)).1 = 3) :
    Calls Tryd.prog 19 #[.slice A n c] w (DecodePost w (decM l)) := by
  have hz := zeroO
  have hi39 : (Tryd.prog.info? 31).map (·.size) = some 39 := by kernel_rfl
  have hi39' := Lib.hid hi39
  have h39' := Lib.hid (fun (x : ObjT) (q : Lay) => show (ocells x q).toArray.size = 39 by simp [ocells_length])
  have hone' := Lib.hid (fun (x : ObjT) (q : Lay) => show (ocells x q).toArray.all (·.oneCell') = true from all_oneCell_toArray (ocells_one x q))
  have hN0 : Hid ((w.alloc (.cells (ocells oZ pZ).toArray 31)).heap[w.heap.size]? = some (.cells (ocells oZ pZ).toArray 31 (0, 0))) := Lib.hid (heap_alloc_new w _)
  have hBz : Below w.heap.size w (w.alloc (.cells (ocells oZ pZ).toArray 31)) := (Below.refl _ _).alloc (Nat.le_refl _) _
  have hB0 := Lib.hid hBz
  have hop := Lib.hid (open_gen _ A l n c hn hA ((hb.below hBz).mono hBz.size) hs h256)
  obtain ⟨RR, hRR⟩ : ∃ R, Hid (∀ _ : Unit, decM l = R) := ⟨_, Lib.hid fun _ => rfl⟩
  rw [hRR.out ()]
  have hT' := Lib.hid hT
  have hn' := Lib.hid (fun _ : Unit => hn)
  have h256' := Lib.hid h256
  have hshort : l.length ≤ 8192 := hsh
  have hshort' := Lib.hid hshort
  rw [hn'.out ()] at hshort
  have hlz : (n : Int) ≤ 8192 := by omega
  obtain ⟨K, s0, hK⟩ : ∃ x s', Hid (fixM l 1 (some 0) = (x, s')) := ⟨_, _, Lib.hid rfl⟩
  obtain ⟨O, s1, hO⟩ : ∃ x s', Hid (readM l 3 s0 = (x, s')) := ⟨_, _, Lib.hid rfl⟩
  have hR : Hid (decM l = if s1 = some l.length ∧ mayE O = 0 then (0, O) else (49, oZ)) := Lib.hid (by unfold decM; rw [if_neg (by omega), if_neg (by rw [hkd]; decide), hkd]; rw [hK.out]; simp only; rw [hO.out])
  rw [hK.out] at hkd
  simp only at hkd
  subst hkd
  have hrdk : Hid (Read O) := Lib.hid (by have := readM_ok h256 hsh 3 s0; rwa [hO.out] at this)
  have hnf : ∀ W, (binOp .eql 75 (.func (.func 82) #[] #[]) .nilFunc).run Tryd.prog W = .ok (.bool false) W := fun W => by kernel_rfl
  clear hT hb h256 hi39 hBz hsh
  clear hA hn
  go_enter Tryd.func19, Tryd.ntmps19
  go_wp2_with fail
  refine hop.out.mono ?_
  rintro e w1 ⟨⟨g, A1, c1, rfl, hg, d1, hab⟩, b1⟩
  have htk := takeuint8_any d1
  rw [hK.out] at htk
  have htk' := Lib.hid htk
  have hg' : Hid (w.heap.size + 1 ≤ g) := Lib.hid (by simpa using hg)
  have hB1 := Lib.hid (hB0.out.trans (b1.mono hB0.out.size))
  have hN1 := Lib.hid ((b1.block w.heap.size (by simp)).trans hN0.out)
  have hab1 : Hid (∀ j, blockOf A1 = some j → w.heap.size + 1 ≤ j) := Lib.hid fun j hj => by simpa using hab j hj
  clear hop d1 hab b1 htk hg
  go_wp2_with fail
  refine htk'.out.mono ?_
  rintro e w2 ⟨rfl, d2, g2⟩
  have hB2 := Lib.hid (hB1.out.trans (grown_below g2 hB1.out.size (fun k hk => by injection hk with hk; have := hg'.out; omega)))
  have hN2 := Lib.hid ((g2.block w.heap.size (lt_of_block hN1.out) (fun e => by injection e with e; have := hg'.out; omega)).trans hN1.out)
  have d2' := Lib.hid d2
  clear d2 g2 htk' hB1 hN1
  go_wp2_with (first
    | (refine wpList_built rfl 31 _ #[(0, .int .u8 3)] rfl (by rw [List.map_toArray]; rfl) _ (buildOk 3 _) ?_)
    | (refine wpList_store_row rfl 31 _ _ rfl w2.heap.size (ocells { oZ with kind := 3 } pZ).toArray rfl rfl 31 _ (heap_alloc_new w2 _) (by rw [h39'.out]; exact hi39'.out) (by rw [h39'.out, h39'.out]) (hone'.out _ _) ?_
       have hnw := row_new w2 31 (ocells oZ pZ).toArray (ocells { oZ with kind := 3 } pZ).toArray
       have hbb := hnw.2 w2.heap.size (Nat.le_refl _)
       generalize ((w2.alloc (.cells (ocells oZ pZ).toArray 31)).setRow w2.heap.size (ocells { oZ with kind := 3 } pZ).toArray) = w3 at hnw hbb ⊢
       have hB3 := Lib.hid (hB2.out.trans (hbb.mono hB2.out.size))
       have hN3 := Lib.hid ((hbb.block w.heap.size (lt_of_block hN2.out)).trans hN2.out)
       have hr3 : Hid (RdS w3 w3 g w2.heap.size A1 c1 l s0 { oZ with kind := 3 } pZ) := Lib.hid (RdS.start (d2'.out.keep hbb) hnw.1 (by have := d2'.out.gl; omega) (fun e => by have := d2'.out.ab _ e; omega))
       have hhs := Lib.hid hB2.out.size
       have hne0 := Lib.hid (show w.heap.size ≠ w2.heap.size from by have := lt_of_block hN2.out; omega)
       clear hnw hbb hB2 hN2 d2'
       generalize w2.heap.size = h at hr3 hhs hne0 ⊢
       have x0 : w3.cell? ⟨h, 0, none⟩ = some (.int .u8 3) := hr3.out.ob.c0)
    | (go_at_call 49; refine (readerOf3 _).mono ?_; rintro e w' ⟨rfl, rfl⟩)
    | (go_at_call 82
       refine (reader3_any hr3.out).mono ?_
       rintro e w4 ⟨⟨v4, rfl⟩, p, r4, o4⟩
       rw [hO.out] at r4 o4
       simp only at r4 o4
       have hhs' := Lib.hid hB3.out.size
       have hne3 := Lib.hid (show w.heap.size ≠ w3.heap.size from by have := lt_of_block hN3.out; omega)
       have hB4 := Lib.hid (hB3.out.trans (gr2_below r4.gr (by have := hg'.out; omega) hhs.out hB3.out.size))
       have hN4 := Lib.hid ((r4.gr.block w.heap.size (lt_of_block hN3.out) (by have := hg'.out; omega) hne0.out).trans hN3.out)
       have r4' := Lib.hid r4
       have o4' := Lib.hid o4
       have hend := Lib.hid (endd_any r4.dec)
       clear r4 o4 hB3 hN3 hr3 x0))
  by_cases hs1 : s1 = some l.length
  · have hsL := Lib.hid hs1
    have hend2 : Hid (Calls Tryd.prog 50 #[.pointer (some ⟨g, 0, none⟩)] w4 fun e w' => e = .returned .nilIface ∧ ∃ n, w' = w4.drewN n) := Lib.hid (by
      refine hend.out.mono ?_
      rintro e w' ⟨h1, h2⟩
      rw [if_pos hs1] at h1
      exact ⟨h1, h2⟩)
    clear hend hs1
    have hmy : Hid (∀ q : Nat, Calls Tryd.prog 32 #[.agg (ocells O p).toArray] (w4.drewN q) fun e w' => e = .returned (.int .i64 (mayE O : Nat)) ∧ Below (w4.drewN q).heap.size (w4.drewN q) w') := Lib.hid fun q =>
      may_any _ O p ⟨u8t_keep hT'.out (below_drewN hB4.out q), (o4'.out.objIn).below (below_drewN (Below.refl _ _) q), hrdk.out.fit, fun x hx => (hrdk.out.good.ps x hx).2, hrdk.out.good.note⟩
    by_cases hm : mayE O = 0
    · have hmz := Lib.hid hm
      rw [hm] at hmy
      have hR2 : Hid (decM l = (0, O)) := Lib.hid (by rw [hR.out, if_pos ⟨hsL.out, hm⟩])
      clear hm
      go_wp2_with (first
        | (go_at_call 50; refine hend2.out.mono ?_; rintro e w' ⟨rfl, q, rfl⟩
           have ho5 := Lib.hid ((r4'.out.drewN q).ob))
        | (refine wpList_load_row_g rfl 31 _ rfl h rfl 31 _ (0, 0) _ ho5.out Tryd.underlying31 rfl (by rw [h39'.out]; exact hi39'.out) ?_)
        | (go_at_call 32
           refine (hmy.out _).mono ?_
           rintro e w6 ⟨rfl, b6⟩
           have bd : Below w4.heap.size w4 w6 := (below_drewN (Below.refl _ _) _).trans b6
           have hB6 := Lib.hid (hB4.out.trans (bd.mono hB4.out.size))
           have hN6 := Lib.hid ((bd.block w.heap.size (lt_of_block hN4.out)).trans hN4.out)
           have ho6 := Lib.hid (r4'.out.ob.below bd (lt_of_block r4'.out.ob))
           have o6' := Lib.hid (o4'.out.below bd)
           clear b6 bd ho5)
        | (refine wpList_load_row_g rfl 31 _ rfl h rfl 31 _ (0, 0) _ ho6.out Tryd.underlying31 rfl (by rw [h39'.out]; exact hi39'.out) ?_)
        | (refine wpList_store_row rfl 31 _ _ rfl w.heap.size (ocells O p).toArray rfl rfl 31 _ hN6.out (by rw [h39'.out]; exact hi39'.out) (by rw [h39'.out, h39'.out]) (hone'.out _ _) ?_))
      have hres := setRow_heap w6 w.heap.size _ (ocells O p).toArray 31 _ hN6.out
      refine bodyPost_ret (results_row_tmp rfl _ _ w.heap.size 31 _ (0, 0) _ (.int .i64 0) rfl rfl hres Tryd.underlying31 rfl (by rw [h39'.out]; exact hi39'.out)) rfl ?_
      rw [← hRR.out (), hR2.out]
      have hbase : w.heap.size < w3.heap.size := Nat.lt_of_le_of_ne hhs'.out hne3.out
      exact ⟨⟨p, rfl, (o6'.out.rowFar hbase _).base (Nat.le_of_lt hbase)⟩, setRow_below hB6.out (Nat.le_refl _) _⟩
    · obtain ⟨E, hE⟩ : ∃ E, Hid (∀ _ : Unit, mayE O = E) := ⟨_, Lib.hid fun _ => rfl⟩
      have hR2 : Hid (decM l = (49, oZ)) := Lib.hid (by rw [hR.out, if_neg (fun e => hm e.2)])
      rw [hE.out ()] at hmy hm
      have hq : ((E : Int) != 0) = true := by simp [bne_iff_ne]; omega
      clear hm
      go_wp2_with (first
        | (go_at_call 50; refine hend2.out.mono ?_; rintro e w' ⟨rfl, q, rfl⟩
           have ho5 := Lib.hid ((r4'.out.drewN q).ob))
        | (refine wpList_load_row_g rfl 31 _ rfl h rfl 31 _ (0, 0) _ ho5.out Tryd.underlying31 rfl (by rw [h39'.out]; exact hi39'.out) ?_)
        | (go_at_call 32
           refine (hmy.out _).mono ?_
           rintro e w6 ⟨rfl, b6⟩
           have bd : Below w4.heap.size w4 w6 := (below_drewN (Below.refl _ _) _).trans b6
           have hB6 := Lib.hid (hB4.out.trans (bd.mono hB4.out.size))
           have hN6 := Lib.hid ((bd.block w.heap.size (lt_of_block hN4.out)).trans hN4.out)
           clear b6 bd ho5)
        | (refine wpList_built rfl 31 _ #[] rfl (by simp) _ (buildO _) ?_)
        | (refine wpList_store_row rfl 31 _ _ rfl w.heap.size (ocells oZ pZ).toArray rfl rfl 31 _ hN6.out (by rw [h39'.out]; exact hi39'.out) rfl (hone'.out _ _) ?_))
      have hres := setRow_heap w6 w.heap.size _ (ocells oZ pZ).toArray 31 _ hN6.out
      refine bodyPost_ret (results_row_tmp rfl _ _ w.heap.size 31 _ (0, 0) _ (.int .i64 49) rfl rfl hres Tryd.underlying31 rfl (by rw [h39'.out]; exact hi39'.out)) rfl ?_
      rw [← hRR.out (), hR2.out]
      exact ⟨⟨pZ, rfl, OOwn.zero _ _ 0⟩, setRow_below hB6.out (Nat.le_refl _) _⟩
  · have hR2 : Hid (decM l = (49, oZ)) := Lib.hid (by rw [hR.out, if_neg (fun e => hs1 e.1)])
    have hend2 : Hid (Calls Tryd.prog 50 #[.pointer (some ⟨g, 0, none⟩)] w4 fun e w' => (∃ t v, e = .returned (.iface t v)) ∧ ∃ n, w' = w4.drewN n) := Lib.hid (by
      refine hend.out.mono ?_
      rintro e w' ⟨h1, h2⟩
      rw [if_neg hs1] at h1
      exact ⟨h1, h2⟩)
    clear hend hs1
    go_wp2_with (first
      | (go_at_call 50; refine hend2.out.mono ?_; rintro e w' ⟨⟨ty, vv, rfl⟩, q, rfl⟩
         have hB6 := Lib.hid (below_drewN hB4.out q)
         have hN6 : Hid ((w4.drewN q).heap[w.heap.size]? = some (.cells (ocells oZ pZ).toArray 31 (0, 0))) := Lib.hid hN4.out)
      | (refine wpList_built rfl 31 _ #[] rfl (by simp) _ (buildO _) ?_)
      | (refine wpList_store_row rfl 31 _ _ rfl w.heap.size (ocells oZ pZ).toArray rfl rfl 31 _ hN6.out (by rw [h39'.out]; exact hi39'.out) rfl (hone'.out _ _) ?_))
    have hres := setRow_heap _ w.heap.size _ (ocells oZ pZ).toArray 31 _ hN6.out
    refine bodyPost_ret (results_row_tmp rfl _ _ w.heap.size 31 _ (0, 0) _ (.int .i64 49) rfl rfl hres Tryd.underlying31 rfl (by rw [h39'.out]; exact hi39'.out)) rfl ?_
    rw [← hRR.out (), hR2.out]
    exact ⟨⟨pZ, rfl, OOwn.zero _ _ 0⟩, setRow_below hB6.out (Nat.le_refl _) _⟩

set_option maxRecDepth 100000 in
set_option maxHeartbeats 4000000 in
theorem decode_k4 (w : World) (hT : U8T w) (A : Option Addr) (l : List Nat) (n c : Nat) (hn : l.length = n) (hA : A = none → n = 0 ∧ c = 0) (hb : Byt w w.heap.size A l) (hs : n ≤ 140737488355328) (h256 : ∀ x ∈ l, x < 256) (hsh : l.length ≤ 8192) (hkd : (fixM l 1 (some 0)).1 = 4) :
    Calls Tryd.prog 19 #[.slice A n c] w (DecodePost w (decM l)) := by
  have hz := zeroO
  have hi39 : (Tryd.prog.info? 31).map (·.size) = some 39 := by kernel_rfl
  have hi39' := Lib.hid hi39
  have h39' := Lib.hid (fun (x : ObjT) (q : Lay) => show (ocells x q).toArray.size = 39 by simp [ocells_length])
  have hone' := Lib.hid (fun (x : ObjT) (q : Lay) => show (ocells x q).toArray.all (·.oneCell') = true from all_oneCell_toArray (ocells_one x q))
  have hN0 : Hid ((w.alloc (.cells (ocells oZ pZ).toArray 31)).heap[w.heap.size]? = some (.cells (ocells oZ pZ).toArray 31 (0, 0))) := Lib.hid (heap_alloc_new w _)
  have hBz : Below w.heap.size w (w.alloc (.cells (ocells oZ pZ).toArray 31)) := (Below.refl _ _).alloc (Nat.le_refl _) _
  have hB0 := Lib.hid hBz
  have hop := Lib.hid (open_gen _ A l n c hn hA ((hb.below hBz).mono hBz.size) hs h256)
  obtain ⟨RR, hRR⟩ : ∃ R, Hid (∀ _ : Unit, decM l = R) := ⟨_, Lib.hid fun _ => rfl⟩
  rw [hRR.out ()]
  have hT' := Lib.hid hT
  have hn' := Lib.hid (fun _ : Unit => hn)
  have h256' := Lib.hid h256
  have hshort : l.length ≤ 8192 := hsh
  have hshort' := Lib.hid hshort
  rw [hn'.out ()] at hshort
  have hlz : (n : Int) ≤ 8192 := by omega
  obtain ⟨K, s0, hK⟩ : ∃ x s', Hid (fixM l 1 (some 0) = (x, s')) := ⟨_, _, Lib.hid rfl⟩
  obtain ⟨O, s1, hO⟩ : ∃ x s', Hid (readM l 4 s0 = (x, s')) := ⟨_, _, Lib.hid rfl⟩
  have hR : Hid (decM l = if s1 = some l.length ∧ mayE O = 0 then (0, O) else (49, oZ)) := Lib.hid (by unfold decM; rw [if_neg (by omega), if_neg (by rw [hkd]; decide), hkd]; rw [hK.out]; simp only; rw [hO.out])
  rw [hK.out] at hkd
  simp only at hkd
  subst hkd
  have hrdk : Hid (Read O) := Lib.hid (by have := readM_ok h256 hsh 4 s0; rwa [hO.out] at this)
  have hnf : ∀ W, (binOp .eql 75 (.func (.func 85) #[] #[]) .nilFunc).run Tryd.prog W = .ok (.bool false) W := fun W => by kernel_rfl
  clear hT hb h256 hi39 hBz hsh
  clear hA hn
  go_enter Tryd.func19, Tryd.ntmps19
  go_wp2_with fail
  refine hop.out.mono ?_
  rintro e w1 ⟨⟨g, A1, c1, rfl, hg, d1, hab⟩, b1⟩
  have htk := takeuint8_any d1
  rw [hK.out] at htk
  have htk' := Lib.hid htk
  have hg' : Hid (w.heap.size + 1 ≤ g) := Lib.hid (by simpa using hg)
  have hB1 := Lib.hid (hB0.out.trans (b1.mono hB0.out.size))
  have hN1 := Lib.hid ((b1.block w.heap.size (by simp)).trans hN0.out)
  have hab1 : Hid (∀ j, blockOf A1 = some j → w.heap.size + 1 ≤ j) := Lib.hid fun j hj => by simpa using hab j hj
  clear hop d1 hab b1 htk hg
  go_wp2_with fail
  refine htk'.out.mono ?_
  rintro e w2 ⟨rfl, d2, g2⟩
  have hB2 := Lib.hid (hB1.out.trans (grown_below g2 hB1.out.size (fun k hk => by injection hk with hk; have := hg'.out; omega)))
  have hN2 := Lib.hid ((g2.block w.heap.size (lt_of_block hN1.out) (fun e => by injection e with e; have := hg'.out; omega)).trans hN1.out)
  have d2' := Lib.hid d2
  clear d2 g2 htk' hB1 hN1
  go_wp2_with (first
    | (refine wpList_built rfl 31 _ #[(0, .int .u8 4)] rfl (by rw [List.map_toArray]; rfl) _ (buildOk 4 _) ?_)
    | (refine wpList_store_row rfl 31 _ _ rfl w2.heap.size (ocells { oZ with kind := 4 } pZ).toArray rfl rfl 31 _ (heap_alloc_new w2 _) (by rw [h39'.out]; exact hi39'.out) (by rw [h39'.out, h39'.out]) (hone'.out _ _) ?_
       have hnw := row_new w2 31 (ocells oZ pZ).toArray (ocells { oZ with kind := 4 } pZ).toArray
       have hbb := hnw.2 w2.heap.size (Nat.le_refl _)
       generalize ((w2.alloc (.cells (ocells oZ pZ).toArray 31)).setRow w2.heap.size (ocells { oZ with kind := 4 } pZ).toArray) = w3 at hnw hbb ⊢
       have hB3 := Lib.hid (hB2.out.trans (hbb.mono hB2.out.size))
       have hN3 := Lib.hid ((hbb.block w.heap.size (lt_of_block hN2.out)).trans hN2.out)
       have hr3 : Hid (RdS w3 w3 g w2.heap.size A1 c1 l s0 { oZ with kind := 4 } pZ) := Lib.hid (RdS.start (d2'.out.keep hbb) hnw.1 (by have := d2'.out.gl; omega) (fun e => by have := d2'.out.ab _ e; omega))
       have hhs := Lib.hid hB2.out.size
       have hne0 := Lib.hid (show w.heap.size ≠ w2.heap.size from by have := lt_of_block hN2.out; omega)
       clear hnw hbb hB2 hN2 d2'
       generalize w2.heap.size = h at hr3 hhs hne0 ⊢
       have x0 : w3.cell? ⟨h, 0, none⟩ = some (.int .u8 4) := hr3.out.ob.c0)
    | (go_at_call 49; refine (readerOf4 _).mono ?_; rintro e w' ⟨rfl, rfl⟩)
    | (go_at_call 85
       refine (reader4_any hr3.out).mono ?_
       rintro e w4 ⟨⟨v4, rfl⟩, p, r4, o4⟩
       rw [hO.out] at r4 o4
       simp only at r4 o4
       have hhs' := Lib.hid hB3.out.size
       have hne3 := Lib.hid (show w.heap.size ≠ w3.heap.size from by have := lt_of_block hN3.out; omega)
       have hB4 := Lib.hid (hB3.out.trans (gr2_below r4.gr (by have := hg'.out; omega) hhs.out hB3.out.size))
       have hN4 := Lib.hid ((r4.gr.block w.heap.size (lt_of_block hN3.out) (by have := hg'.out; omega) hne0.out).trans hN3.out)
       have r4' := Lib.hid r4
       have o4' := Lib.hid o4
       have hend := Lib.hid (endd_any r4.dec)
       clear r4 o4 hB3 hN3 hr3 x0))
  by_cases hs1 : s1 = some l.length
  · have hsL := Lib.hid hs1
    have hend2 : Hid (Calls Tryd.prog 50 #[.pointer (some ⟨g, 0, none⟩)] w4 fun e w' => e = .returned .nilIface ∧ ∃ n, w' = w4.drewN n) := Lib.hid (by
      refine hend.out.mono ?_
      rintro e w' ⟨h1, h2⟩
      rw [if_pos hs1] at h1
      exact ⟨h1, h2⟩)
    clear hend hs1
    have hmy : Hid (∀ q : Nat, Calls Tryd.prog 32 #[.agg (ocells O p).toArray] (w4.drewN q) fun e w' => e = .returned (.int .i64 (mayE O : Nat)) ∧ Below (w4.drewN q).heap.size (w4.drewN q) w') := Lib.hid fun q =>
      may_any _ O p ⟨u8t_keep hT'.out (below_drewN hB4.out q), (o4'.out.objIn).below (below_drewN (Below.refl _ _) q), hrdk.out.fit, fun x hx => (hrdk.out.good.ps x hx).2, hrdk.out.good.note⟩
    by_cases hm : mayE O = 0
    · have hmz := Lib.hid hm
      rw [hm] at hmy
      have hR2 : Hid (decM l = (0, O)) := Lib.hid (by rw [hR.out, if_pos ⟨hsL.out, hm⟩])
      clear hm
      go_wp2_with (first
        | (go_at_call 50; refine hend2.out.mono ?_; rintro e w' ⟨rfl, q, rfl⟩
           have ho5 := Lib.hid ((r4'.out.drewN q).ob))
        | (refine wpList_load_row_g rfl 31 _ rfl h rfl 31 _ (0, 0) _ ho5.out Tryd.underlying31 rfl (by rw [h39'.out]; exact hi39'.out) ?_)
        | (go_at_call 32
           refine (hmy.out _).mono ?_
           rintro e w6 ⟨rfl, b6⟩
           have bd : Below w4.heap.size w4 w6 := (below_drewN (Below.refl _ _) _).trans b6
           have hB6 := Lib.hid (hB4.out.trans (bd.mono hB4.out.size))
           have hN6 := Lib.hid ((bd.block w.heap.size (lt_of_block hN4.out)).trans hN4.out)
           have ho6 := Lib.hid (r4'.out.ob.below bd (lt_of_block r4'.out.ob))
           have o6' := Lib.hid (o4'.out.below bd)
           clear b6 bd ho5)
        | (refine wpList_load_row_g rfl 31 _ rfl h rfl 31 _ (0, 0) _ ho6.out Tryd.underlying31 rfl (by rw [h39'.out]; exact hi39'.out) ?_)
        | (refine wpList_store_row rfl 31 _ _ rfl w.heap.size (ocells O p).toArray rfl rfl 31 _ hN6.out (by rw [h39'.out]; exact hi39'.out) (by rw [h39'.out, h39'.out]) (hone'.out _ _) ?_))
      have hres := setRow_heap w6 w.heap.size _ (ocells O p).toArray 31 _ hN6.out
      refine bodyPost_ret (results_row_tmp rfl _ _ w.heap.size 31 _ (0, 0) _ (.int .i64 0) rfl rfl hres Tryd.underlying31 rfl (by rw [h39'.out]; exact hi39'.out)) rfl ?_
      rw [← hRR.out (), hR2.out]
      have hbase : w.heap.size < w3.heap.size := Nat.lt_of_le_of_ne hhs'.out hne3.out
      exact ⟨⟨p, rfl, (o6'.out.rowFar hbase _).base (Nat.le_of_lt hbase)⟩, setRow_below hB6.out (Nat.le_refl _) _⟩
    · obtain ⟨E, hE⟩ : ∃ E, Hid (∀ _ : Unit, mayE O = E) := ⟨_, Lib.hid fun _ => rfl⟩
      have hR2 : Hid (decM l = (49, oZ)) := Lib.hid (by rw [hR.out, if_neg (fun e => hm e.2)])
      rw [hE.out ()] at hmy hm
      have hq : ((E : Int) != 0) = true := by simp [bne_iff_ne]; omega
      clear hm
      go_wp2_with (first
        | (go_at_call 50; refine hend2.out.mono ?_; rintro e w' ⟨rfl, q, rfl⟩
           have ho5 := Lib.hid ((r4'.out.drewN q).ob))
        | (refine wpList_load_row_g rfl 31 _ rfl h rfl 31 _ (0, 0) _ ho5.out Tryd.underlying31 rfl (by rw [h39'.out]; exact hi39'.out) ?_)
        | (go_at_call 32
           refine (hmy.out _).mono ?_
           rintro e w6 ⟨rfl, b6⟩
           have bd : Below w4.heap.size w4 w6 := (below_drewN (Below.refl _ _) _).trans b6
           have hB6 := Lib.hid (hB4.out.trans (bd.mono hB4.out.size))
           have hN6 := Lib.hid ((bd.block w.heap.size (lt_of_block hN4.out)).trans hN4.out)
           clear b6 bd ho5)
        | (refine wpList_built rfl 31 _ #[] rfl (by simp) _ (buildO _) ?_)
        | (refine wpList_store_row rfl 31 _ _ rfl w.heap.size (ocells oZ pZ).toArray rfl rfl 31 _ hN6.out (by rw [h39'.out]; exact hi39'.out) rfl (hone'.out _ _) ?_))
      have hres := setRow_heap w6 w.heap.size _ (ocells oZ pZ).toArray 31 _ hN6.out
      refine bodyPost_ret (results_row_tmp rfl _ _ w.heap.size 31 _ (0, 0) _ (.int .i64 49) rfl rfl hres Tryd.underlying31 rfl (by rw [h39'.out]; exact hi39'.out)) rfl ?_
      rw [← hRR.out (), hR2.out]
      exact ⟨⟨pZ, rfl, OOwn.zero _ _ 0⟩, setRow_below hB6.out (Nat.le_refl _) _⟩
  · have hR2 : Hid (decM l = (49, oZ)) := Lib.hid (by rw [hR.out, if_neg (fun e => hs1 e.1)])
    have hend2 : Hid (Calls Tryd.prog 50 #[.pointer (some ⟨g, 0, none⟩)] w4 fun e w' => (∃ t v, e = .returned (.iface t v)) ∧ ∃ n, w' = w4.drewN n) := Lib.hid (by
      refine hend.out.mono ?_
      rintro e w' ⟨h1, h2⟩
      rw [if_neg hs1] at h1
      exact ⟨h1, h2⟩)
    clear hend hs1
    go_wp2_with (first
      | (go_at_call 50; refine hend2.out.mono ?_; rintro e w' ⟨⟨ty, vv, rfl⟩, q, rfl⟩
         have hB6 := Lib.hid (below_drewN hB4.out q)
         have hN6 : Hid ((w4.drewN q).heap[w.heap.size]? = some (.cells (ocells oZ pZ).toArray 31 (0, 0))) := Lib.hid hN4.out)
      | (refine wpList_built rfl 31 _ #[] rfl (by simp) _ (buildO _) ?_)
      | (refine wpList_store_row rfl 31 _ _ rfl w.heap.size (ocells oZ pZ).toArray rfl rfl 31 _ hN6.out (by rw [h39'.out]; exact hi39'.out) rfl (hone'.out _ _) ?_))
    have hres := setRow_heap _ w.heap.size _ (ocells oZ pZ).toArray 31 _ hN6.out
    refine bodyPost_ret (results_row_tmp rfl _ _ w.heap.size 31 _ (0, 0) _ (.int .i64 49) rfl rfl hres Tryd.underlying31 rfl (by rw [h39'.out]; exact hi39'.out)) rfl ?_
    rw [← hRR.out (), hR2.out]
    exact ⟨⟨pZ, rfl, OOwn.zero _ _ 0⟩, setRow_below hB6.out (Nat.le_refl _) _⟩

theorem decode_any (w : World) (hT : U8T w) (A : Option Addr) (l : List Nat) (n c : Nat) (hn : l.length = n) (hA : A = none → n = 0 ∧ c = 0) (hb : Byt w w.heap.size A l) (hs : n ≤ 140737488355328) (h256 : ∀ x ∈ l, x < 256) :
    Calls Tryd.prog 19 #[.slice A n c] w (DecodePost w (decM l)) := by
  by_cases hlong : 8192 < l.length
  · exact decode_long w hT A l n c hn hA hb hs h256 hlong
  · have hsh : l.length ≤ 8192 := by omega
    by_cases hk : kindIn (fixM l 1 (some 0)).1 = false
    · exact decode_kind w hT A l n c hn hA hb hs h256 hsh hk
    · have hk2 : 1 ≤ (fixM l 1 (some 0)).1 ∧ (fixM l 1 (some 0)).1 ≤ 4 := by
        unfold kindIn at hk
        simpa using hk
      rcases (by omega : (fixM l 1 (some 0)).1 = 1 ∨ (fixM l 1 (some 0)).1 = 2 ∨ (fixM l 1 (some 0)).1 = 3 ∨ (fixM l 1 (some 0)).1 = 4) with k | k | k | k
      · exact decode_k1 w hT A l n c hn hA hb hs h256 hsh k
      · exact decode_k2 w hT A l n c hn hA hb hs h256 hsh k
      · exact decode_k3 w hT A l n c hn hA hb hs h256 hsh k
      · exact decode_k4 w hT A l n c hn hA hb hs h256 hsh k

end Go.Proofs.YtkjndgapejbgcaaDoor

/- An object's key: object.KeyOf, and the document's Encode and KeyOf. -/
import Derived.Test.YtkjndgapejbgcaaDoorPkD26
import Derived.Test.YtkjndgapejbgcaaDoorPkD33
import Derived.Test.YtkjndgapejbgcaaDoorPkD34

namespace Go.Proofs.YtkjndgapejbgcaaDoor
open Go.RowKit
set_option linter.unusedSimpArgs false
set_option linter.unusedVariables false

theorem results_row_tmp {P : Program} {fn : Func} {p u : Tmp} {ty : TypeId} (h : fn.results = #[.cell p ty, .tmp u]) (tmps : Array Value) (w : World) (g : Nat) (t : TypeId) (cs : Array Value) (fr : Nat × Nat) (d : TypeDesc) (v : Value)
    (hp : tmps.getD p undef = .pointer (some ⟨g, 0, none⟩)) (hv : tmps.getD u undef = v) (hg : w.heap[g]? = some (.cells cs t fr))
    (hu : P.underlying ty = some d) (hd : (match d with | .struct _ | .array _ _ => true | _ => false) = true) (hi : (P.info? ty).map (·.size) = some cs.size) :
    (results fn tmps).run P w = .ok (.tuple #[.agg cs, v]) w := by
  have hp' : tmps[p]?.getD undef = .pointer (some ⟨g, 0, none⟩) := by simpa using hp
  have hv' : tmps[u]?.getD undef = v := by simpa using hv
  simp [results, h, hp', hv', asAddr, run_loadVar_row w g t ty cs fr d hg hu hd hi]

/-- All tables of the sums. -/
structure ShaT (w : World) (ks : List Nat) : Prop where
  t : Tab w ks
  r : RTab w ks
  b : BTab w
  len : ks.length = 64
  lt : ∀ x ∈ ks, x < 4294967296
theorem ShaT.below {w w' : World} {ks : List Nat} (h : ShaT w ks) (hb : Below w.heap.size w w') : ShaT w' ks := ⟨h.t.below hb, h.r.below hb, h.b.below hb, h.len, h.lt⟩
/-- A key of some bytes. -/
def sumK (ks l : List Nat) : Key32 := ⟨digest ks l, digest_length ks l⟩
def keyL (ks : List Nat) (o : ObjT) : Key32 := if encE o = 0 then sumK ks (layL o) else zK
theorem zeros_key : (u8s (zeros 32)).toArray = (encK zK).toArray := rfl

set_option maxRecDepth 100000 in
set_option maxHeartbeats 2000000 in
theorem rencode_any (w : World) (o : ObjT) (p : Lay) (hm : EncIn w o p) : Calls Tryd.prog 22 #[.agg (ocells o p).toArray] w (EncPost w o) := by
  have hi39 : (Tryd.prog.info? 31).map (·.size) = some 39 := by kernel_rfl
  have hi39' := Lib.hid hi39
  have h39' := Lib.hid (fun (x : ObjT) (q : Lay) => show (ocells x q).toArray.size = 39 by simp [ocells_length])
  have h0 : OBlk (w.alloc (.cells (ocells o p).toArray 31)) w.heap.size o p := heap_alloc_new w _
  have hB : Below w.heap.size w (w.alloc (.cells (ocells o p).toArray 31)) := (Below.refl _ _).alloc (Nat.le_refl _) _
  have hm' := Lib.hid hm
  have h0' := Lib.hid h0
  have hB' := Lib.hid hB
  clear hm h0 hB hi39
  by_cases hE : encE o = 0
  · have hE0 := Lib.hid hE
    have hmb := Lib.hid (mayE_bounds (encE_taken hE))
    have hd8 : Hid (o.data.length ≤ 8192) := Lib.hid (by
      unfold encE at hE
      rw [if_neg (by simp [encE_taken hE0.out])] at hE
      by_cases h : 8192 ≤ o.data.length
      · rw [if_pos h] at hE; cases hE
      · omega)
    clear hE
    go_enter Tryd.func22, Tryd.ntmps22
    go_wp2_with (first
      | (refine wpList_load_row_g rfl 31 _ rfl w.heap.size rfl 31 _ (0, 0) _ h0'.out Tryd.underlying31 rfl (by rw [h39'.out]; exact hi39'.out) ?_)
      | (go_at_call 13
         refine (rchk_to hm'.out hB'.out hE0.out).mono ?_
         rintro e w1 ⟨rfl, b1⟩
         have h1' := Lib.hid (h0'.out.below b1 (lt_of_block h0'.out))
         have hB1 := Lib.hid (hB'.out.trans (b1.mono hB'.out.size))
         clear b1 h0' hB')
      | (refine wpList_load_row_g rfl 31 _ rfl w.heap.size rfl 31 _ (0, 0) _ h1'.out Tryd.underlying31 rfl (by rw [h39'.out]; exact hi39'.out) ?_)
      | (go_at_call 45
         refine (laid_any _ o p ⟨(hm'.out.may.oin.below hB1.out).mono hB1.out.size, hm'.out.good, hmb.out, hd8.out⟩).mono ?_
         rintro e w2 ⟨⟨A, c, rfl, o2⟩, b2⟩
         have o2' := Lib.hid (o2.base (show w.heap.size ≤ w1.heap.size from hB1.out.size))
         have hB2 := Lib.hid (hB1.out.trans (b2.mono hB1.out.size))
         clear o2 b2))
    go_ret2
    exact EncPost.yes hE0.out rfl o2'.out hB2.out
  · obtain ⟨E, hEE⟩ : ∃ E, Hid (∀ _ : Unit, encE o = E) := ⟨_, Lib.hid fun _ => rfl⟩
    rw [hEE.out ()] at hE
    have hq : ((E : Int) != 0) = true := by simp [bne_iff_ne]; omega
    have hE0 := Lib.hid hE
    clear hE
    go_enter Tryd.func22, Tryd.ntmps22
    go_wp2_with (first
      | (refine wpList_load_row_g rfl 31 _ rfl w.heap.size rfl 31 _ (0, 0) _ h0'.out Tryd.underlying31 rfl (by rw [h39'.out]; exact hi39'.out) ?_)
      | (go_at_call 13
         refine (rchk_to hm'.out hB'.out (hEE.out ())).mono ?_
         rintro e w1 ⟨rfl, b1⟩
         have hB1 := Lib.hid (hB'.out.trans (b1.mono hB'.out.size))
         clear b1 h0' hB'))
    go_ret2
    exact EncPost.no (hEE.out ()) hE0.out hB1.out

theorem rencode_bad (w : World) (o : ObjT) (p : Lay) (hm : EncIn w o p) {E : Nat} (h : encE o = E) (h0 : E ≠ 0) :
    Calls Tryd.prog 22 #[.agg (ocells o p).toArray] w fun e w' => (∃ A c, e = .returned (.tuple #[.slice A 0 c, .int .i64 (E : Int)])) ∧ Below w.heap.size w w' := by
  refine (rencode_any w o p hm).mono ?_
  rintro e w' ⟨⟨A, c, rfl, _⟩, hb⟩
  have hl : encL o = [] := by unfold encL; rw [if_neg (by omega)]
  exact ⟨⟨A, c, by rw [hl, h]; rfl⟩, hb⟩
theorem rencode_ok (w : World) (o : ObjT) (p : Lay) (hm : EncIn w o p) (h : encE o = 0) {n : Nat} (hn : (layL o).length = n) :
    Calls Tryd.prog 22 #[.agg (ocells o p).toArray] w fun e w' => (∃ A c, e = .returned (.tuple #[.slice A n c, .int .i64 0]) ∧ Own w' w.heap.size 5 1 A n c (u8s (layL o))) ∧ Below w.heap.size w w' := by
  subst hn
  refine (rencode_any w o p hm).mono ?_
  rintro e w' ⟨⟨A, c, rfl, ho⟩, hb⟩
  have hl : encL o = layL o := by unfold encL; rw [if_pos h]
  rw [hl] at ho ⊢
  exact ⟨⟨A, c, by rw [h]; rfl, ho⟩, hb⟩

set_option maxRecDepth 100000 in
set_option maxHeartbeats 2000000 in
theorem keyOf_any (w : World) (o : ObjT) (p : Lay) (hm : EncIn w o p) (ks : List Nat) (hT : ShaT w ks) :
    Calls Tryd.prog 23 #[.agg (ocells o p).toArray] w fun e w' => e = .returned (.tuple #[.agg (encK (keyL ks o)).toArray, .int .i64 (encE o : Nat)]) ∧ Below w.heap.size w w' := by
  have hi39 : (Tryd.prog.info? 31).map (·.size) = some 39 := by kernel_rfl
  have hi39' := Lib.hid hi39
  have hi32 : (Tryd.prog.info? 28).map (·.size) = some 32 := by kernel_rfl
  have hi32' := Lib.hid hi32
  have hz := zeroKey
  have h39' := Lib.hid (fun (x : ObjT) (q : Lay) => show (ocells x q).toArray.size = 39 by simp [ocells_length])
  have h32' := Lib.hid (fun x : Key32 => show (encK x).toArray.size = 32 by simp [encK_length])
  have hone' := Lib.hid (fun x : Key32 => show (encK x).toArray.all (·.oneCell') = true from all_oneCell_toArray (encK_one x))
  have h0 : OBlk ((w.alloc (.cells (ocells o p).toArray 31)).alloc (.cells (encK zK).toArray 28)) w.heap.size o p := heap_alloc2_old w _ _
  have h1 : ((w.alloc (.cells (ocells o p).toArray 31)).alloc (.cells (encK zK).toArray 28)).heap[w.heap.size + 1]? = some (.cells (encK zK).toArray 28 (0, 0)) := heap_alloc2_new w _ _
  have hB : Below w.heap.size w ((w.alloc (.cells (ocells o p).toArray 31)).alloc (.cells (encK zK).toArray 28)) := ((Below.refl _ _).alloc (Nat.le_refl _) _).alloc (by simp) _
  have hm' := Lib.hid hm
  have hT' := Lib.hid hT
  have h0' := Lib.hid h0
  have h1' := Lib.hid h1
  have hB' := Lib.hid hB
  clear hm h0 h1 hB hi39 hi32 hT
  by_cases hE : encE o = 0
  · have hE0 := Lib.hid hE
    have hlt := Lib.hid (layL_lt hm'.out.good hm'.out.may.fit.b hm'.out.good.kind)
    obtain ⟨n, hn⟩ : ∃ n, Hid (∀ _ : Unit, (layL o).length = n) := ⟨_, Lib.hid fun _ => rfl⟩
    have hn8 : n ≤ 8192 := by
      rw [← hn.out ()]
      unfold encE at hE
      rw [if_neg (by simp [encE_taken hE0.out])] at hE
      by_cases h : 8192 ≤ o.data.length
      · rw [if_pos h] at hE; cases hE
      · rw [if_neg h] at hE
        by_cases h2 : 8192 < (layL o).length
        · rw [if_pos h2] at hE; cases hE
        · omega
    clear hE
    go_enter Tryd.func23, Tryd.ntmps23
    go_wp2_with (first
      | (refine wpList_load_row_g rfl 31 _ rfl w.heap.size rfl 31 _ (0, 0) _ h0'.out Tryd.underlying31 rfl (by rw [h39'.out]; exact hi39'.out) ?_)
      | (go_at_call 12
         refine (encode_ok _ o p (enc_to hm'.out hB'.out) hE0.out (hn.out ())).mono ?_
         rintro e w2 ⟨⟨A, c, rfl, o2⟩, b2⟩
         have ol := o2.le
         have h12 := Lib.hid ((b2.block (w.heap.size + 1) (lt_of_block h1'.out)).trans h1'.out)
         have hB2 := Lib.hid (hB'.out.trans (b2.mono hB'.out.size))
         have oc : n ≤ c ∧ c ≤ 9223372036854775807 := ⟨ol.1, by have := ol.2; unfold maxLen at this; exact this⟩
         have o2' := Lib.hid o2.byt
         clear o2 b2 h0' h1' hB' ol)
      | (go_at_call 54
         have hsm := shaSum_any _ ks (layL o) A c (hT'.out.below hB2.out).t hT'.out.len hT'.out.lt hlt.out o2'.out (by rw [hn.out ()]; exact oc.1) oc.2
         rw [hn.out ()] at hsm
         refine hsm.mono ?_
         clear hsm
         rintro e w3 ⟨rfl, b3⟩
         have h13 := Lib.hid ((b3.block (w.heap.size + 1) (lt_of_block h12.out)).trans h12.out)
         have hB3 := Lib.hid (hB2.out.trans (b3.mono hB2.out.size))
         clear b3 h12 hB2)
      | (refine wpList_store_row rfl 28 _ _ rfl (w.heap.size + 1) (encK (sumK ks (layL o))).toArray rfl rfl 28 _ h13.out (by rw [h32'.out]; exact hi32'.out) (by rw [h32'.out, h32'.out]) (hone'.out _) ?_))
    have hres := setRow_heap w3 (w.heap.size + 1) _ (encK (sumK ks (layL o))).toArray 28 _ h13.out
    refine bodyPost_ret (results_row_tmp rfl _ _ (w.heap.size + 1) 28 _ (0, 0) _ (.int .i64 0) rfl rfl hres Tryd.underlying28 rfl (by rw [h32'.out]; exact hi32'.out)) rfl ⟨?_, setRow_below hB3.out (by omega) _⟩
    unfold keyL
    rw [if_pos hE0.out, hE0.out]
    rfl
  · obtain ⟨E, hEE⟩ : ∃ E, Hid (∀ _ : Unit, encE o = E) := ⟨_, Lib.hid fun _ => rfl⟩
    rw [hEE.out ()] at hE
    have hq : ((E : Int) != 0) = true := by simp [bne_iff_ne]; omega
    have hE0 := Lib.hid hE
    clear hE
    go_enter Tryd.func23, Tryd.ntmps23
    go_wp2_with (first
      | (refine wpList_load_row_g rfl 31 _ rfl w.heap.size rfl 31 _ (0, 0) _ h0'.out Tryd.underlying31 rfl (by rw [h39'.out]; exact hi39'.out) ?_)
      | (go_at_call 12
         refine (encode_bad _ o p (enc_to hm'.out hB'.out) (hEE.out ()) hE0.out).mono ?_
         rintro e w2 ⟨⟨A, c, rfl⟩, b2⟩
         have h12 := Lib.hid ((b2.block (w.heap.size + 1) (lt_of_block h1'.out)).trans h1'.out)
         have hB2 := Lib.hid (hB'.out.trans (b2.mono hB'.out.size))
         clear b2 h0' h1' hB')
      | (refine wpList_built rfl 28 _ #[] rfl (by simp) _ (buildKz _) ?_)
      | (refine wpList_store_row rfl 28 _ _ rfl (w.heap.size + 1) (encK zK).toArray rfl rfl 28 _ h12.out (by rw [h32'.out]; exact hi32'.out) (by rw [h32'.out]) (hone'.out _) ?_))
    have hres := setRow_heap w2 (w.heap.size + 1) _ (encK zK).toArray 28 _ h12.out
    refine bodyPost_ret (results_row_tmp rfl _ _ (w.heap.size + 1) 28 _ (0, 0) _ (.int .i64 (E : Int)) rfl rfl hres Tryd.underlying28 rfl (by rw [h32'.out]; exact hi32'.out)) rfl ⟨?_, setRow_below hB2.out (by omega) _⟩
    unfold keyL
    rw [if_neg (by rw [hEE.out ()]; exact hE0.out), hEE.out ()]

set_option maxRecDepth 100000 in
set_option maxHeartbeats 2000000 in
theorem rkeyOf_any (w : World) (o : ObjT) (p : Lay) (hm : EncIn w o p) (ks : List Nat) (hT : ShaT w ks) :
    Calls Tryd.prog 24 #[.agg (ocells o p).toArray] w fun e w' => e = .returned (.tuple #[.agg (encK (keyL ks o)).toArray, .int .i64 (encE o : Nat)]) ∧ Below w.heap.size w w' := by
  have hi39 : (Tryd.prog.info? 31).map (·.size) = some 39 := by kernel_rfl
  have hi39' := Lib.hid hi39
  have hi32 : (Tryd.prog.info? 28).map (·.size) = some 32 := by kernel_rfl
  have hi32' := Lib.hid hi32
  have hz := zeroKey
  have h39' := Lib.hid (fun (x : ObjT) (q : Lay) => show (ocells x q).toArray.size = 39 by simp [ocells_length])
  have h32' := Lib.hid (fun x : Key32 => show (encK x).toArray.size = 32 by simp [encK_length])
  have hone' := Lib.hid (fun x : Key32 => show (encK x).toArray.all (·.oneCell') = true from all_oneCell_toArray (encK_one x))
  have h0 : OBlk ((w.alloc (.cells (ocells o p).toArray 31)).alloc (.cells (encK zK).toArray 28)) w.heap.size o p := heap_alloc2_old w _ _
  have h1 : ((w.alloc (.cells (ocells o p).toArray 31)).alloc (.cells (encK zK).toArray 28)).heap[w.heap.size + 1]? = some (.cells (encK zK).toArray 28 (0, 0)) := heap_alloc2_new w _ _
  have hB : Below w.heap.size w ((w.alloc (.cells (ocells o p).toArray 31)).alloc (.cells (encK zK).toArray 28)) := ((Below.refl _ _).alloc (Nat.le_refl _) _).alloc (by simp) _
  have hm' := Lib.hid hm
  have hT' := Lib.hid hT
  have h0' := Lib.hid h0
  have h1' := Lib.hid h1
  have hB' := Lib.hid hB
  clear hm h0 h1 hB hi39 hi32 hT
  by_cases hE : encE o = 0
  · have hE0 := Lib.hid hE
    have hlt := Lib.hid (layL_lt hm'.out.good hm'.out.may.fit.b hm'.out.good.kind)
    obtain ⟨n, hn⟩ : ∃ n, Hid (∀ _ : Unit, (layL o).length = n) := ⟨_, Lib.hid fun _ => rfl⟩
    have hn8 : n ≤ 8192 := by
      rw [← hn.out ()]
      unfold encE at hE
      rw [if_neg (by simp [encE_taken hE0.out])] at hE
      by_cases h : 8192 ≤ o.data.length
      · rw [if_pos h] at hE; cases hE
      · rw [if_neg h] at hE
        by_cases h2 : 8192 < (layL o).length
        · rw [if_pos h2] at hE; cases hE
        · omega
    clear hE
    go_enter Tryd.func24, Tryd.ntmps24
    go_wp2_with (first
      | (refine wpList_load_row_g rfl 31 _ rfl w.heap.size rfl 31 _ (0, 0) _ h0'.out Tryd.underlying31 rfl (by rw [h39'.out]; exact hi39'.out) ?_)
      | (go_at_call 22
         refine (rencode_ok _ o p (enc_to hm'.out hB'.out) hE0.out (hn.out ())).mono ?_
         rintro e w2 ⟨⟨A, c, rfl, o2⟩, b2⟩
         have ol := o2.le
         have h12 := Lib.hid ((b2.block (w.heap.size + 1) (lt_of_block h1'.out)).trans h1'.out)
         have hB2 := Lib.hid (hB'.out.trans (b2.mono hB'.out.size))
         have oc : n ≤ c ∧ c ≤ 9223372036854775807 := ⟨ol.1, by have := ol.2; unfold maxLen at this; exact this⟩
         have o2' := Lib.hid o2.byt
         clear o2 b2 h0' h1' hB' ol)
      | (go_at_call 29
         have hsm := refSum_any _ ks (layL o) A c (hT'.out.below hB2.out).r (hT'.out.below hB2.out).b hT'.out.len hT'.out.lt hlt.out o2'.out (by rw [hn.out ()]; omega)
         rw [hn.out ()] at hsm
         refine hsm.mono ?_
         clear hsm
         rintro e w3 ⟨rfl, b3⟩
         have h13 := Lib.hid ((b3.block (w.heap.size + 1) (lt_of_block h12.out)).trans h12.out)
         have hB3 := Lib.hid (hB2.out.trans (b3.mono hB2.out.size))
         clear b3 h12 hB2)
      | (refine wpList_store_row rfl 28 _ _ rfl (w.heap.size + 1) (encK (sumK ks (layL o))).toArray rfl rfl 28 _ h13.out (by rw [h32'.out]; exact hi32'.out) (by rw [h32'.out, h32'.out]) (hone'.out _) ?_))
    have hres := setRow_heap w3 (w.heap.size + 1) _ (encK (sumK ks (layL o))).toArray 28 _ h13.out
    refine bodyPost_ret (results_row_tmp rfl _ _ (w.heap.size + 1) 28 _ (0, 0) _ (.int .i64 0) rfl rfl hres Tryd.underlying28 rfl (by rw [h32'.out]; exact hi32'.out)) rfl ⟨?_, setRow_below hB3.out (by omega) _⟩
    unfold keyL
    rw [if_pos hE0.out, hE0.out]
    rfl
  · obtain ⟨E, hEE⟩ : ∃ E, Hid (∀ _ : Unit, encE o = E) := ⟨_, Lib.hid fun _ => rfl⟩
    rw [hEE.out ()] at hE
    have hq : ((E : Int) != 0) = true := by simp [bne_iff_ne]; omega
    have hE0 := Lib.hid hE
    clear hE
    go_enter Tryd.func24, Tryd.ntmps24
    go_wp2_with (first
      | (refine wpList_load_row_g rfl 31 _ rfl w.heap.size rfl 31 _ (0, 0) _ h0'.out Tryd.underlying31 rfl (by rw [h39'.out]; exact hi39'.out) ?_)
      | (go_at_call 22
         refine (rencode_bad _ o p (enc_to hm'.out hB'.out) (hEE.out ()) hE0.out).mono ?_
         rintro e w2 ⟨⟨A, c, rfl⟩, b2⟩
         have h12 := Lib.hid ((b2.block (w.heap.size + 1) (lt_of_block h1'.out)).trans h1'.out)
         have hB2 := Lib.hid (hB'.out.trans (b2.mono hB'.out.size))
         clear b2 h0' h1' hB')
      | (refine wpList_built rfl 28 _ #[] rfl (by simp) _ (buildKz _) ?_)
      | (refine wpList_store_row rfl 28 _ _ rfl (w.heap.size + 1) (encK zK).toArray rfl rfl 28 _ h12.out (by rw [h32'.out]; exact hi32'.out) (by rw [h32'.out]) (hone'.out _) ?_))
    have hres := setRow_heap w2 (w.heap.size + 1) _ (encK zK).toArray 28 _ h12.out
    refine bodyPost_ret (results_row_tmp rfl _ _ (w.heap.size + 1) 28 _ (0, 0) _ (.int .i64 (E : Int)) rfl rfl hres Tryd.underlying28 rfl (by rw [h32'.out]; exact hi32'.out)) rfl ⟨?_, setRow_below hB2.out (by omega) _⟩
    unfold keyL
    rw [if_neg (by rw [hEE.out ()]; exact hE0.out), hEE.out ()]
end Go.Proofs.YtkjndgapejbgcaaDoor

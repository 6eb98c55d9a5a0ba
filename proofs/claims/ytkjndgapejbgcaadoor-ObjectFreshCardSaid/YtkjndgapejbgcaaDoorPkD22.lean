/- Why an object may not be, by the document. (Printed by tools/genrchk.py.) -/
import Derived.Test.YtkjndgapejbgcaaDoorPkD20
import Derived.Test.YtkjndgapejbgcaaDoorPkD21
import Derived.Deep.Cut

namespace Go.Proofs.YtkjndgapejbgcaaDoor
open Go.RowKit
set_option linter.unusedSimpArgs false
set_option linter.unusedVariables false

theorem rfor_b {b : Bool} (w : World) (o : ObjT) (p : Lay) (h1 : 1 ≤ o.kind) (h4 : o.kind ≤ 4) (hb : refFor o = b) :
    Calls Tryd.prog 41 #[.agg (ocells o p).toArray] w fun e w' => e = .returned (.bool b) ∧ Below w.heap.size w w' := by
  rw [← hb]
  exact rfor_any w o p h1 h4
/-- What the document's Check asks of an object. -/
structure ChkIn (w : World) (o : ObjT) (p : Lay) : Prop where
  oin : ObjIn w w.heap.size o p
  fit : Fit o
  good : Good o
theorem mayB_of {o : ObjT} (h1 : 1 ≤ o.kind) (h4 : o.kind ≤ 4) (hf : refFor o = false) (hk : kidsN o ≤ 128) (he : kindE o = 0) : MayB o := by
  obtain ⟨_, b, c, d⟩ := refFor_own o hf
  refine ⟨h1, h4, hf, ?_, ?_, ?_, he⟩
  · by_cases h : o.kind = 2
    · unfold kidsN at hk; rwa [if_pos h] at hk
    · rw [b h]; simp
  · by_cases h : o.kind = 3
    · unfold kidsN at hk; rwa [if_neg (by omega), if_pos h] at hk
    · rw [c h]; simp
  · by_cases h : o.kind = 4
    · unfold kidsN at hk; rw [if_neg (by omega), if_neg (by omega), if_pos h] at hk; omega
    · rw [d h]; simp
theorem kids_small {o : ObjT} (h1 : 1 ≤ o.kind) (h4 : o.kind ≤ 4) (hf : refFor o = false) (hk : kidsN o ≤ 128) : o.parts.length ≤ 128 ∧ o.items.length ≤ 128 := by
  obtain ⟨_, b, c, _⟩ := refFor_own o hf
  constructor
  · by_cases h : o.kind = 2
    · unfold kidsN at hk; rwa [if_pos h] at hk
    · rw [b h]; simp
  · by_cases h : o.kind = 3
    · unfold kidsN at hk; rwa [if_neg (by omega), if_pos h] at hk
    · rw [c h]; simp

section
variable {P : Program} {ops : Array Oper} {rest : List Oper} {o : Oper} {a : Act} {w : World} {Q : Exit → Act → World → Prop}
theorem wpList_load_row_g (hw : Region.wanted o (yielded ops a.tmps) = true) (ty : TypeId) (x : Operand) (ho : o.op = .load ty x)
    (g : Nat) (hx : a.eval x = .pointer (some ⟨g, 0, none⟩)) (t : TypeId) (cs : Array Value) (fr : Nat × Nat) (d : TypeDesc) (hg : w.heap[g]? = some (.cells cs t fr))
    (hu : P.underlying ty = some d) (hd : (match d with | .struct _ | .array _ _ => true | _ => false) = true) (hi : (P.info? ty).map (·.size) = some cs.size)
    (h : wpList P ops Q rest (a.put o.dst (.agg cs)) w) : wpList P ops Q (o :: rest) a w :=
  wpList_step fun K hK => by
    rw [if_pos hw]
    exact wp_load_row ty x ho g hx t cs fr d hg hu hd hi (hK _ _ h)
end

set_option maxRecDepth 100000 in
set_option maxHeartbeats 2000000 in
theorem rchk_low (w : World) (o : ObjT) (p : Lay) (hm : ChkIn w o p) (hk0 : o.kind < 1) :
    Calls Tryd.prog 13 #[.agg (ocells o p).toArray] w fun e w' => e = .returned (.int .i64 (40)) ∧ Below w.heap.size w w' := by
  have hi39 : (Tryd.prog.info? 31).map (·.size) = some 39 := by kernel_rfl
  have hi39' := Lib.hid hi39
  have h39' := Lib.hid (fun (x : ObjT) (q : Lay) => show (ocells x q).toArray.size = 39 by simp [ocells_length])
  have h0 : OBlk (w.alloc (.cells (ocells o p).toArray 31)) w.heap.size o p := heap_alloc_new w _
  have hB : Below w.heap.size w (w.alloc (.cells (ocells o p).toArray 31)) := (Below.refl _ _).alloc (Nat.le_refl _) _
  have c0 := h0.c0
  obtain ⟨K, hK⟩ : ∃ K, Hid (∀ _ : Unit, o.kind = K) := ⟨_, Lib.hid fun _ => rfl⟩
  rw [hK.out ()] at c0
  rw [hK.out ()] at hk0
  have h1 : (K : Int) < 1 := by omega
  clear hk0
  have hm' := Lib.hid hm
  have h0' := Lib.hid h0
  have hB' := Lib.hid hB
  clear hm h0 hB hi39 
  go_enter Tryd.func13, Tryd.ntmps13
  go_wp2_with fail
  go_ret
  exact ⟨rfl, hB'.out⟩

set_option maxRecDepth 100000 in
set_option maxHeartbeats 2000000 in
theorem rchk_high (w : World) (o : ObjT) (p : Lay) (hm : ChkIn w o p) (hk0 : 4 < o.kind) :
    Calls Tryd.prog 13 #[.agg (ocells o p).toArray] w fun e w' => e = .returned (.int .i64 (40)) ∧ Below w.heap.size w w' := by
  have hi39 : (Tryd.prog.info? 31).map (·.size) = some 39 := by kernel_rfl
  have hi39' := Lib.hid hi39
  have h39' := Lib.hid (fun (x : ObjT) (q : Lay) => show (ocells x q).toArray.size = 39 by simp [ocells_length])
  have h0 : OBlk (w.alloc (.cells (ocells o p).toArray 31)) w.heap.size o p := heap_alloc_new w _
  have hB : Below w.heap.size w (w.alloc (.cells (ocells o p).toArray 31)) := (Below.refl _ _).alloc (Nat.le_refl _) _
  have c0 := h0.c0
  obtain ⟨K, hK⟩ : ∃ K, Hid (∀ _ : Unit, o.kind = K) := ⟨_, Lib.hid fun _ => rfl⟩
  rw [hK.out ()] at c0
  rw [hK.out ()] at hk0
  have h1 : (1 : Int) ≤ (K : Int) := by omega
  have h2 : (4 : Int) < (K : Int) := by omega
  clear hk0
  have hm' := Lib.hid hm
  have h0' := Lib.hid h0
  have hB' := Lib.hid hB
  clear hm h0 hB hi39 
  go_enter Tryd.func13, Tryd.ntmps13
  go_wp2_with fail
  go_ret
  exact ⟨rfl, hB'.out⟩

set_option maxRecDepth 100000 in
set_option maxHeartbeats 2000000 in
theorem rchk_for (w : World) (o : ObjT) (p : Lay) (hm : ChkIn w o p) (hk0 : 1 ≤ o.kind ∧ o.kind ≤ 4) (hfr : refFor o = true) :
    Calls Tryd.prog 13 #[.agg (ocells o p).toArray] w fun e w' => e = .returned (.int .i64 (41)) ∧ Below w.heap.size w w' := by
  have hi39 : (Tryd.prog.info? 31).map (·.size) = some 39 := by kernel_rfl
  have hi39' := Lib.hid hi39
  have h39' := Lib.hid (fun (x : ObjT) (q : Lay) => show (ocells x q).toArray.size = 39 by simp [ocells_length])
  have h0 : OBlk (w.alloc (.cells (ocells o p).toArray 31)) w.heap.size o p := heap_alloc_new w _
  have hB : Below w.heap.size w (w.alloc (.cells (ocells o p).toArray 31)) := (Below.refl _ _).alloc (Nat.le_refl _) _
  have c0 := h0.c0
  obtain ⟨K, hK⟩ : ∃ K, Hid (∀ _ : Unit, o.kind = K) := ⟨_, Lib.hid fun _ => rfl⟩
  rw [hK.out ()] at c0
  have hk1 := Lib.hid hk0.1
  have hk4 := Lib.hid hk0.2
  rw [hK.out ()] at hk0
  have h1 : (1 : Int) ≤ (K : Int) := by omega
  have h2 : (K : Int) ≤ 4 := by omega
  clear hk0
  have hfor := Lib.hid hfr
  have hm' := Lib.hid hm
  have h0' := Lib.hid h0
  have hB' := Lib.hid hB
  clear hm h0 hB hi39 hfr
  go_enter Tryd.func13, Tryd.ntmps13
  go_wp2_with (first
    | (refine wpList_load_row rfl 31 _ rfl w.heap.size rfl 31 _ (0, 0) _ h0'.out Tryd.underlying31 rfl (by rw [h39'.out]; exact hi39'.out) ?_)
    | (go_at_call 41
       refine (rfor_b _ o p hk1.out hk4.out hfor.out).mono ?_
       rintro e w1 ⟨rfl, b1⟩
       have hb1 := Lib.hid (OBlk.below h0'.out b1 (lt_of_block h0'.out))
       have hB1 := Lib.hid (hB'.out.trans (b1.mono hB'.out.size))
       clear b1 c0
       have c0 : w1.cell? ⟨w.heap.size, 0, none⟩ = some (.int .u8 (K : Int)) := by have := hb1.out.c0; rw [hK.out ()] at this; exact this))
  go_ret
  exact ⟨rfl, hB1.out⟩

set_option maxRecDepth 100000 in
set_option maxHeartbeats 2000000 in
theorem rchk_many (w : World) (o : ObjT) (p : Lay) (hm : ChkIn w o p) (hk0 : 1 ≤ o.kind ∧ o.kind ≤ 4) (hfr : refFor o = false) (hkd : 128 < kidsN o) :
    Calls Tryd.prog 13 #[.agg (ocells o p).toArray] w fun e w' => e = .returned (.int .i64 (42)) ∧ Below w.heap.size w w' := by
  have hi39 : (Tryd.prog.info? 31).map (·.size) = some 39 := by kernel_rfl
  have hi39' := Lib.hid hi39
  have h39' := Lib.hid (fun (x : ObjT) (q : Lay) => show (ocells x q).toArray.size = 39 by simp [ocells_length])
  have h0 : OBlk (w.alloc (.cells (ocells o p).toArray 31)) w.heap.size o p := heap_alloc_new w _
  have hB : Below w.heap.size w (w.alloc (.cells (ocells o p).toArray 31)) := (Below.refl _ _).alloc (Nat.le_refl _) _
  have c0 := h0.c0
  obtain ⟨K, hK⟩ : ∃ K, Hid (∀ _ : Unit, o.kind = K) := ⟨_, Lib.hid fun _ => rfl⟩
  rw [hK.out ()] at c0
  have hk1 := Lib.hid hk0.1
  have hk4 := Lib.hid hk0.2
  rw [hK.out ()] at hk0
  have h1 : (1 : Int) ≤ (K : Int) := by omega
  have h2 : (K : Int) ≤ 4 := by omega
  clear hk0
  have hfor := Lib.hid hfr
  obtain ⟨KN, hkn⟩ : ∃ n, Hid (∀ _ : Unit, kidsN o = n) := ⟨_, Lib.hid fun _ => rfl⟩
  rw [hkn.out ()] at hkd
  have h3 : (128 : Int) < (KN : Int) := by omega
  have hm' := Lib.hid hm
  have h0' := Lib.hid h0
  have hB' := Lib.hid hB
  clear hm h0 hB hi39 hfr hkd
  go_enter Tryd.func13, Tryd.ntmps13
  go_wp2_with (first
    | (refine wpList_load_row rfl 31 _ rfl w.heap.size rfl 31 _ (0, 0) _ h0'.out Tryd.underlying31 rfl (by rw [h39'.out]; exact hi39'.out) ?_)
    | (go_at_call 41
       refine (rfor_b _ o p hk1.out hk4.out hfor.out).mono ?_
       rintro e w1 ⟨rfl, b1⟩
       have hb1 := Lib.hid (OBlk.below h0'.out b1 (lt_of_block h0'.out))
       have hB1 := Lib.hid (hB'.out.trans (b1.mono hB'.out.size))
       clear b1 c0
       have c0 : w1.cell? ⟨w.heap.size, 0, none⟩ = some (.int .u8 (K : Int)) := by have := hb1.out.c0; rw [hK.out ()] at this; exact this)
    | (refine wpList_load_row rfl 31 _ rfl w.heap.size rfl 31 _ (0, 0) _ hb1.out Tryd.underlying31 rfl (by rw [h39'.out]; exact hi39'.out) ?_)
    | (go_at_call 42
       refine (kidCount_any _ o p hm'.out.fit hk1.out hk4.out).mono ?_
       rintro e w2 ⟨rfl, b2⟩
       rw [hkn.out ()]
       have hb2 := Lib.hid (OBlk.below hb1.out b2 (lt_of_block hb1.out))
       have hB2 := Lib.hid (hB1.out.trans (b2.mono hB1.out.size))
       clear b2 c0
       skip))
  go_ret
  exact ⟨rfl, hB2.out⟩

set_option maxRecDepth 100000 in
set_option maxHeartbeats 2000000 in
theorem rchk_k2e (w : World) (o : ObjT) (p : Lay) (hm : ChkIn w o p) (hk : o.kind = 2) (hfr : refFor o = false) (hkd : kidsN o ≤ 128) (hpb : partsB 0 o.parts = false) :
    Calls Tryd.prog 13 #[.agg (ocells o p).toArray] w fun e w' => e = .returned (.int .i64 (47)) ∧ Below w.heap.size w w' := by
  have hi39 : (Tryd.prog.info? 31).map (·.size) = some 39 := by kernel_rfl
  have hi39' := Lib.hid hi39
  have h39' := Lib.hid (fun (x : ObjT) (q : Lay) => show (ocells x q).toArray.size = 39 by simp [ocells_length])
  have h0 : OBlk (w.alloc (.cells (ocells o p).toArray 31)) w.heap.size o p := heap_alloc_new w _
  have hB : Below w.heap.size w (w.alloc (.cells (ocells o p).toArray 31)) := (Below.refl _ _).alloc (Nat.le_refl _) _
  have c0 := h0.c0
  have hK := Lib.hid (fun _ : Unit => hk)
  rw [hK.out ()] at c0
  replace c0 : (w.alloc (.cells (ocells o p).toArray 31)).cell? ⟨w.heap.size, 0, none⟩ = some (.int .u8 2) := c0
  have hk1 : Hid (1 ≤ o.kind) := Lib.hid (by omega)
  have hk4 : Hid (o.kind ≤ 4) := Lib.hid (by omega)
  have hfor := Lib.hid hfr
  have hsm := Lib.hid (kids_small hk1.out hk4.out hfr hkd)
  obtain ⟨KN, hkn⟩ : ∃ n, Hid (∀ _ : Unit, kidsN o = n) := ⟨_, Lib.hid fun _ => rfl⟩
  rw [hkn.out ()] at hkd
  have h3 : (KN : Int) ≤ 128 := by omega
  obtain ⟨nd, hnd⟩ : ∃ n, Hid (∀ _ : Unit, o.data.length = n) := ⟨_, Lib.hid fun _ => rfl⟩
  obtain ⟨np, hnp⟩ : ∃ n, Hid (∀ _ : Unit, o.parts.length = n) := ⟨_, Lib.hid fun _ => rfl⟩
  obtain ⟨ni, hni⟩ : ∃ n, Hid (∀ _ : Unit, o.items.length = n) := ⟨_, Lib.hid fun _ => rfl⟩
  obtain ⟨s, hs⟩ : ∃ s, Hid (∀ _ : Unit, o.note = s) := ⟨_, Lib.hid fun _ => rfl⟩
  have hpt : Hid (∀ W : World, Row encP 33 W W.heap.size p.Ap o.parts → Calls Tryd.prog 43 #[.slice p.Ap np p.cp] W fun e w' => e = .returned (.int .i64 47) ∧ Below W.heap.size W w') := Lib.hid fun W hr => by have := refParts_any W o.parts p.Ap np p.cp (hnp.out ()) hr (fun x hx => (hm.good.ps x hx).2) (by have := hsm.out.1; have := hnp.out (); omega); rw [hpb] at this; exact this.mono fun _ _ h => ⟨h.1, h.2 ▸ Below.refl _ _⟩
  have hm' := Lib.hid hm
  have h0' := Lib.hid h0
  have hB' := Lib.hid hB
  clear hm h0 hB hi39 hk hfr hkd hpb
  go_enter Tryd.func13, Tryd.ntmps13
  go_wp2_with (first
    | (refine wpList_load_row rfl 31 _ rfl w.heap.size rfl 31 _ (0, 0) _ h0'.out Tryd.underlying31 rfl (by rw [h39'.out]; exact hi39'.out) ?_)
    | (go_at_call 41
       refine (rfor_b _ o p hk1.out hk4.out hfor.out).mono ?_
       rintro e w1 ⟨rfl, b1⟩
       have hb1 := Lib.hid (OBlk.below h0'.out b1 (lt_of_block h0'.out))
       have hB1 := Lib.hid (hB'.out.trans (b1.mono hB'.out.size))
       clear b1 c0
       have c0 : w1.cell? ⟨w.heap.size, 0, none⟩ = some (.int .u8 2) := by have := hb1.out.c0; rw [hK.out ()] at this; exact this)
    | (refine wpList_load_row rfl 31 _ rfl w.heap.size rfl 31 _ (0, 0) _ hb1.out Tryd.underlying31 rfl (by rw [h39'.out]; exact hi39'.out) ?_)
    | (go_at_call 42
       refine (kidCount_any _ o p hm'.out.fit hk1.out hk4.out).mono ?_
       rintro e w2 ⟨rfl, b2⟩
       rw [hkn.out ()]
       have hb2 := Lib.hid (OBlk.below hb1.out b2 (lt_of_block hb1.out))
       have hB2 := Lib.hid (hB1.out.trans (b2.mono hB1.out.size))
       clear b2 c0
       have c0 : w2.cell? ⟨w.heap.size, 0, none⟩ = some (.int .u8 2) := by have := hb2.out.c0; rw [hK.out ()] at this; exact this
       have c1 := hb2.out.c1
       rw [hnd.out ()] at c1
       have c2 := hb2.out.c2
       rw [hnp.out ()] at c2)
    | (go_at_call 43
       refine (hpt.out _ ((Rd.below hm'.out.oin.ps hB2.out).mono hB2.out.size)).mono ?_
       rintro e w3 ⟨rfl, b3⟩
       have hb3 := Lib.hid (OBlk.below hb2.out b3 (lt_of_block hb2.out))
       have hB3 := Lib.hid (hB2.out.trans (b3.mono hB2.out.size))
       clear b3 c0 c1 c2
       have c1 := hb3.out.c1
       rw [hnd.out ()] at c1))
  go_ret
  exact ⟨rfl, hB3.out⟩

set_option maxRecDepth 100000 in
set_option maxHeartbeats 2000000 in
theorem rchk_k3e (w : World) (o : ObjT) (p : Lay) (hm : ChkIn w o p) (hk : o.kind = 3) (hfr : refFor o = false) (hkd : kidsN o ≤ 128) (E : Nat) (hie : itemsE none o.items = E) (hE : E ≠ 0) :
    Calls Tryd.prog 13 #[.agg (ocells o p).toArray] w fun e w' => e = .returned (.int .i64 ((E : Nat))) ∧ Below w.heap.size w w' := by
  have hi39 : (Tryd.prog.info? 31).map (·.size) = some 39 := by kernel_rfl
  have hi39' := Lib.hid hi39
  have h39' := Lib.hid (fun (x : ObjT) (q : Lay) => show (ocells x q).toArray.size = 39 by simp [ocells_length])
  have h0 : OBlk (w.alloc (.cells (ocells o p).toArray 31)) w.heap.size o p := heap_alloc_new w _
  have hB : Below w.heap.size w (w.alloc (.cells (ocells o p).toArray 31)) := (Below.refl _ _).alloc (Nat.le_refl _) _
  have c0 := h0.c0
  have hK := Lib.hid (fun _ : Unit => hk)
  rw [hK.out ()] at c0
  replace c0 : (w.alloc (.cells (ocells o p).toArray 31)).cell? ⟨w.heap.size, 0, none⟩ = some (.int .u8 3) := c0
  have hk1 : Hid (1 ≤ o.kind) := Lib.hid (by omega)
  have hk4 : Hid (o.kind ≤ 4) := Lib.hid (by omega)
  have hfor := Lib.hid hfr
  have hsm := Lib.hid (kids_small hk1.out hk4.out hfr hkd)
  obtain ⟨KN, hkn⟩ : ∃ n, Hid (∀ _ : Unit, kidsN o = n) := ⟨_, Lib.hid fun _ => rfl⟩
  rw [hkn.out ()] at hkd
  have h3 : (KN : Int) ≤ 128 := by omega
  obtain ⟨nd, hnd⟩ : ∃ n, Hid (∀ _ : Unit, o.data.length = n) := ⟨_, Lib.hid fun _ => rfl⟩
  obtain ⟨np, hnp⟩ : ∃ n, Hid (∀ _ : Unit, o.parts.length = n) := ⟨_, Lib.hid fun _ => rfl⟩
  obtain ⟨ni, hni⟩ : ∃ n, Hid (∀ _ : Unit, o.items.length = n) := ⟨_, Lib.hid fun _ => rfl⟩
  obtain ⟨s, hs⟩ : ∃ s, Hid (∀ _ : Unit, o.note = s) := ⟨_, Lib.hid fun _ => rfl⟩
  have hit : Hid (∀ W : World, Row encI 35 W W.heap.size p.Ai o.items → Calls Tryd.prog 44 #[.slice p.Ai ni p.ci] W fun e w' => e = .returned (.int .i64 (E : Nat)) ∧ Below W.heap.size W w') := Lib.hid fun W hr => by have := refItems_any W o.items p.Ai ni p.ci (hni.out ()) hr (by have := hsm.out.2; have := hni.out (); omega); rwa [hie] at this
  have hq : ((E : Int) != 0) = true := by simp [bne_iff_ne]; omega
  have hm' := Lib.hid hm
  have h0' := Lib.hid h0
  have hB' := Lib.hid hB
  clear hm h0 hB hi39 hk hfr hkd hie hE
  go_enter Tryd.func13, Tryd.ntmps13
  go_wp2_with (first
    | (refine wpList_load_row rfl 31 _ rfl w.heap.size rfl 31 _ (0, 0) _ h0'.out Tryd.underlying31 rfl (by rw [h39'.out]; exact hi39'.out) ?_)
    | (go_at_call 41
       refine (rfor_b _ o p hk1.out hk4.out hfor.out).mono ?_
       rintro e w1 ⟨rfl, b1⟩
       have hb1 := Lib.hid (OBlk.below h0'.out b1 (lt_of_block h0'.out))
       have hB1 := Lib.hid (hB'.out.trans (b1.mono hB'.out.size))
       clear b1 c0
       have c0 : w1.cell? ⟨w.heap.size, 0, none⟩ = some (.int .u8 3) := by have := hb1.out.c0; rw [hK.out ()] at this; exact this)
    | (refine wpList_load_row rfl 31 _ rfl w.heap.size rfl 31 _ (0, 0) _ hb1.out Tryd.underlying31 rfl (by rw [h39'.out]; exact hi39'.out) ?_)
    | (go_at_call 42
       refine (kidCount_any _ o p hm'.out.fit hk1.out hk4.out).mono ?_
       rintro e w2 ⟨rfl, b2⟩
       rw [hkn.out ()]
       have hb2 := Lib.hid (OBlk.below hb1.out b2 (lt_of_block hb1.out))
       have hB2 := Lib.hid (hB1.out.trans (b2.mono hB1.out.size))
       clear b2 c0
       have c0 : w2.cell? ⟨w.heap.size, 0, none⟩ = some (.int .u8 3) := by have := hb2.out.c0; rw [hK.out ()] at this; exact this
       have c1 := hb2.out.c1
       rw [hnd.out ()] at c1
       have c3 := hb2.out.c3
       rw [hni.out ()] at c3)
    | (go_at_call 44
       refine (hit.out _ ((Rd.below hm'.out.oin.xs hB2.out).mono hB2.out.size)).mono ?_
       rintro e w3 ⟨rfl, b3⟩
       have hb3 := Lib.hid (OBlk.below hb2.out b3 (lt_of_block hb2.out))
       have hB3 := Lib.hid (hB2.out.trans (b3.mono hB2.out.size))
       clear b3 c0 c1 c3
       have c1 := hb3.out.c1
       rw [hnd.out ()] at c1))
  go_ret
  exact ⟨rfl, hB3.out⟩

set_option maxRecDepth 100000 in
set_option maxHeartbeats 2000000 in
theorem rchk_k4e (w : World) (o : ObjT) (p : Lay) (hm : ChkIn w o p) (hk : o.kind = 4) (hfr : refFor o = false) (hkd : kidsN o ≤ 128) (hn : 1024 < o.note.size) :
    Calls Tryd.prog 13 #[.agg (ocells o p).toArray] w fun e w' => e = .returned (.int .i64 (46)) ∧ Below w.heap.size w w' := by
  have hi39 : (Tryd.prog.info? 31).map (·.size) = some 39 := by kernel_rfl
  have hi39' := Lib.hid hi39
  have h39' := Lib.hid (fun (x : ObjT) (q : Lay) => show (ocells x q).toArray.size = 39 by simp [ocells_length])
  have h0 : OBlk (w.alloc (.cells (ocells o p).toArray 31)) w.heap.size o p := heap_alloc_new w _
  have hB : Below w.heap.size w (w.alloc (.cells (ocells o p).toArray 31)) := (Below.refl _ _).alloc (Nat.le_refl _) _
  have c0 := h0.c0
  have hK := Lib.hid (fun _ : Unit => hk)
  rw [hK.out ()] at c0
  replace c0 : (w.alloc (.cells (ocells o p).toArray 31)).cell? ⟨w.heap.size, 0, none⟩ = some (.int .u8 4) := c0
  have hk1 : Hid (1 ≤ o.kind) := Lib.hid (by omega)
  have hk4 : Hid (o.kind ≤ 4) := Lib.hid (by omega)
  have hfor := Lib.hid hfr
  have hsm := Lib.hid (kids_small hk1.out hk4.out hfr hkd)
  obtain ⟨KN, hkn⟩ : ∃ n, Hid (∀ _ : Unit, kidsN o = n) := ⟨_, Lib.hid fun _ => rfl⟩
  rw [hkn.out ()] at hkd
  have h3 : (KN : Int) ≤ 128 := by omega
  obtain ⟨nd, hnd⟩ : ∃ n, Hid (∀ _ : Unit, o.data.length = n) := ⟨_, Lib.hid fun _ => rfl⟩
  obtain ⟨np, hnp⟩ : ∃ n, Hid (∀ _ : Unit, o.parts.length = n) := ⟨_, Lib.hid fun _ => rfl⟩
  obtain ⟨ni, hni⟩ : ∃ n, Hid (∀ _ : Unit, o.items.length = n) := ⟨_, Lib.hid fun _ => rfl⟩
  obtain ⟨s, hs⟩ : ∃ s, Hid (∀ _ : Unit, o.note = s) := ⟨_, Lib.hid fun _ => rfl⟩
  rw [hs.out ()] at hn
  have hn2 : (1024 : Int) < (s.size : Int) := by omega
  have hm' := Lib.hid hm
  have h0' := Lib.hid h0
  have hB' := Lib.hid hB
  clear hm h0 hB hi39 hk hfr hkd hn
  go_enter Tryd.func13, Tryd.ntmps13
  go_wp2_with (first
    | (refine wpList_load_row rfl 31 _ rfl w.heap.size rfl 31 _ (0, 0) _ h0'.out Tryd.underlying31 rfl (by rw [h39'.out]; exact hi39'.out) ?_)
    | (go_at_call 41
       refine (rfor_b _ o p hk1.out hk4.out hfor.out).mono ?_
       rintro e w1 ⟨rfl, b1⟩
       have hb1 := Lib.hid (OBlk.below h0'.out b1 (lt_of_block h0'.out))
       have hB1 := Lib.hid (hB'.out.trans (b1.mono hB'.out.size))
       clear b1 c0
       have c0 : w1.cell? ⟨w.heap.size, 0, none⟩ = some (.int .u8 4) := by have := hb1.out.c0; rw [hK.out ()] at this; exact this)
    | (refine wpList_load_row rfl 31 _ rfl w.heap.size rfl 31 _ (0, 0) _ hb1.out Tryd.underlying31 rfl (by rw [h39'.out]; exact hi39'.out) ?_)
    | (go_at_call 42
       refine (kidCount_any _ o p hm'.out.fit hk1.out hk4.out).mono ?_
       rintro e w2 ⟨rfl, b2⟩
       rw [hkn.out ()]
       have hb2 := Lib.hid (OBlk.below hb1.out b2 (lt_of_block hb1.out))
       have hB2 := Lib.hid (hB1.out.trans (b2.mono hB1.out.size))
       clear b2 c0
       have c0 : w2.cell? ⟨w.heap.size, 0, none⟩ = some (.int .u8 4) := by have := hb2.out.c0; rw [hK.out ()] at this; exact this
       have c1 := hb2.out.c1
       rw [hnd.out ()] at c1
       have c4 := hb2.out.c38
       rw [hs.out ()] at c4))
  go_ret
  exact ⟨rfl, hB2.out⟩

set_option maxRecDepth 100000 in
set_option maxHeartbeats 2000000 in
theorem rchk_k4f (w : World) (o : ObjT) (p : Lay) (hm : ChkIn w o p) (hk : o.kind = 4) (hfr : refFor o = false) (hkd : kidsN o ≤ 128) (hn : o.note.size ≤ 1024) (hl : lettersD o.note o.note.size 0 = false) :
    Calls Tryd.prog 13 #[.agg (ocells o p).toArray] w fun e w' => e = .returned (.int .i64 (46)) ∧ Below w.heap.size w w' := by
  have hi39 : (Tryd.prog.info? 31).map (·.size) = some 39 := by kernel_rfl
  have hi39' := Lib.hid hi39
  have h39' := Lib.hid (fun (x : ObjT) (q : Lay) => show (ocells x q).toArray.size = 39 by simp [ocells_length])
  have h0 : OBlk (w.alloc (.cells (ocells o p).toArray 31)) w.heap.size o p := heap_alloc_new w _
  have hB : Below w.heap.size w (w.alloc (.cells (ocells o p).toArray 31)) := (Below.refl _ _).alloc (Nat.le_refl _) _
  have c0 := h0.c0
  have hK := Lib.hid (fun _ : Unit => hk)
  rw [hK.out ()] at c0
  replace c0 : (w.alloc (.cells (ocells o p).toArray 31)).cell? ⟨w.heap.size, 0, none⟩ = some (.int .u8 4) := c0
  have hk1 : Hid (1 ≤ o.kind) := Lib.hid (by omega)
  have hk4 : Hid (o.kind ≤ 4) := Lib.hid (by omega)
  have hfor := Lib.hid hfr
  have hsm := Lib.hid (kids_small hk1.out hk4.out hfr hkd)
  obtain ⟨KN, hkn⟩ : ∃ n, Hid (∀ _ : Unit, kidsN o = n) := ⟨_, Lib.hid fun _ => rfl⟩
  rw [hkn.out ()] at hkd
  have h3 : (KN : Int) ≤ 128 := by omega
  obtain ⟨nd, hnd⟩ : ∃ n, Hid (∀ _ : Unit, o.data.length = n) := ⟨_, Lib.hid fun _ => rfl⟩
  obtain ⟨np, hnp⟩ : ∃ n, Hid (∀ _ : Unit, o.parts.length = n) := ⟨_, Lib.hid fun _ => rfl⟩
  obtain ⟨ni, hni⟩ : ∃ n, Hid (∀ _ : Unit, o.items.length = n) := ⟨_, Lib.hid fun _ => rfl⟩
  obtain ⟨s, hs⟩ : ∃ s, Hid (∀ _ : Unit, o.note = s) := ⟨_, Lib.hid fun _ => rfl⟩
  have hlt : Hid (∀ W : World, Calls Tryd.prog 31 #[.string s] W fun e w' => e = .returned (.bool false) ∧ W = w') := Lib.hid fun W => by have := letters_any s (by rw [hs.out ()] at hn; omega) W; rw [hs.out ()] at hl; rwa [hl] at this
  rw [hs.out ()] at hn
  have hn2 : (s.size : Int) ≤ 1024 := by omega
  have hm' := Lib.hid hm
  have h0' := Lib.hid h0
  have hB' := Lib.hid hB
  clear hm h0 hB hi39 hk hfr hkd hn hl
  go_enter Tryd.func13, Tryd.ntmps13
  go_wp2_with (first
    | (refine wpList_load_row rfl 31 _ rfl w.heap.size rfl 31 _ (0, 0) _ h0'.out Tryd.underlying31 rfl (by rw [h39'.out]; exact hi39'.out) ?_)
    | (go_at_call 41
       refine (rfor_b _ o p hk1.out hk4.out hfor.out).mono ?_
       rintro e w1 ⟨rfl, b1⟩
       have hb1 := Lib.hid (OBlk.below h0'.out b1 (lt_of_block h0'.out))
       have hB1 := Lib.hid (hB'.out.trans (b1.mono hB'.out.size))
       clear b1 c0
       have c0 : w1.cell? ⟨w.heap.size, 0, none⟩ = some (.int .u8 4) := by have := hb1.out.c0; rw [hK.out ()] at this; exact this)
    | (refine wpList_load_row rfl 31 _ rfl w.heap.size rfl 31 _ (0, 0) _ hb1.out Tryd.underlying31 rfl (by rw [h39'.out]; exact hi39'.out) ?_)
    | (go_at_call 42
       refine (kidCount_any _ o p hm'.out.fit hk1.out hk4.out).mono ?_
       rintro e w2 ⟨rfl, b2⟩
       rw [hkn.out ()]
       have hb2 := Lib.hid (OBlk.below hb1.out b2 (lt_of_block hb1.out))
       have hB2 := Lib.hid (hB1.out.trans (b2.mono hB1.out.size))
       clear b2 c0
       have c0 : w2.cell? ⟨w.heap.size, 0, none⟩ = some (.int .u8 4) := by have := hb2.out.c0; rw [hK.out ()] at this; exact this
       have c1 := hb2.out.c1
       rw [hnd.out ()] at c1
       have c4 := hb2.out.c38
       rw [hs.out ()] at c4)
    | (go_at_call 31
       refine (hlt.out _).mono ?_
       rintro e w' ⟨rfl, rfl⟩))
  go_ret
  exact ⟨rfl, hB2.out⟩

set_option maxRecDepth 100000 in
set_option maxHeartbeats 2000000 in
theorem rchk_k1d (w : World) (o : ObjT) (p : Lay) (hm : ChkIn w o p) (hk : o.kind = 1) (hfr : refFor o = false) (hkd : kidsN o ≤ 128) (hd : 8192 < o.data.length) :
    Calls Tryd.prog 13 #[.agg (ocells o p).toArray] w fun e w' => e = .returned (.int .i64 (48)) ∧ Below w.heap.size w w' := by
  have hi39 : (Tryd.prog.info? 31).map (·.size) = some 39 := by kernel_rfl
  have hi39' := Lib.hid hi39
  have h39' := Lib.hid (fun (x : ObjT) (q : Lay) => show (ocells x q).toArray.size = 39 by simp [ocells_length])
  have h0 : OBlk (w.alloc (.cells (ocells o p).toArray 31)) w.heap.size o p := heap_alloc_new w _
  have hB : Below w.heap.size w (w.alloc (.cells (ocells o p).toArray 31)) := (Below.refl _ _).alloc (Nat.le_refl _) _
  have c0 := h0.c0
  have hK := Lib.hid (fun _ : Unit => hk)
  rw [hK.out ()] at c0
  replace c0 : (w.alloc (.cells (ocells o p).toArray 31)).cell? ⟨w.heap.size, 0, none⟩ = some (.int .u8 1) := c0
  have hk1 : Hid (1 ≤ o.kind) := Lib.hid (by omega)
  have hk4 : Hid (o.kind ≤ 4) := Lib.hid (by omega)
  have hfor := Lib.hid hfr
  have hsm := Lib.hid (kids_small hk1.out hk4.out hfr hkd)
  obtain ⟨KN, hkn⟩ : ∃ n, Hid (∀ _ : Unit, kidsN o = n) := ⟨_, Lib.hid fun _ => rfl⟩
  rw [hkn.out ()] at hkd
  have h3 : (KN : Int) ≤ 128 := by omega
  obtain ⟨nd, hnd⟩ : ∃ n, Hid (∀ _ : Unit, o.data.length = n) := ⟨_, Lib.hid fun _ => rfl⟩
  obtain ⟨np, hnp⟩ : ∃ n, Hid (∀ _ : Unit, o.parts.length = n) := ⟨_, Lib.hid fun _ => rfl⟩
  obtain ⟨ni, hni⟩ : ∃ n, Hid (∀ _ : Unit, o.items.length = n) := ⟨_, Lib.hid fun _ => rfl⟩
  obtain ⟨s, hs⟩ : ∃ s, Hid (∀ _ : Unit, o.note = s) := ⟨_, Lib.hid fun _ => rfl⟩
  rw [hnd.out ()] at hd
  have hd2 : (8192 : Int) < (nd : Int) := by omega
  have hm' := Lib.hid hm
  have h0' := Lib.hid h0
  have hB' := Lib.hid hB
  clear hm h0 hB hi39 hk hfr hkd hd
  go_enter Tryd.func13, Tryd.ntmps13
  go_wp2_with (first
    | (refine wpList_load_row rfl 31 _ rfl w.heap.size rfl 31 _ (0, 0) _ h0'.out Tryd.underlying31 rfl (by rw [h39'.out]; exact hi39'.out) ?_)
    | (go_at_call 41
       refine (rfor_b _ o p hk1.out hk4.out hfor.out).mono ?_
       rintro e w1 ⟨rfl, b1⟩
       have hb1 := Lib.hid (OBlk.below h0'.out b1 (lt_of_block h0'.out))
       have hB1 := Lib.hid (hB'.out.trans (b1.mono hB'.out.size))
       clear b1 c0
       have c0 : w1.cell? ⟨w.heap.size, 0, none⟩ = some (.int .u8 1) := by have := hb1.out.c0; rw [hK.out ()] at this; exact this)
    | (refine wpList_load_row rfl 31 _ rfl w.heap.size rfl 31 _ (0, 0) _ hb1.out Tryd.underlying31 rfl (by rw [h39'.out]; exact hi39'.out) ?_)
    | (go_at_call 42
       refine (kidCount_any _ o p hm'.out.fit hk1.out hk4.out).mono ?_
       rintro e w2 ⟨rfl, b2⟩
       rw [hkn.out ()]
       have hb2 := Lib.hid (OBlk.below hb1.out b2 (lt_of_block hb1.out))
       have hB2 := Lib.hid (hB1.out.trans (b2.mono hB1.out.size))
       clear b2 c0
       have c0 : w2.cell? ⟨w.heap.size, 0, none⟩ = some (.int .u8 1) := by have := hb2.out.c0; rw [hK.out ()] at this; exact this
       have c1 := hb2.out.c1
       rw [hnd.out ()] at c1))
  go_ret
  exact ⟨rfl, hB2.out⟩

set_option maxRecDepth 100000 in
set_option maxHeartbeats 2000000 in
theorem rchk_k1l (w : World) (o : ObjT) (p : Lay) (hm : ChkIn w o p) (hk : o.kind = 1) (hfr : refFor o = false) (hkd : kidsN o ≤ 128) (hd : o.data.length ≤ 8192) (hlen : 8192 < (layL o).length) :
    Calls Tryd.prog 13 #[.agg (ocells o p).toArray] w fun e w' => e = .returned (.int .i64 (48)) ∧ Below w.heap.size w w' := by
  have hi39 : (Tryd.prog.info? 31).map (·.size) = some 39 := by kernel_rfl
  have hi39' := Lib.hid hi39
  have h39' := Lib.hid (fun (x : ObjT) (q : Lay) => show (ocells x q).toArray.size = 39 by simp [ocells_length])
  have h0 : OBlk (w.alloc (.cells (ocells o p).toArray 31)) w.heap.size o p := heap_alloc_new w _
  have hB : Below w.heap.size w (w.alloc (.cells (ocells o p).toArray 31)) := (Below.refl _ _).alloc (Nat.le_refl _) _
  have c0 := h0.c0
  have hK := Lib.hid (fun _ : Unit => hk)
  rw [hK.out ()] at c0
  replace c0 : (w.alloc (.cells (ocells o p).toArray 31)).cell? ⟨w.heap.size, 0, none⟩ = some (.int .u8 1) := c0
  have hmb : Hid (MayB o) := Lib.hid (mayB_of (by omega) (by omega) hfr hkd (by simp [kindE, hk]))
  have hk1 : Hid (1 ≤ o.kind) := Lib.hid (by omega)
  have hk4 : Hid (o.kind ≤ 4) := Lib.hid (by omega)
  have hfor := Lib.hid hfr
  have hsm := Lib.hid (kids_small hk1.out hk4.out hfr hkd)
  obtain ⟨KN, hkn⟩ : ∃ n, Hid (∀ _ : Unit, kidsN o = n) := ⟨_, Lib.hid fun _ => rfl⟩
  rw [hkn.out ()] at hkd
  have h3 : (KN : Int) ≤ 128 := by omega
  obtain ⟨nd, hnd⟩ : ∃ n, Hid (∀ _ : Unit, o.data.length = n) := ⟨_, Lib.hid fun _ => rfl⟩
  obtain ⟨np, hnp⟩ : ∃ n, Hid (∀ _ : Unit, o.parts.length = n) := ⟨_, Lib.hid fun _ => rfl⟩
  obtain ⟨ni, hni⟩ : ∃ n, Hid (∀ _ : Unit, o.items.length = n) := ⟨_, Lib.hid fun _ => rfl⟩
  obtain ⟨s, hs⟩ : ∃ s, Hid (∀ _ : Unit, o.note = s) := ⟨_, Lib.hid fun _ => rfl⟩
  have hd8 := Lib.hid hd
  rw [hnd.out ()] at hd
  have hd2 : (nd : Int) ≤ 8192 := by omega
  have hd3 : decide ((8192 : Int) < (nd : Int)) = false := by simp; omega
  obtain ⟨L, hL⟩ : ∃ n, Hid (∀ _ : Unit, (layL o).length = n) := ⟨_, Lib.hid fun _ => rfl⟩
  rw [hL.out ()] at hlen
  have hl2 : (8192 : Int) < (L : Int) := by omega
  have hm' := Lib.hid hm
  have h0' := Lib.hid h0
  have hB' := Lib.hid hB
  clear hm h0 hB hi39 hk hfr hkd hd hlen
  go_enter Tryd.func13, Tryd.ntmps13
  go_wp2_with (first
    | (refine wpList_load_row rfl 31 _ rfl w.heap.size rfl 31 _ (0, 0) _ h0'.out Tryd.underlying31 rfl (by rw [h39'.out]; exact hi39'.out) ?_)
    | (go_at_call 41
       refine (rfor_b _ o p hk1.out hk4.out hfor.out).mono ?_
       rintro e w1 ⟨rfl, b1⟩
       have hb1 := Lib.hid (OBlk.below h0'.out b1 (lt_of_block h0'.out))
       have hB1 := Lib.hid (hB'.out.trans (b1.mono hB'.out.size))
       clear b1 c0
       have c0 : w1.cell? ⟨w.heap.size, 0, none⟩ = some (.int .u8 1) := by have := hb1.out.c0; rw [hK.out ()] at this; exact this)
    | (refine wpList_load_row rfl 31 _ rfl w.heap.size rfl 31 _ (0, 0) _ hb1.out Tryd.underlying31 rfl (by rw [h39'.out]; exact hi39'.out) ?_)
    | (go_at_call 42
       refine (kidCount_any _ o p hm'.out.fit hk1.out hk4.out).mono ?_
       rintro e w2 ⟨rfl, b2⟩
       rw [hkn.out ()]
       have hb2 := Lib.hid (OBlk.below hb1.out b2 (lt_of_block hb1.out))
       have hB2 := Lib.hid (hB1.out.trans (b2.mono hB1.out.size))
       clear b2 c0
       have c0 : w2.cell? ⟨w.heap.size, 0, none⟩ = some (.int .u8 1) := by have := hb2.out.c0; rw [hK.out ()] at this; exact this
       have c1 := hb2.out.c1
       rw [hnd.out ()] at c1)
    | (refine wpList_load_row_g rfl 31 _ rfl w.heap.size rfl 31 _ (0, 0) _ hb2.out Tryd.underlying31 rfl (by rw [h39'.out]; exact hi39'.out) ?_)
    | (go_at_call 45
       refine (laid_any _ o p ⟨(hm'.out.oin.below hB2.out).mono hB2.out.size, hm'.out.good, hmb.out, hd8.out⟩).mono ?_
       rintro e w5 ⟨⟨A5, c5, rfl, o5⟩, b5⟩
       rw [hL.out ()]
       have hB5 := Lib.hid (hB2.out.trans (b5.mono hB2.out.size))
       clear b5 o5))
  go_ret
  exact ⟨rfl, hB5.out⟩

set_option maxRecDepth 100000 in
set_option maxHeartbeats 2000000 in
theorem rchk_k1o (w : World) (o : ObjT) (p : Lay) (hm : ChkIn w o p) (hk : o.kind = 1) (hfr : refFor o = false) (hkd : kidsN o ≤ 128) (hd : o.data.length ≤ 8192) (hlen : (layL o).length ≤ 8192) :
    Calls Tryd.prog 13 #[.agg (ocells o p).toArray] w fun e w' => e = .returned (.int .i64 (0)) ∧ Below w.heap.size w w' := by
  have hi39 : (Tryd.prog.info? 31).map (·.size) = some 39 := by kernel_rfl
  have hi39' := Lib.hid hi39
  have h39' := Lib.hid (fun (x : ObjT) (q : Lay) => show (ocells x q).toArray.size = 39 by simp [ocells_length])
  have h0 : OBlk (w.alloc (.cells (ocells o p).toArray 31)) w.heap.size o p := heap_alloc_new w _
  have hB : Below w.heap.size w (w.alloc (.cells (ocells o p).toArray 31)) := (Below.refl _ _).alloc (Nat.le_refl _) _
  have c0 := h0.c0
  have hK := Lib.hid (fun _ : Unit => hk)
  rw [hK.out ()] at c0
  replace c0 : (w.alloc (.cells (ocells o p).toArray 31)).cell? ⟨w.heap.size, 0, none⟩ = some (.int .u8 1) := c0
  have hmb : Hid (MayB o) := Lib.hid (mayB_of (by omega) (by omega) hfr hkd (by simp [kindE, hk]))
  have hk1 : Hid (1 ≤ o.kind) := Lib.hid (by omega)
  have hk4 : Hid (o.kind ≤ 4) := Lib.hid (by omega)
  have hfor := Lib.hid hfr
  have hsm := Lib.hid (kids_small hk1.out hk4.out hfr hkd)
  obtain ⟨KN, hkn⟩ : ∃ n, Hid (∀ _ : Unit, kidsN o = n) := ⟨_, Lib.hid fun _ => rfl⟩
  rw [hkn.out ()] at hkd
  have h3 : (KN : Int) ≤ 128 := by omega
  obtain ⟨nd, hnd⟩ : ∃ n, Hid (∀ _ : Unit, o.data.length = n) := ⟨_, Lib.hid fun _ => rfl⟩
  obtain ⟨np, hnp⟩ : ∃ n, Hid (∀ _ : Unit, o.parts.length = n) := ⟨_, Lib.hid fun _ => rfl⟩
  obtain ⟨ni, hni⟩ : ∃ n, Hid (∀ _ : Unit, o.items.length = n) := ⟨_, Lib.hid fun _ => rfl⟩
  obtain ⟨s, hs⟩ : ∃ s, Hid (∀ _ : Unit, o.note = s) := ⟨_, Lib.hid fun _ => rfl⟩
  have hd8 := Lib.hid hd
  rw [hnd.out ()] at hd
  have hd2 : (nd : Int) ≤ 8192 := by omega
  have hd3 : decide ((8192 : Int) < (nd : Int)) = false := by simp; omega
  obtain ⟨L, hL⟩ : ∃ n, Hid (∀ _ : Unit, (layL o).length = n) := ⟨_, Lib.hid fun _ => rfl⟩
  rw [hL.out ()] at hlen
  have hl2 : (L : Int) ≤ 8192 := by omega
  have hm' := Lib.hid hm
  have h0' := Lib.hid h0
  have hB' := Lib.hid hB
  clear hm h0 hB hi39 hk hfr hkd hd hlen
  go_enter Tryd.func13, Tryd.ntmps13
  go_wp2_with (first
    | (refine wpList_load_row rfl 31 _ rfl w.heap.size rfl 31 _ (0, 0) _ h0'.out Tryd.underlying31 rfl (by rw [h39'.out]; exact hi39'.out) ?_)
    | (go_at_call 41
       refine (rfor_b _ o p hk1.out hk4.out hfor.out).mono ?_
       rintro e w1 ⟨rfl, b1⟩
       have hb1 := Lib.hid (OBlk.below h0'.out b1 (lt_of_block h0'.out))
       have hB1 := Lib.hid (hB'.out.trans (b1.mono hB'.out.size))
       clear b1 c0
       have c0 : w1.cell? ⟨w.heap.size, 0, none⟩ = some (.int .u8 1) := by have := hb1.out.c0; rw [hK.out ()] at this; exact this)
    | (refine wpList_load_row rfl 31 _ rfl w.heap.size rfl 31 _ (0, 0) _ hb1.out Tryd.underlying31 rfl (by rw [h39'.out]; exact hi39'.out) ?_)
    | (go_at_call 42
       refine (kidCount_any _ o p hm'.out.fit hk1.out hk4.out).mono ?_
       rintro e w2 ⟨rfl, b2⟩
       rw [hkn.out ()]
       have hb2 := Lib.hid (OBlk.below hb1.out b2 (lt_of_block hb1.out))
       have hB2 := Lib.hid (hB1.out.trans (b2.mono hB1.out.size))
       clear b2 c0
       have c0 : w2.cell? ⟨w.heap.size, 0, none⟩ = some (.int .u8 1) := by have := hb2.out.c0; rw [hK.out ()] at this; exact this
       have c1 := hb2.out.c1
       rw [hnd.out ()] at c1)
    | (refine wpList_load_row_g rfl 31 _ rfl w.heap.size rfl 31 _ (0, 0) _ hb2.out Tryd.underlying31 rfl (by rw [h39'.out]; exact hi39'.out) ?_)
    | (go_at_call 45
       refine (laid_any _ o p ⟨(hm'.out.oin.below hB2.out).mono hB2.out.size, hm'.out.good, hmb.out, hd8.out⟩).mono ?_
       rintro e w5 ⟨⟨A5, c5, rfl, o5⟩, b5⟩
       rw [hL.out ()]
       have hB5 := Lib.hid (hB2.out.trans (b5.mono hB2.out.size))
       clear b5 o5))
  go_ret
  exact ⟨rfl, hB5.out⟩

set_option maxRecDepth 100000 in
set_option maxHeartbeats 2000000 in
theorem rchk_k2d (w : World) (o : ObjT) (p : Lay) (hm : ChkIn w o p) (hk : o.kind = 2) (hfr : refFor o = false) (hkd : kidsN o ≤ 128) (hpb : partsB 0 o.parts = true) (hd : 8192 < o.data.length) :
    Calls Tryd.prog 13 #[.agg (ocells o p).toArray] w fun e w' => e = .returned (.int .i64 (48)) ∧ Below w.heap.size w w' := by
  have hi39 : (Tryd.prog.info? 31).map (·.size) = some 39 := by kernel_rfl
  have hi39' := Lib.hid hi39
  have h39' := Lib.hid (fun (x : ObjT) (q : Lay) => show (ocells x q).toArray.size = 39 by simp [ocells_length])
  have h0 : OBlk (w.alloc (.cells (ocells o p).toArray 31)) w.heap.size o p := heap_alloc_new w _
  have hB : Below w.heap.size w (w.alloc (.cells (ocells o p).toArray 31)) := (Below.refl _ _).alloc (Nat.le_refl _) _
  have c0 := h0.c0
  have hK := Lib.hid (fun _ : Unit => hk)
  rw [hK.out ()] at c0
  replace c0 : (w.alloc (.cells (ocells o p).toArray 31)).cell? ⟨w.heap.size, 0, none⟩ = some (.int .u8 2) := c0
  have hk1 : Hid (1 ≤ o.kind) := Lib.hid (by omega)
  have hk4 : Hid (o.kind ≤ 4) := Lib.hid (by omega)
  have hfor := Lib.hid hfr
  have hsm := Lib.hid (kids_small hk1.out hk4.out hfr hkd)
  obtain ⟨KN, hkn⟩ : ∃ n, Hid (∀ _ : Unit, kidsN o = n) := ⟨_, Lib.hid fun _ => rfl⟩
  rw [hkn.out ()] at hkd
  have h3 : (KN : Int) ≤ 128 := by omega
  obtain ⟨nd, hnd⟩ : ∃ n, Hid (∀ _ : Unit, o.data.length = n) := ⟨_, Lib.hid fun _ => rfl⟩
  obtain ⟨np, hnp⟩ : ∃ n, Hid (∀ _ : Unit, o.parts.length = n) := ⟨_, Lib.hid fun _ => rfl⟩
  obtain ⟨ni, hni⟩ : ∃ n, Hid (∀ _ : Unit, o.items.length = n) := ⟨_, Lib.hid fun _ => rfl⟩
  obtain ⟨s, hs⟩ : ∃ s, Hid (∀ _ : Unit, o.note = s) := ⟨_, Lib.hid fun _ => rfl⟩
  have hpt : Hid (∀ W : World, Row encP 33 W W.heap.size p.Ap o.parts → Calls Tryd.prog 43 #[.slice p.Ap np p.cp] W fun e w' => e = .returned (.int .i64 0) ∧ Below W.heap.size W w') := Lib.hid fun W hr => by have := refParts_any W o.parts p.Ap np p.cp (hnp.out ()) hr (fun x hx => (hm.good.ps x hx).2) (by have := hsm.out.1; have := hnp.out (); omega); rw [hpb] at this; exact this.mono fun _ _ h => ⟨h.1, h.2 ▸ Below.refl _ _⟩
  rw [hnd.out ()] at hd
  have hd2 : (8192 : Int) < (nd : Int) := by omega
  have hm' := Lib.hid hm
  have h0' := Lib.hid h0
  have hB' := Lib.hid hB
  clear hm h0 hB hi39 hk hfr hkd hpb hd
  go_enter Tryd.func13, Tryd.ntmps13
  go_wp2_with (first
    | (refine wpList_load_row rfl 31 _ rfl w.heap.size rfl 31 _ (0, 0) _ h0'.out Tryd.underlying31 rfl (by rw [h39'.out]; exact hi39'.out) ?_)
    | (go_at_call 41
       refine (rfor_b _ o p hk1.out hk4.out hfor.out).mono ?_
       rintro e w1 ⟨rfl, b1⟩
       have hb1 := Lib.hid (OBlk.below h0'.out b1 (lt_of_block h0'.out))
       have hB1 := Lib.hid (hB'.out.trans (b1.mono hB'.out.size))
       clear b1 c0
       have c0 : w1.cell? ⟨w.heap.size, 0, none⟩ = some (.int .u8 2) := by have := hb1.out.c0; rw [hK.out ()] at this; exact this)
    | (refine wpList_load_row rfl 31 _ rfl w.heap.size rfl 31 _ (0, 0) _ hb1.out Tryd.underlying31 rfl (by rw [h39'.out]; exact hi39'.out) ?_)
    | (go_at_call 42
       refine (kidCount_any _ o p hm'.out.fit hk1.out hk4.out).mono ?_
       rintro e w2 ⟨rfl, b2⟩
       rw [hkn.out ()]
       have hb2 := Lib.hid (OBlk.below hb1.out b2 (lt_of_block hb1.out))
       have hB2 := Lib.hid (hB1.out.trans (b2.mono hB1.out.size))
       clear b2 c0
       have c0 : w2.cell? ⟨w.heap.size, 0, none⟩ = some (.int .u8 2) := by have := hb2.out.c0; rw [hK.out ()] at this; exact this
       have c1 := hb2.out.c1
       rw [hnd.out ()] at c1
       have c2 := hb2.out.c2
       rw [hnp.out ()] at c2)
    | (go_at_call 43
       refine (hpt.out _ ((Rd.below hm'.out.oin.ps hB2.out).mono hB2.out.size)).mono ?_
       rintro e w3 ⟨rfl, b3⟩
       have hb3 := Lib.hid (OBlk.below hb2.out b3 (lt_of_block hb2.out))
       have hB3 := Lib.hid (hB2.out.trans (b3.mono hB2.out.size))
       clear b3 c0 c1 c2
       have c1 := hb3.out.c1
       rw [hnd.out ()] at c1))
  go_ret
  exact ⟨rfl, hB3.out⟩

set_option maxRecDepth 100000 in
set_option maxHeartbeats 2000000 in
theorem rchk_k2l (w : World) (o : ObjT) (p : Lay) (hm : ChkIn w o p) (hk : o.kind = 2) (hfr : refFor o = false) (hkd : kidsN o ≤ 128) (hpb : partsB 0 o.parts = true) (hd : o.data.length ≤ 8192) (hlen : 8192 < (layL o).length) :
    Calls Tryd.prog 13 #[.agg (ocells o p).toArray] w fun e w' => e = .returned (.int .i64 (48)) ∧ Below w.heap.size w w' := by
  have hi39 : (Tryd.prog.info? 31).map (·.size) = some 39 := by kernel_rfl
  have hi39' := Lib.hid hi39
  have h39' := Lib.hid (fun (x : ObjT) (q : Lay) => show (ocells x q).toArray.size = 39 by simp [ocells_length])
  have h0 : OBlk (w.alloc (.cells (ocells o p).toArray 31)) w.heap.size o p := heap_alloc_new w _
  have hB : Below w.heap.size w (w.alloc (.cells (ocells o p).toArray 31)) := (Below.refl _ _).alloc (Nat.le_refl _) _
  have c0 := h0.c0
  have hK := Lib.hid (fun _ : Unit => hk)
  rw [hK.out ()] at c0
  replace c0 : (w.alloc (.cells (ocells o p).toArray 31)).cell? ⟨w.heap.size, 0, none⟩ = some (.int .u8 2) := c0
  have hmb : Hid (MayB o) := Lib.hid (mayB_of (by omega) (by omega) hfr hkd (by simp [kindE, hk, hpb]))
  have hk1 : Hid (1 ≤ o.kind) := Lib.hid (by omega)
  have hk4 : Hid (o.kind ≤ 4) := Lib.hid (by omega)
  have hfor := Lib.hid hfr
  have hsm := Lib.hid (kids_small hk1.out hk4.out hfr hkd)
  obtain ⟨KN, hkn⟩ : ∃ n, Hid (∀ _ : Unit, kidsN o = n) := ⟨_, Lib.hid fun _ => rfl⟩
  rw [hkn.out ()] at hkd
  have h3 : (KN : Int) ≤ 128 := by omega
  obtain ⟨nd, hnd⟩ : ∃ n, Hid (∀ _ : Unit, o.data.length = n) := ⟨_, Lib.hid fun _ => rfl⟩
  obtain ⟨np, hnp⟩ : ∃ n, Hid (∀ _ : Unit, o.parts.length = n) := ⟨_, Lib.hid fun _ => rfl⟩
  obtain ⟨ni, hni⟩ : ∃ n, Hid (∀ _ : Unit, o.items.length = n) := ⟨_, Lib.hid fun _ => rfl⟩
  obtain ⟨s, hs⟩ : ∃ s, Hid (∀ _ : Unit, o.note = s) := ⟨_, Lib.hid fun _ => rfl⟩
  have hpt : Hid (∀ W : World, Row encP 33 W W.heap.size p.Ap o.parts → Calls Tryd.prog 43 #[.slice p.Ap np p.cp] W fun e w' => e = .returned (.int .i64 0) ∧ Below W.heap.size W w') := Lib.hid fun W hr => by have := refParts_any W o.parts p.Ap np p.cp (hnp.out ()) hr (fun x hx => (hm.good.ps x hx).2) (by have := hsm.out.1; have := hnp.out (); omega); rw [hpb] at this; exact this.mono fun _ _ h => ⟨h.1, h.2 ▸ Below.refl _ _⟩
  have hd8 := Lib.hid hd
  rw [hnd.out ()] at hd
  have hd2 : (nd : Int) ≤ 8192 := by omega
  have hd3 : decide ((8192 : Int) < (nd : Int)) = false := by simp; omega
  obtain ⟨L, hL⟩ : ∃ n, Hid (∀ _ : Unit, (layL o).length = n) := ⟨_, Lib.hid fun _ => rfl⟩
  rw [hL.out ()] at hlen
  have hl2 : (8192 : Int) < (L : Int) := by omega
  have hm' := Lib.hid hm
  have h0' := Lib.hid h0
  have hB' := Lib.hid hB
  clear hm h0 hB hi39 hk hfr hkd hpb hd hlen
  go_enter Tryd.func13, Tryd.ntmps13
  go_wp2_with (first
    | (refine wpList_load_row rfl 31 _ rfl w.heap.size rfl 31 _ (0, 0) _ h0'.out Tryd.underlying31 rfl (by rw [h39'.out]; exact hi39'.out) ?_)
    | (go_at_call 41
       refine (rfor_b _ o p hk1.out hk4.out hfor.out).mono ?_
       rintro e w1 ⟨rfl, b1⟩
       have hb1 := Lib.hid (OBlk.below h0'.out b1 (lt_of_block h0'.out))
       have hB1 := Lib.hid (hB'.out.trans (b1.mono hB'.out.size))
       clear b1 c0
       have c0 : w1.cell? ⟨w.heap.size, 0, none⟩ = some (.int .u8 2) := by have := hb1.out.c0; rw [hK.out ()] at this; exact this)
    | (refine wpList_load_row rfl 31 _ rfl w.heap.size rfl 31 _ (0, 0) _ hb1.out Tryd.underlying31 rfl (by rw [h39'.out]; exact hi39'.out) ?_)
    | (go_at_call 42
       refine (kidCount_any _ o p hm'.out.fit hk1.out hk4.out).mono ?_
       rintro e w2 ⟨rfl, b2⟩
       rw [hkn.out ()]
       have hb2 := Lib.hid (OBlk.below hb1.out b2 (lt_of_block hb1.out))
       have hB2 := Lib.hid (hB1.out.trans (b2.mono hB1.out.size))
       clear b2 c0
       have c0 : w2.cell? ⟨w.heap.size, 0, none⟩ = some (.int .u8 2) := by have := hb2.out.c0; rw [hK.out ()] at this; exact this
       have c1 := hb2.out.c1
       rw [hnd.out ()] at c1
       have c2 := hb2.out.c2
       rw [hnp.out ()] at c2)
    | (go_at_call 43
       refine (hpt.out _ ((Rd.below hm'.out.oin.ps hB2.out).mono hB2.out.size)).mono ?_
       rintro e w3 ⟨rfl, b3⟩
       have hb3 := Lib.hid (OBlk.below hb2.out b3 (lt_of_block hb2.out))
       have hB3 := Lib.hid (hB2.out.trans (b3.mono hB2.out.size))
       clear b3 c0 c1 c2
       have c1 := hb3.out.c1
       rw [hnd.out ()] at c1)
    | (refine wpList_load_row_g rfl 31 _ rfl w.heap.size rfl 31 _ (0, 0) _ hb3.out Tryd.underlying31 rfl (by rw [h39'.out]; exact hi39'.out) ?_)
    | (go_at_call 45
       refine (laid_any _ o p ⟨(hm'.out.oin.below hB3.out).mono hB3.out.size, hm'.out.good, hmb.out, hd8.out⟩).mono ?_
       rintro e w5 ⟨⟨A5, c5, rfl, o5⟩, b5⟩
       rw [hL.out ()]
       have hB5 := Lib.hid (hB3.out.trans (b5.mono hB3.out.size))
       clear b5 o5))
  go_ret
  exact ⟨rfl, hB5.out⟩

set_option maxRecDepth 100000 in
set_option maxHeartbeats 2000000 in
theorem rchk_k2o (w : World) (o : ObjT) (p : Lay) (hm : ChkIn w o p) (hk : o.kind = 2) (hfr : refFor o = false) (hkd : kidsN o ≤ 128) (hpb : partsB 0 o.parts = true) (hd : o.data.length ≤ 8192) (hlen : (layL o).length ≤ 8192) :
    Calls Tryd.prog 13 #[.agg (ocells o p).toArray] w fun e w' => e = .returned (.int .i64 (0)) ∧ Below w.heap.size w w' := by
  have hi39 : (Tryd.prog.info? 31).map (·.size) = some 39 := by kernel_rfl
  have hi39' := Lib.hid hi39
  have h39' := Lib.hid (fun (x : ObjT) (q : Lay) => show (ocells x q).toArray.size = 39 by simp [ocells_length])
  have h0 : OBlk (w.alloc (.cells (ocells o p).toArray 31)) w.heap.size o p := heap_alloc_new w _
  have hB : Below w.heap.size w (w.alloc (.cells (ocells o p).toArray 31)) := (Below.refl _ _).alloc (Nat.le_refl _) _
  have c0 := h0.c0
  have hK := Lib.hid (fun _ : Unit => hk)
  rw [hK.out ()] at c0
  replace c0 : (w.alloc (.cells (ocells o p).toArray 31)).cell? ⟨w.heap.size, 0, none⟩ = some (.int .u8 2) := c0
  have hmb : Hid (MayB o) := Lib.hid (mayB_of (by omega) (by omega) hfr hkd (by simp [kindE, hk, hpb]))
  have hk1 : Hid (1 ≤ o.kind) := Lib.hid (by omega)
  have hk4 : Hid (o.kind ≤ 4) := Lib.hid (by omega)
  have hfor := Lib.hid hfr
  have hsm := Lib.hid (kids_small hk1.out hk4.out hfr hkd)
  obtain ⟨KN, hkn⟩ : ∃ n, Hid (∀ _ : Unit, kidsN o = n) := ⟨_, Lib.hid fun _ => rfl⟩
  rw [hkn.out ()] at hkd
  have h3 : (KN : Int) ≤ 128 := by omega
  obtain ⟨nd, hnd⟩ : ∃ n, Hid (∀ _ : Unit, o.data.length = n) := ⟨_, Lib.hid fun _ => rfl⟩
  obtain ⟨np, hnp⟩ : ∃ n, Hid (∀ _ : Unit, o.parts.length = n) := ⟨_, Lib.hid fun _ => rfl⟩
  obtain ⟨ni, hni⟩ : ∃ n, Hid (∀ _ : Unit, o.items.length = n) := ⟨_, Lib.hid fun _ => rfl⟩
  obtain ⟨s, hs⟩ : ∃ s, Hid (∀ _ : Unit, o.note = s) := ⟨_, Lib.hid fun _ => rfl⟩
  have hpt : Hid (∀ W : World, Row encP 33 W W.heap.size p.Ap o.parts → Calls Tryd.prog 43 #[.slice p.Ap np p.cp] W fun e w' => e = .returned (.int .i64 0) ∧ Below W.heap.size W w') := Lib.hid fun W hr => by have := refParts_any W o.parts p.Ap np p.cp (hnp.out ()) hr (fun x hx => (hm.good.ps x hx).2) (by have := hsm.out.1; have := hnp.out (); omega); rw [hpb] at this; exact this.mono fun _ _ h => ⟨h.1, h.2 ▸ Below.refl _ _⟩
  have hd8 := Lib.hid hd
  rw [hnd.out ()] at hd
  have hd2 : (nd : Int) ≤ 8192 := by omega
  have hd3 : decide ((8192 : Int) < (nd : Int)) = false := by simp; omega
  obtain ⟨L, hL⟩ : ∃ n, Hid (∀ _ : Unit, (layL o).length = n) := ⟨_, Lib.hid fun _ => rfl⟩
  rw [hL.out ()] at hlen
  have hl2 : (L : Int) ≤ 8192 := by omega
  have hm' := Lib.hid hm
  have h0' := Lib.hid h0
  have hB' := Lib.hid hB
  clear hm h0 hB hi39 hk hfr hkd hpb hd hlen
  go_enter Tryd.func13, Tryd.ntmps13
  go_wp2_with (first
    | (refine wpList_load_row rfl 31 _ rfl w.heap.size rfl 31 _ (0, 0) _ h0'.out Tryd.underlying31 rfl (by rw [h39'.out]; exact hi39'.out) ?_)
    | (go_at_call 41
       refine (rfor_b _ o p hk1.out hk4.out hfor.out).mono ?_
       rintro e w1 ⟨rfl, b1⟩
       have hb1 := Lib.hid (OBlk.below h0'.out b1 (lt_of_block h0'.out))
       have hB1 := Lib.hid (hB'.out.trans (b1.mono hB'.out.size))
       clear b1 c0
       have c0 : w1.cell? ⟨w.heap.size, 0, none⟩ = some (.int .u8 2) := by have := hb1.out.c0; rw [hK.out ()] at this; exact this)
    | (refine wpList_load_row rfl 31 _ rfl w.heap.size rfl 31 _ (0, 0) _ hb1.out Tryd.underlying31 rfl (by rw [h39'.out]; exact hi39'.out) ?_)
    | (go_at_call 42
       refine (kidCount_any _ o p hm'.out.fit hk1.out hk4.out).mono ?_
       rintro e w2 ⟨rfl, b2⟩
       rw [hkn.out ()]
       have hb2 := Lib.hid (OBlk.below hb1.out b2 (lt_of_block hb1.out))
       have hB2 := Lib.hid (hB1.out.trans (b2.mono hB1.out.size))
       clear b2 c0
       have c0 : w2.cell? ⟨w.heap.size, 0, none⟩ = some (.int .u8 2) := by have := hb2.out.c0; rw [hK.out ()] at this; exact this
       have c1 := hb2.out.c1
       rw [hnd.out ()] at c1
       have c2 := hb2.out.c2
       rw [hnp.out ()] at c2)
    | (go_at_call 43
       refine (hpt.out _ ((Rd.below hm'.out.oin.ps hB2.out).mono hB2.out.size)).mono ?_
       rintro e w3 ⟨rfl, b3⟩
       have hb3 := Lib.hid (OBlk.below hb2.out b3 (lt_of_block hb2.out))
       have hB3 := Lib.hid (hB2.out.trans (b3.mono hB2.out.size))
       clear b3 c0 c1 c2
       have c1 := hb3.out.c1
       rw [hnd.out ()] at c1)
    | (refine wpList_load_row_g rfl 31 _ rfl w.heap.size rfl 31 _ (0, 0) _ hb3.out Tryd.underlying31 rfl (by rw [h39'.out]; exact hi39'.out) ?_)
    | (go_at_call 45
       refine (laid_any _ o p ⟨(hm'.out.oin.below hB3.out).mono hB3.out.size, hm'.out.good, hmb.out, hd8.out⟩).mono ?_
       rintro e w5 ⟨⟨A5, c5, rfl, o5⟩, b5⟩
       rw [hL.out ()]
       have hB5 := Lib.hid (hB3.out.trans (b5.mono hB3.out.size))
       clear b5 o5))
  go_ret
  exact ⟨rfl, hB5.out⟩

set_option maxRecDepth 100000 in
set_option maxHeartbeats 2000000 in
theorem rchk_k3d (w : World) (o : ObjT) (p : Lay) (hm : ChkIn w o p) (hk : o.kind = 3) (hfr : refFor o = false) (hkd : kidsN o ≤ 128) (hie : itemsE none o.items = 0) (hd : 8192 < o.data.length) :
    Calls Tryd.prog 13 #[.agg (ocells o p).toArray] w fun e w' => e = .returned (.int .i64 (48)) ∧ Below w.heap.size w w' := by
  have hi39 : (Tryd.prog.info? 31).map (·.size) = some 39 := by kernel_rfl
  have hi39' := Lib.hid hi39
  have h39' := Lib.hid (fun (x : ObjT) (q : Lay) => show (ocells x q).toArray.size = 39 by simp [ocells_length])
  have h0 : OBlk (w.alloc (.cells (ocells o p).toArray 31)) w.heap.size o p := heap_alloc_new w _
  have hB : Below w.heap.size w (w.alloc (.cells (ocells o p).toArray 31)) := (Below.refl _ _).alloc (Nat.le_refl _) _
  have c0 := h0.c0
  have hK := Lib.hid (fun _ : Unit => hk)
  rw [hK.out ()] at c0
  replace c0 : (w.alloc (.cells (ocells o p).toArray 31)).cell? ⟨w.heap.size, 0, none⟩ = some (.int .u8 3) := c0
  have hk1 : Hid (1 ≤ o.kind) := Lib.hid (by omega)
  have hk4 : Hid (o.kind ≤ 4) := Lib.hid (by omega)
  have hfor := Lib.hid hfr
  have hsm := Lib.hid (kids_small hk1.out hk4.out hfr hkd)
  obtain ⟨KN, hkn⟩ : ∃ n, Hid (∀ _ : Unit, kidsN o = n) := ⟨_, Lib.hid fun _ => rfl⟩
  rw [hkn.out ()] at hkd
  have h3 : (KN : Int) ≤ 128 := by omega
  obtain ⟨nd, hnd⟩ : ∃ n, Hid (∀ _ : Unit, o.data.length = n) := ⟨_, Lib.hid fun _ => rfl⟩
  obtain ⟨np, hnp⟩ : ∃ n, Hid (∀ _ : Unit, o.parts.length = n) := ⟨_, Lib.hid fun _ => rfl⟩
  obtain ⟨ni, hni⟩ : ∃ n, Hid (∀ _ : Unit, o.items.length = n) := ⟨_, Lib.hid fun _ => rfl⟩
  obtain ⟨s, hs⟩ : ∃ s, Hid (∀ _ : Unit, o.note = s) := ⟨_, Lib.hid fun _ => rfl⟩
  have hit : Hid (∀ W : World, Row encI 35 W W.heap.size p.Ai o.items → Calls Tryd.prog 44 #[.slice p.Ai ni p.ci] W fun e w' => e = .returned (.int .i64 0) ∧ Below W.heap.size W w') := Lib.hid fun W hr => by have := refItems_any W o.items p.Ai ni p.ci (hni.out ()) hr (by have := hsm.out.2; have := hni.out (); omega); rw [hie] at this; exact this
  rw [hnd.out ()] at hd
  have hd2 : (8192 : Int) < (nd : Int) := by omega
  have hm' := Lib.hid hm
  have h0' := Lib.hid h0
  have hB' := Lib.hid hB
  clear hm h0 hB hi39 hk hfr hkd hie hd
  go_enter Tryd.func13, Tryd.ntmps13
  go_wp2_with (first
    | (refine wpList_load_row rfl 31 _ rfl w.heap.size rfl 31 _ (0, 0) _ h0'.out Tryd.underlying31 rfl (by rw [h39'.out]; exact hi39'.out) ?_)
    | (go_at_call 41
       refine (rfor_b _ o p hk1.out hk4.out hfor.out).mono ?_
       rintro e w1 ⟨rfl, b1⟩
       have hb1 := Lib.hid (OBlk.below h0'.out b1 (lt_of_block h0'.out))
       have hB1 := Lib.hid (hB'.out.trans (b1.mono hB'.out.size))
       clear b1 c0
       have c0 : w1.cell? ⟨w.heap.size, 0, none⟩ = some (.int .u8 3) := by have := hb1.out.c0; rw [hK.out ()] at this; exact this)
    | (refine wpList_load_row rfl 31 _ rfl w.heap.size rfl 31 _ (0, 0) _ hb1.out Tryd.underlying31 rfl (by rw [h39'.out]; exact hi39'.out) ?_)
    | (go_at_call 42
       refine (kidCount_any _ o p hm'.out.fit hk1.out hk4.out).mono ?_
       rintro e w2 ⟨rfl, b2⟩
       rw [hkn.out ()]
       have hb2 := Lib.hid (OBlk.below hb1.out b2 (lt_of_block hb1.out))
       have hB2 := Lib.hid (hB1.out.trans (b2.mono hB1.out.size))
       clear b2 c0
       have c0 : w2.cell? ⟨w.heap.size, 0, none⟩ = some (.int .u8 3) := by have := hb2.out.c0; rw [hK.out ()] at this; exact this
       have c1 := hb2.out.c1
       rw [hnd.out ()] at c1
       have c3 := hb2.out.c3
       rw [hni.out ()] at c3)
    | (go_at_call 44
       refine (hit.out _ ((Rd.below hm'.out.oin.xs hB2.out).mono hB2.out.size)).mono ?_
       rintro e w3 ⟨rfl, b3⟩
       have hb3 := Lib.hid (OBlk.below hb2.out b3 (lt_of_block hb2.out))
       have hB3 := Lib.hid (hB2.out.trans (b3.mono hB2.out.size))
       clear b3 c0 c1 c3
       have c1 := hb3.out.c1
       rw [hnd.out ()] at c1))
  go_ret
  exact ⟨rfl, hB3.out⟩

set_option maxRecDepth 100000 in
set_option maxHeartbeats 2000000 in
theorem rchk_k3l (w : World) (o : ObjT) (p : Lay) (hm : ChkIn w o p) (hk : o.kind = 3) (hfr : refFor o = false) (hkd : kidsN o ≤ 128) (hie : itemsE none o.items = 0) (hd : o.data.length ≤ 8192) (hlen : 8192 < (layL o).length) :
    Calls Tryd.prog 13 #[.agg (ocells o p).toArray] w fun e w' => e = .returned (.int .i64 (48)) ∧ Below w.heap.size w w' := by
  have hi39 : (Tryd.prog.info? 31).map (·.size) = some 39 := by kernel_rfl
  have hi39' := Lib.hid hi39
  have h39' := Lib.hid (fun (x : ObjT) (q : Lay) => show (ocells x q).toArray.size = 39 by simp [ocells_length])
  have h0 : OBlk (w.alloc (.cells (ocells o p).toArray 31)) w.heap.size o p := heap_alloc_new w _
  have hB : Below w.heap.size w (w.alloc (.cells (ocells o p).toArray 31)) := (Below.refl _ _).alloc (Nat.le_refl _) _
  have c0 := h0.c0
  have hK := Lib.hid (fun _ : Unit => hk)
  rw [hK.out ()] at c0
  replace c0 : (w.alloc (.cells (ocells o p).toArray 31)).cell? ⟨w.heap.size, 0, none⟩ = some (.int .u8 3) := c0
  have hmb : Hid (MayB o) := Lib.hid (mayB_of (by omega) (by omega) hfr hkd (by simp [kindE, hk, hie]))
  have hk1 : Hid (1 ≤ o.kind) := Lib.hid (by omega)
  have hk4 : Hid (o.kind ≤ 4) := Lib.hid (by omega)
  have hfor := Lib.hid hfr
  have hsm := Lib.hid (kids_small hk1.out hk4.out hfr hkd)
  obtain ⟨KN, hkn⟩ : ∃ n, Hid (∀ _ : Unit, kidsN o = n) := ⟨_, Lib.hid fun _ => rfl⟩
  rw [hkn.out ()] at hkd
  have h3 : (KN : Int) ≤ 128 := by omega
  obtain ⟨nd, hnd⟩ : ∃ n, Hid (∀ _ : Unit, o.data.length = n) := ⟨_, Lib.hid fun _ => rfl⟩
  obtain ⟨np, hnp⟩ : ∃ n, Hid (∀ _ : Unit, o.parts.length = n) := ⟨_, Lib.hid fun _ => rfl⟩
  obtain ⟨ni, hni⟩ : ∃ n, Hid (∀ _ : Unit, o.items.length = n) := ⟨_, Lib.hid fun _ => rfl⟩
  obtain ⟨s, hs⟩ : ∃ s, Hid (∀ _ : Unit, o.note = s) := ⟨_, Lib.hid fun _ => rfl⟩
  have hit : Hid (∀ W : World, Row encI 35 W W.heap.size p.Ai o.items → Calls Tryd.prog 44 #[.slice p.Ai ni p.ci] W fun e w' => e = .returned (.int .i64 0) ∧ Below W.heap.size W w') := Lib.hid fun W hr => by have := refItems_any W o.items p.Ai ni p.ci (hni.out ()) hr (by have := hsm.out.2; have := hni.out (); omega); rw [hie] at this; exact this
  have hd8 := Lib.hid hd
  rw [hnd.out ()] at hd
  have hd2 : (nd : Int) ≤ 8192 := by omega
  have hd3 : decide ((8192 : Int) < (nd : Int)) = false := by simp; omega
  obtain ⟨L, hL⟩ : ∃ n, Hid (∀ _ : Unit, (layL o).length = n) := ⟨_, Lib.hid fun _ => rfl⟩
  rw [hL.out ()] at hlen
  have hl2 : (8192 : Int) < (L : Int) := by omega
  have hm' := Lib.hid hm
  have h0' := Lib.hid h0
  have hB' := Lib.hid hB
  clear hm h0 hB hi39 hk hfr hkd hie hd hlen
  go_enter Tryd.func13, Tryd.ntmps13
  go_wp2_with (first
    | (refine wpList_load_row rfl 31 _ rfl w.heap.size rfl 31 _ (0, 0) _ h0'.out Tryd.underlying31 rfl (by rw [h39'.out]; exact hi39'.out) ?_)
    | (go_at_call 41
       refine (rfor_b _ o p hk1.out hk4.out hfor.out).mono ?_
       rintro e w1 ⟨rfl, b1⟩
       have hb1 := Lib.hid (OBlk.below h0'.out b1 (lt_of_block h0'.out))
       have hB1 := Lib.hid (hB'.out.trans (b1.mono hB'.out.size))
       clear b1 c0
       have c0 : w1.cell? ⟨w.heap.size, 0, none⟩ = some (.int .u8 3) := by have := hb1.out.c0; rw [hK.out ()] at this; exact this)
    | (refine wpList_load_row rfl 31 _ rfl w.heap.size rfl 31 _ (0, 0) _ hb1.out Tryd.underlying31 rfl (by rw [h39'.out]; exact hi39'.out) ?_)
    | (go_at_call 42
       refine (kidCount_any _ o p hm'.out.fit hk1.out hk4.out).mono ?_
       rintro e w2 ⟨rfl, b2⟩
       rw [hkn.out ()]
       have hb2 := Lib.hid (OBlk.below hb1.out b2 (lt_of_block hb1.out))
       have hB2 := Lib.hid (hB1.out.trans (b2.mono hB1.out.size))
       clear b2 c0
       have c0 : w2.cell? ⟨w.heap.size, 0, none⟩ = some (.int .u8 3) := by have := hb2.out.c0; rw [hK.out ()] at this; exact this
       have c1 := hb2.out.c1
       rw [hnd.out ()] at c1
       have c3 := hb2.out.c3
       rw [hni.out ()] at c3)
    | (go_at_call 44
       refine (hit.out _ ((Rd.below hm'.out.oin.xs hB2.out).mono hB2.out.size)).mono ?_
       rintro e w3 ⟨rfl, b3⟩
       have hb3 := Lib.hid (OBlk.below hb2.out b3 (lt_of_block hb2.out))
       have hB3 := Lib.hid (hB2.out.trans (b3.mono hB2.out.size))
       clear b3 c0 c1 c3
       have c1 := hb3.out.c1
       rw [hnd.out ()] at c1)
    | (refine wpList_load_row_g rfl 31 _ rfl w.heap.size rfl 31 _ (0, 0) _ hb3.out Tryd.underlying31 rfl (by rw [h39'.out]; exact hi39'.out) ?_)
    | (go_at_call 45
       refine (laid_any _ o p ⟨(hm'.out.oin.below hB3.out).mono hB3.out.size, hm'.out.good, hmb.out, hd8.out⟩).mono ?_
       rintro e w5 ⟨⟨A5, c5, rfl, o5⟩, b5⟩
       rw [hL.out ()]
       have hB5 := Lib.hid (hB3.out.trans (b5.mono hB3.out.size))
       clear b5 o5))
  go_ret
  exact ⟨rfl, hB5.out⟩

set_option maxRecDepth 100000 in
set_option maxHeartbeats 2000000 in
theorem rchk_k3o (w : World) (o : ObjT) (p : Lay) (hm : ChkIn w o p) (hk : o.kind = 3) (hfr : refFor o = false) (hkd : kidsN o ≤ 128) (hie : itemsE none o.items = 0) (hd : o.data.length ≤ 8192) (hlen : (layL o).length ≤ 8192) :
    Calls Tryd.prog 13 #[.agg (ocells o p).toArray] w fun e w' => e = .returned (.int .i64 (0)) ∧ Below w.heap.size w w' := by
  have hi39 : (Tryd.prog.info? 31).map (·.size) = some 39 := by kernel_rfl
  have hi39' := Lib.hid hi39
  have h39' := Lib.hid (fun (x : ObjT) (q : Lay) => show (ocells x q).toArray.size = 39 by simp [ocells_length])
  have h0 : OBlk (w.alloc (.cells (ocells o p).toArray 31)) w.heap.size o p := heap_alloc_new w _
  have hB : Below w.heap.size w (w.alloc (.cells (ocells o p).toArray 31)) := (Below.refl _ _).alloc (Nat.le_refl _) _
  have c0 := h0.c0
  have hK := Lib.hid (fun _ : Unit => hk)
  rw [hK.out ()] at c0
  replace c0 : (w.alloc (.cells (ocells o p).toArray 31)).cell? ⟨w.heap.size, 0, none⟩ = some (.int .u8 3) := c0
  have hmb : Hid (MayB o) := Lib.hid (mayB_of (by omega) (by omega) hfr hkd (by simp [kindE, hk, hie]))
  have hk1 : Hid (1 ≤ o.kind) := Lib.hid (by omega)
  have hk4 : Hid (o.kind ≤ 4) := Lib.hid (by omega)
  have hfor := Lib.hid hfr
  have hsm := Lib.hid (kids_small hk1.out hk4.out hfr hkd)
  obtain ⟨KN, hkn⟩ : ∃ n, Hid (∀ _ : Unit, kidsN o = n) := ⟨_, Lib.hid fun _ => rfl⟩
  rw [hkn.out ()] at hkd
  have h3 : (KN : Int) ≤ 128 := by omega
  obtain ⟨nd, hnd⟩ : ∃ n, Hid (∀ _ : Unit, o.data.length = n) := ⟨_, Lib.hid fun _ => rfl⟩
  obtain ⟨np, hnp⟩ : ∃ n, Hid (∀ _ : Unit, o.parts.length = n) := ⟨_, Lib.hid fun _ => rfl⟩
  obtain ⟨ni, hni⟩ : ∃ n, Hid (∀ _ : Unit, o.items.length = n) := ⟨_, Lib.hid fun _ => rfl⟩
  obtain ⟨s, hs⟩ : ∃ s, Hid (∀ _ : Unit, o.note = s) := ⟨_, Lib.hid fun _ => rfl⟩
  have hit : Hid (∀ W : World, Row encI 35 W W.heap.size p.Ai o.items → Calls Tryd.prog 44 #[.slice p.Ai ni p.ci] W fun e w' => e = .returned (.int .i64 0) ∧ Below W.heap.size W w') := Lib.hid fun W hr => by have := refItems_any W o.items p.Ai ni p.ci (hni.out ()) hr (by have := hsm.out.2; have := hni.out (); omega); rw [hie] at this; exact this
  have hd8 := Lib.hid hd
  rw [hnd.out ()] at hd
  have hd2 : (nd : Int) ≤ 8192 := by omega
  have hd3 : decide ((8192 : Int) < (nd : Int)) = false := by simp; omega
  obtain ⟨L, hL⟩ : ∃ n, Hid (∀ _ : Unit, (layL o).length = n) := ⟨_, Lib.hid fun _ => rfl⟩
  rw [hL.out ()] at hlen
  have hl2 : (L : Int) ≤ 8192 := by omega
  have hm' := Lib.hid hm
  have h0' := Lib.hid h0
  have hB' := Lib.hid hB
  clear hm h0 hB hi39 hk hfr hkd hie hd hlen
  go_enter Tryd.func13, Tryd.ntmps13
  go_wp2_with (first
    | (refine wpList_load_row rfl 31 _ rfl w.heap.size rfl 31 _ (0, 0) _ h0'.out Tryd.underlying31 rfl (by rw [h39'.out]; exact hi39'.out) ?_)
    | (go_at_call 41
       refine (rfor_b _ o p hk1.out hk4.out hfor.out).mono ?_
       rintro e w1 ⟨rfl, b1⟩
       have hb1 := Lib.hid (OBlk.below h0'.out b1 (lt_of_block h0'.out))
       have hB1 := Lib.hid (hB'.out.trans (b1.mono hB'.out.size))
       clear b1 c0
       have c0 : w1.cell? ⟨w.heap.size, 0, none⟩ = some (.int .u8 3) := by have := hb1.out.c0; rw [hK.out ()] at this; exact this)
    | (refine wpList_load_row rfl 31 _ rfl w.heap.size rfl 31 _ (0, 0) _ hb1.out Tryd.underlying31 rfl (by rw [h39'.out]; exact hi39'.out) ?_)
    | (go_at_call 42
       refine (kidCount_any _ o p hm'.out.fit hk1.out hk4.out).mono ?_
       rintro e w2 ⟨rfl, b2⟩
       rw [hkn.out ()]
       have hb2 := Lib.hid (OBlk.below hb1.out b2 (lt_of_block hb1.out))
       have hB2 := Lib.hid (hB1.out.trans (b2.mono hB1.out.size))
       clear b2 c0
       have c0 : w2.cell? ⟨w.heap.size, 0, none⟩ = some (.int .u8 3) := by have := hb2.out.c0; rw [hK.out ()] at this; exact this
       have c1 := hb2.out.c1
       rw [hnd.out ()] at c1
       have c3 := hb2.out.c3
       rw [hni.out ()] at c3)
    | (go_at_call 44
       refine (hit.out _ ((Rd.below hm'.out.oin.xs hB2.out).mono hB2.out.size)).mono ?_
       rintro e w3 ⟨rfl, b3⟩
       have hb3 := Lib.hid (OBlk.below hb2.out b3 (lt_of_block hb2.out))
       have hB3 := Lib.hid (hB2.out.trans (b3.mono hB2.out.size))
       clear b3 c0 c1 c3
       have c1 := hb3.out.c1
       rw [hnd.out ()] at c1)
    | (refine wpList_load_row_g rfl 31 _ rfl w.heap.size rfl 31 _ (0, 0) _ hb3.out Tryd.underlying31 rfl (by rw [h39'.out]; exact hi39'.out) ?_)
    | (go_at_call 45
       refine (laid_any _ o p ⟨(hm'.out.oin.below hB3.out).mono hB3.out.size, hm'.out.good, hmb.out, hd8.out⟩).mono ?_
       rintro e w5 ⟨⟨A5, c5, rfl, o5⟩, b5⟩
       rw [hL.out ()]
       have hB5 := Lib.hid (hB3.out.trans (b5.mono hB3.out.size))
       clear b5 o5))
  go_ret
  exact ⟨rfl, hB5.out⟩

set_option maxRecDepth 100000 in
set_option maxHeartbeats 2000000 in
theorem rchk_k4d (w : World) (o : ObjT) (p : Lay) (hm : ChkIn w o p) (hk : o.kind = 4) (hfr : refFor o = false) (hkd : kidsN o ≤ 128) (hn : o.note.size ≤ 1024) (hl : lettersD o.note o.note.size 0 = true) (hd : 8192 < o.data.length) :
    Calls Tryd.prog 13 #[.agg (ocells o p).toArray] w fun e w' => e = .returned (.int .i64 (48)) ∧ Below w.heap.size w w' := by
  have hi39 : (Tryd.prog.info? 31).map (·.size) = some 39 := by kernel_rfl
  have hi39' := Lib.hid hi39
  have h39' := Lib.hid (fun (x : ObjT) (q : Lay) => show (ocells x q).toArray.size = 39 by simp [ocells_length])
  have h0 : OBlk (w.alloc (.cells (ocells o p).toArray 31)) w.heap.size o p := heap_alloc_new w _
  have hB : Below w.heap.size w (w.alloc (.cells (ocells o p).toArray 31)) := (Below.refl _ _).alloc (Nat.le_refl _) _
  have c0 := h0.c0
  have hK := Lib.hid (fun _ : Unit => hk)
  rw [hK.out ()] at c0
  replace c0 : (w.alloc (.cells (ocells o p).toArray 31)).cell? ⟨w.heap.size, 0, none⟩ = some (.int .u8 4) := c0
  have hk1 : Hid (1 ≤ o.kind) := Lib.hid (by omega)
  have hk4 : Hid (o.kind ≤ 4) := Lib.hid (by omega)
  have hfor := Lib.hid hfr
  have hsm := Lib.hid (kids_small hk1.out hk4.out hfr hkd)
  obtain ⟨KN, hkn⟩ : ∃ n, Hid (∀ _ : Unit, kidsN o = n) := ⟨_, Lib.hid fun _ => rfl⟩
  rw [hkn.out ()] at hkd
  have h3 : (KN : Int) ≤ 128 := by omega
  obtain ⟨nd, hnd⟩ : ∃ n, Hid (∀ _ : Unit, o.data.length = n) := ⟨_, Lib.hid fun _ => rfl⟩
  obtain ⟨np, hnp⟩ : ∃ n, Hid (∀ _ : Unit, o.parts.length = n) := ⟨_, Lib.hid fun _ => rfl⟩
  obtain ⟨ni, hni⟩ : ∃ n, Hid (∀ _ : Unit, o.items.length = n) := ⟨_, Lib.hid fun _ => rfl⟩
  obtain ⟨s, hs⟩ : ∃ s, Hid (∀ _ : Unit, o.note = s) := ⟨_, Lib.hid fun _ => rfl⟩
  have hlt : Hid (∀ W : World, Calls Tryd.prog 31 #[.string s] W fun e w' => e = .returned (.bool true) ∧ W = w') := Lib.hid fun W => by have := letters_any s (by rw [hs.out ()] at hn; omega) W; rw [hs.out ()] at hl; rwa [hl] at this
  rw [hs.out ()] at hn
  have hn2 : (s.size : Int) ≤ 1024 := by omega
  rw [hnd.out ()] at hd
  have hd2 : (8192 : Int) < (nd : Int) := by omega
  have hm' := Lib.hid hm
  have h0' := Lib.hid h0
  have hB' := Lib.hid hB
  clear hm h0 hB hi39 hk hfr hkd hn hl hd
  go_enter Tryd.func13, Tryd.ntmps13
  go_wp2_with (first
    | (refine wpList_load_row rfl 31 _ rfl w.heap.size rfl 31 _ (0, 0) _ h0'.out Tryd.underlying31 rfl (by rw [h39'.out]; exact hi39'.out) ?_)
    | (go_at_call 41
       refine (rfor_b _ o p hk1.out hk4.out hfor.out).mono ?_
       rintro e w1 ⟨rfl, b1⟩
       have hb1 := Lib.hid (OBlk.below h0'.out b1 (lt_of_block h0'.out))
       have hB1 := Lib.hid (hB'.out.trans (b1.mono hB'.out.size))
       clear b1 c0
       have c0 : w1.cell? ⟨w.heap.size, 0, none⟩ = some (.int .u8 4) := by have := hb1.out.c0; rw [hK.out ()] at this; exact this)
    | (refine wpList_load_row rfl 31 _ rfl w.heap.size rfl 31 _ (0, 0) _ hb1.out Tryd.underlying31 rfl (by rw [h39'.out]; exact hi39'.out) ?_)
    | (go_at_call 42
       refine (kidCount_any _ o p hm'.out.fit hk1.out hk4.out).mono ?_
       rintro e w2 ⟨rfl, b2⟩
       rw [hkn.out ()]
       have hb2 := Lib.hid (OBlk.below hb1.out b2 (lt_of_block hb1.out))
       have hB2 := Lib.hid (hB1.out.trans (b2.mono hB1.out.size))
       clear b2 c0
       have c0 : w2.cell? ⟨w.heap.size, 0, none⟩ = some (.int .u8 4) := by have := hb2.out.c0; rw [hK.out ()] at this; exact this
       have c1 := hb2.out.c1
       rw [hnd.out ()] at c1
       have c4 := hb2.out.c38
       rw [hs.out ()] at c4)
    | (go_at_call 31
       refine (hlt.out _).mono ?_
       rintro e w' ⟨rfl, rfl⟩))
  go_ret
  exact ⟨rfl, hB2.out⟩

set_option maxRecDepth 100000 in
set_option maxHeartbeats 2000000 in
theorem rchk_k4l (w : World) (o : ObjT) (p : Lay) (hm : ChkIn w o p) (hk : o.kind = 4) (hfr : refFor o = false) (hkd : kidsN o ≤ 128) (hn : o.note.size ≤ 1024) (hl : lettersD o.note o.note.size 0 = true) (hd : o.data.length ≤ 8192) (hlen : 8192 < (layL o).length) :
    Calls Tryd.prog 13 #[.agg (ocells o p).toArray] w fun e w' => e = .returned (.int .i64 (48)) ∧ Below w.heap.size w w' := by
  have hi39 : (Tryd.prog.info? 31).map (·.size) = some 39 := by kernel_rfl
  have hi39' := Lib.hid hi39
  have h39' := Lib.hid (fun (x : ObjT) (q : Lay) => show (ocells x q).toArray.size = 39 by simp [ocells_length])
  have h0 : OBlk (w.alloc (.cells (ocells o p).toArray 31)) w.heap.size o p := heap_alloc_new w _
  have hB : Below w.heap.size w (w.alloc (.cells (ocells o p).toArray 31)) := (Below.refl _ _).alloc (Nat.le_refl _) _
  have c0 := h0.c0
  have hK := Lib.hid (fun _ : Unit => hk)
  rw [hK.out ()] at c0
  replace c0 : (w.alloc (.cells (ocells o p).toArray 31)).cell? ⟨w.heap.size, 0, none⟩ = some (.int .u8 4) := c0
  have hmb : Hid (MayB o) := Lib.hid (mayB_of (by omega) (by omega) hfr hkd (by simp [kindE, noteB, hk, hl]; omega))
  have hk1 : Hid (1 ≤ o.kind) := Lib.hid (by omega)
  have hk4 : Hid (o.kind ≤ 4) := Lib.hid (by omega)
  have hfor := Lib.hid hfr
  have hsm := Lib.hid (kids_small hk1.out hk4.out hfr hkd)
  obtain ⟨KN, hkn⟩ : ∃ n, Hid (∀ _ : Unit, kidsN o = n) := ⟨_, Lib.hid fun _ => rfl⟩
  rw [hkn.out ()] at hkd
  have h3 : (KN : Int) ≤ 128 := by omega
  obtain ⟨nd, hnd⟩ : ∃ n, Hid (∀ _ : Unit, o.data.length = n) := ⟨_, Lib.hid fun _ => rfl⟩
  obtain ⟨np, hnp⟩ : ∃ n, Hid (∀ _ : Unit, o.parts.length = n) := ⟨_, Lib.hid fun _ => rfl⟩
  obtain ⟨ni, hni⟩ : ∃ n, Hid (∀ _ : Unit, o.items.length = n) := ⟨_, Lib.hid fun _ => rfl⟩
  obtain ⟨s, hs⟩ : ∃ s, Hid (∀ _ : Unit, o.note = s) := ⟨_, Lib.hid fun _ => rfl⟩
  have hlt : Hid (∀ W : World, Calls Tryd.prog 31 #[.string s] W fun e w' => e = .returned (.bool true) ∧ W = w') := Lib.hid fun W => by have := letters_any s (by rw [hs.out ()] at hn; omega) W; rw [hs.out ()] at hl; rwa [hl] at this
  rw [hs.out ()] at hn
  have hn2 : (s.size : Int) ≤ 1024 := by omega
  have hd8 := Lib.hid hd
  rw [hnd.out ()] at hd
  have hd2 : (nd : Int) ≤ 8192 := by omega
  have hd3 : decide ((8192 : Int) < (nd : Int)) = false := by simp; omega
  obtain ⟨L, hL⟩ : ∃ n, Hid (∀ _ : Unit, (layL o).length = n) := ⟨_, Lib.hid fun _ => rfl⟩
  rw [hL.out ()] at hlen
  have hl2 : (8192 : Int) < (L : Int) := by omega
  have hm' := Lib.hid hm
  have h0' := Lib.hid h0
  have hB' := Lib.hid hB
  clear hm h0 hB hi39 hk hfr hkd hn hl hd hlen
  go_enter Tryd.func13, Tryd.ntmps13
  go_wp2_with (first
    | (refine wpList_load_row rfl 31 _ rfl w.heap.size rfl 31 _ (0, 0) _ h0'.out Tryd.underlying31 rfl (by rw [h39'.out]; exact hi39'.out) ?_)
    | (go_at_call 41
       refine (rfor_b _ o p hk1.out hk4.out hfor.out).mono ?_
       rintro e w1 ⟨rfl, b1⟩
       have hb1 := Lib.hid (OBlk.below h0'.out b1 (lt_of_block h0'.out))
       have hB1 := Lib.hid (hB'.out.trans (b1.mono hB'.out.size))
       clear b1 c0
       have c0 : w1.cell? ⟨w.heap.size, 0, none⟩ = some (.int .u8 4) := by have := hb1.out.c0; rw [hK.out ()] at this; exact this)
    | (refine wpList_load_row rfl 31 _ rfl w.heap.size rfl 31 _ (0, 0) _ hb1.out Tryd.underlying31 rfl (by rw [h39'.out]; exact hi39'.out) ?_)
    | (go_at_call 42
       refine (kidCount_any _ o p hm'.out.fit hk1.out hk4.out).mono ?_
       rintro e w2 ⟨rfl, b2⟩
       rw [hkn.out ()]
       have hb2 := Lib.hid (OBlk.below hb1.out b2 (lt_of_block hb1.out))
       have hB2 := Lib.hid (hB1.out.trans (b2.mono hB1.out.size))
       clear b2 c0
       have c0 : w2.cell? ⟨w.heap.size, 0, none⟩ = some (.int .u8 4) := by have := hb2.out.c0; rw [hK.out ()] at this; exact this
       have c1 := hb2.out.c1
       rw [hnd.out ()] at c1
       have c4 := hb2.out.c38
       rw [hs.out ()] at c4)
    | (go_at_call 31
       refine (hlt.out _).mono ?_
       rintro e w' ⟨rfl, rfl⟩)
    | (refine wpList_load_row_g rfl 31 _ rfl w.heap.size rfl 31 _ (0, 0) _ hb2.out Tryd.underlying31 rfl (by rw [h39'.out]; exact hi39'.out) ?_)
    | (go_at_call 45
       refine (laid_any _ o p ⟨(hm'.out.oin.below hB2.out).mono hB2.out.size, hm'.out.good, hmb.out, hd8.out⟩).mono ?_
       rintro e w5 ⟨⟨A5, c5, rfl, o5⟩, b5⟩
       rw [hL.out ()]
       have hB5 := Lib.hid (hB2.out.trans (b5.mono hB2.out.size))
       clear b5 o5))
  go_ret
  exact ⟨rfl, hB5.out⟩

set_option maxRecDepth 100000 in
set_option maxHeartbeats 2000000 in
theorem rchk_k4o (w : World) (o : ObjT) (p : Lay) (hm : ChkIn w o p) (hk : o.kind = 4) (hfr : refFor o = false) (hkd : kidsN o ≤ 128) (hn : o.note.size ≤ 1024) (hl : lettersD o.note o.note.size 0 = true) (hd : o.data.length ≤ 8192) (hlen : (layL o).length ≤ 8192) :
    Calls Tryd.prog 13 #[.agg (ocells o p).toArray] w fun e w' => e = .returned (.int .i64 (0)) ∧ Below w.heap.size w w' := by
  have hi39 : (Tryd.prog.info? 31).map (·.size) = some 39 := by kernel_rfl
  have hi39' := Lib.hid hi39
  have h39' := Lib.hid (fun (x : ObjT) (q : Lay) => show (ocells x q).toArray.size = 39 by simp [ocells_length])
  have h0 : OBlk (w.alloc (.cells (ocells o p).toArray 31)) w.heap.size o p := heap_alloc_new w _
  have hB : Below w.heap.size w (w.alloc (.cells (ocells o p).toArray 31)) := (Below.refl _ _).alloc (Nat.le_refl _) _
  have c0 := h0.c0
  have hK := Lib.hid (fun _ : Unit => hk)
  rw [hK.out ()] at c0
  replace c0 : (w.alloc (.cells (ocells o p).toArray 31)).cell? ⟨w.heap.size, 0, none⟩ = some (.int .u8 4) := c0
  have hmb : Hid (MayB o) := Lib.hid (mayB_of (by omega) (by omega) hfr hkd (by simp [kindE, noteB, hk, hl]; omega))
  have hk1 : Hid (1 ≤ o.kind) := Lib.hid (by omega)
  have hk4 : Hid (o.kind ≤ 4) := Lib.hid (by omega)
  have hfor := Lib.hid hfr
  have hsm := Lib.hid (kids_small hk1.out hk4.out hfr hkd)
  obtain ⟨KN, hkn⟩ : ∃ n, Hid (∀ _ : Unit, kidsN o = n) := ⟨_, Lib.hid fun _ => rfl⟩
  rw [hkn.out ()] at hkd
  have h3 : (KN : Int) ≤ 128 := by omega
  obtain ⟨nd, hnd⟩ : ∃ n, Hid (∀ _ : Unit, o.data.length = n) := ⟨_, Lib.hid fun _ => rfl⟩
  obtain ⟨np, hnp⟩ : ∃ n, Hid (∀ _ : Unit, o.parts.length = n) := ⟨_, Lib.hid fun _ => rfl⟩
  obtain ⟨ni, hni⟩ : ∃ n, Hid (∀ _ : Unit, o.items.length = n) := ⟨_, Lib.hid fun _ => rfl⟩
  obtain ⟨s, hs⟩ : ∃ s, Hid (∀ _ : Unit, o.note = s) := ⟨_, Lib.hid fun _ => rfl⟩
  have hlt : Hid (∀ W : World, Calls Tryd.prog 31 #[.string s] W fun e w' => e = .returned (.bool true) ∧ W = w') := Lib.hid fun W => by have := letters_any s (by rw [hs.out ()] at hn; omega) W; rw [hs.out ()] at hl; rwa [hl] at this
  rw [hs.out ()] at hn
  have hn2 : (s.size : Int) ≤ 1024 := by omega
  have hd8 := Lib.hid hd
  rw [hnd.out ()] at hd
  have hd2 : (nd : Int) ≤ 8192 := by omega
  have hd3 : decide ((8192 : Int) < (nd : Int)) = false := by simp; omega
  obtain ⟨L, hL⟩ : ∃ n, Hid (∀ _ : Unit, (layL o).length = n) := ⟨_, Lib.hid fun _ => rfl⟩
  rw [hL.out ()] at hlen
  have hl2 : (L : Int) ≤ 8192 := by omega
  have hm' := Lib.hid hm
  have h0' := Lib.hid h0
  have hB' := Lib.hid hB
  clear hm h0 hB hi39 hk hfr hkd hn hl hd hlen
  go_enter Tryd.func13, Tryd.ntmps13
  go_wp2_with (first
    | (refine wpList_load_row rfl 31 _ rfl w.heap.size rfl 31 _ (0, 0) _ h0'.out Tryd.underlying31 rfl (by rw [h39'.out]; exact hi39'.out) ?_)
    | (go_at_call 41
       refine (rfor_b _ o p hk1.out hk4.out hfor.out).mono ?_
       rintro e w1 ⟨rfl, b1⟩
       have hb1 := Lib.hid (OBlk.below h0'.out b1 (lt_of_block h0'.out))
       have hB1 := Lib.hid (hB'.out.trans (b1.mono hB'.out.size))
       clear b1 c0
       have c0 : w1.cell? ⟨w.heap.size, 0, none⟩ = some (.int .u8 4) := by have := hb1.out.c0; rw [hK.out ()] at this; exact this)
    | (refine wpList_load_row rfl 31 _ rfl w.heap.size rfl 31 _ (0, 0) _ hb1.out Tryd.underlying31 rfl (by rw [h39'.out]; exact hi39'.out) ?_)
    | (go_at_call 42
       refine (kidCount_any _ o p hm'.out.fit hk1.out hk4.out).mono ?_
       rintro e w2 ⟨rfl, b2⟩
       rw [hkn.out ()]
       have hb2 := Lib.hid (OBlk.below hb1.out b2 (lt_of_block hb1.out))
       have hB2 := Lib.hid (hB1.out.trans (b2.mono hB1.out.size))
       clear b2 c0
       have c0 : w2.cell? ⟨w.heap.size, 0, none⟩ = some (.int .u8 4) := by have := hb2.out.c0; rw [hK.out ()] at this; exact this
       have c1 := hb2.out.c1
       rw [hnd.out ()] at c1
       have c4 := hb2.out.c38
       rw [hs.out ()] at c4)
    | (go_at_call 31
       refine (hlt.out _).mono ?_
       rintro e w' ⟨rfl, rfl⟩)
    | (refine wpList_load_row_g rfl 31 _ rfl w.heap.size rfl 31 _ (0, 0) _ hb2.out Tryd.underlying31 rfl (by rw [h39'.out]; exact hi39'.out) ?_)
    | (go_at_call 45
       refine (laid_any _ o p ⟨(hm'.out.oin.below hB2.out).mono hB2.out.size, hm'.out.good, hmb.out, hd8.out⟩).mono ?_
       rintro e w5 ⟨⟨A5, c5, rfl, o5⟩, b5⟩
       rw [hL.out ()]
       have hB5 := Lib.hid (hB2.out.trans (b5.mono hB2.out.size))
       clear b5 o5))
  go_ret
  exact ⟨rfl, hB5.out⟩

theorem rchk_any (w : World) (o : ObjT) (p : Lay) (hm : ChkIn w o p) :
    Calls Tryd.prog 13 #[.agg (ocells o p).toArray] w fun e w' => e = .returned (.int .i64 (chkE o : Nat)) ∧ Below w.heap.size w w' := by
  unfold chkE
  by_cases hk : o.kind < 1 ∨ 4 < o.kind
  · rw [if_pos hk]
    rcases hk with hk | hk
    · exact rchk_low w o p hm hk
    · exact rchk_high w o p hm hk
  · rw [if_neg hk]
    have hk' : 1 ≤ o.kind ∧ o.kind ≤ 4 := by omega
    cases hfr : refFor o with
    | true => exact rchk_for w o p hm hk' hfr
    | false =>
      rw [if_neg (by decide)]
      by_cases hkd : 128 < kidsN o
      · rw [if_pos hkd]
        exact rchk_many w o p hm hk' hfr hkd
      · rw [if_neg hkd]
        have hkd' : kidsN o ≤ 128 := by omega
        have fin : kindE o = 0 → (8192 < o.data.length → Calls Tryd.prog 13 #[.agg (ocells o p).toArray] w fun e w' => e = .returned (.int .i64 48) ∧ Below w.heap.size w w') → (o.data.length ≤ 8192 → 8192 < (layL o).length → Calls Tryd.prog 13 #[.agg (ocells o p).toArray] w fun e w' => e = .returned (.int .i64 48) ∧ Below w.heap.size w w') → (o.data.length ≤ 8192 → (layL o).length ≤ 8192 → Calls Tryd.prog 13 #[.agg (ocells o p).toArray] w fun e w' => e = .returned (.int .i64 0) ∧ Below w.heap.size w w') →
            Calls Tryd.prog 13 #[.agg (ocells o p).toArray] w fun e w' => e = .returned (.int .i64 ((if kindE o ≠ 0 then kindE o else if 8192 < o.data.length ∨ 8192 < (layL o).length then 48 else 0 : Nat) : Int)) ∧ Below w.heap.size w w' := fun h0 h1 h2 h3 => by
          rw [if_neg (by simp [h0])]
          by_cases hd : 8192 < o.data.length
          · rw [if_pos (Or.inl hd)]; exact h1 hd
          · by_cases hl : 8192 < (layL o).length
            · rw [if_pos (Or.inr hl)]; exact h2 (by omega) hl
            · rw [if_neg (by omega)]; exact h3 (by omega) (by omega)
        rcases (by omega : o.kind = 1 ∨ o.kind = 2 ∨ o.kind = 3 ∨ o.kind = 4) with k | k | k | k
        · exact fin (by simp [kindE, k]) (rchk_k1d w o p hm k hfr hkd') (rchk_k1l w o p hm k hfr hkd') (rchk_k1o w o p hm k hfr hkd')
        · cases hpb : partsB 0 o.parts with
          | true => exact fin (by simp [kindE, k, hpb]) (rchk_k2d w o p hm k hfr hkd' hpb) (rchk_k2l w o p hm k hfr hkd' hpb) (rchk_k2o w o p hm k hfr hkd' hpb)
          | false =>
            have h47 : kindE o = 47 := by simp [kindE, k, hpb]
            rw [if_pos (by rw [h47]; decide), h47]
            exact rchk_k2e w o p hm k hfr hkd' hpb
        · by_cases hie : itemsE none o.items = 0
          · exact fin (by simp [kindE, k, hie]) (rchk_k3d w o p hm k hfr hkd' hie) (rchk_k3l w o p hm k hfr hkd' hie) (rchk_k3o w o p hm k hfr hkd' hie)
          · have hke : kindE o = itemsE none o.items := by simp [kindE, k]
            rw [if_pos (by rw [hke]; exact hie), hke]
            exact rchk_k3e w o p hm k hfr hkd' _ rfl hie
        · by_cases hn : 1024 < o.note.size
          · have h46 : kindE o = 46 := by simp [kindE, noteB, k, hn]
            rw [if_pos (by rw [h46]; decide), h46]
            exact rchk_k4e w o p hm k hfr hkd' hn
          · have hn' : o.note.size ≤ 1024 := by omega
            cases hl : lettersD o.note o.note.size 0 with
            | true => exact fin (by simp [kindE, noteB, k, hl]; omega) (rchk_k4d w o p hm k hfr hkd' hn' hl) (rchk_k4l w o p hm k hfr hkd' hn' hl) (rchk_k4o w o p hm k hfr hkd' hn' hl)
            | false =>
              have h46 : kindE o = 46 := by simp [kindE, noteB, k, hl]
              rw [if_pos (by rw [h46]; decide), h46]
              exact rchk_k4f w o p hm k hfr hkd' hn' hl
end Go.Proofs.YtkjndgapejbgcaaDoor

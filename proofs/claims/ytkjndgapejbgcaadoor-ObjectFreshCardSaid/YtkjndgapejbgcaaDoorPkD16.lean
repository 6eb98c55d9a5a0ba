/- Why an object may not be. (Printed by tools/genmay.py.) -/
import Derived.Test.YtkjndgapejbgcaaDoorPkD15
import Derived.Deep.Cut

namespace Go.Proofs.YtkjndgapejbgcaaDoor
open Go.RowKit
set_option linter.unusedSimpArgs false
set_option linter.unusedVariables false

theorem foreign_b {b : Bool} (w : World) (o : ObjT) (p : Lay) (ha : ObjIn w w.heap.size o p) (hf : Fit o) (hb : forB o = b) :
    Calls Tryd.prog 63 #[.agg (ocells o p).toArray] w fun e w' => e = .returned (.bool b) ∧ Below w.heap.size w w' := by
  rw [← hb]
  exact foreign_any w o p ha hf
/-- What may's walk asks of an object. -/
structure MayIn (w : World) (o : ObjT) (p : Lay) : Prop where
  tabs : U8T w
  oin : ObjIn w w.heap.size o p
  fit : Fit o
  ps : ∀ x ∈ o.parts, x.2 < 18446744073709551616
  note : o.note.size ≤ maxLen

set_option maxRecDepth 100000 in
set_option maxHeartbeats 2000000 in
theorem may_low (w : World) (o : ObjT) (p : Lay) (hm : MayIn w o p) (hk0 : o.kind < 1) :
    Calls Tryd.prog 32 #[.agg (ocells o p).toArray] w fun e w' => e = .returned (.int .i64 (40)) ∧ Below w.heap.size w w' := by
  have hi39 : (Tryd.prog.info? 31).map (·.size) = some 39 := by kernel_rfl
  have hi39' := Lib.hid hi39
  have h39' := Lib.hid (fun (x : ObjT) (q : Lay) => show (ocells x q).toArray.size = 39 by simp [ocells_length])
  have h0 : OBlk (w.alloc (.cells (ocells o p).toArray 31)) w.heap.size o p := heap_alloc_new w _
  have hB : Below w.heap.size w (w.alloc (.cells (ocells o p).toArray 31)) := (Below.refl _ _).alloc (Nat.le_refl _) _
  have c0 := h0.c0
  obtain ⟨K, hK⟩ : ∃ K, Hid (∀ _ : Unit, o.kind = K) := ⟨_, Lib.hid fun _ => rfl⟩
  rw [hK.out ()] at c0
  obtain ⟨np, hnp⟩ : ∃ n, Hid (∀ _ : Unit, o.parts.length = n) := ⟨_, Lib.hid fun _ => rfl⟩
  obtain ⟨ni, hni⟩ : ∃ n, Hid (∀ _ : Unit, o.items.length = n) := ⟨_, Lib.hid fun _ => rfl⟩
  obtain ⟨nk, hnk⟩ : ∃ n, Hid (∀ _ : Unit, o.parents.length = n) := ⟨_, Lib.hid fun _ => rfl⟩
  rw [hK.out ()] at hk0
  have h1 : (K : Int) < 1 := by omega
  clear hk0
  have hm' := Lib.hid hm
  have h0' := Lib.hid h0
  have hB' := Lib.hid hB
  clear hm h0 hB hi39
  go_enter Tryd.func32, Tryd.ntmps32
  go_wp2_with fail
  go_ret
  exact ⟨rfl, hB'.out⟩

set_option maxRecDepth 100000 in
set_option maxHeartbeats 2000000 in
theorem may_high (w : World) (o : ObjT) (p : Lay) (hm : MayIn w o p) (hk0 : 4 < o.kind) :
    Calls Tryd.prog 32 #[.agg (ocells o p).toArray] w fun e w' => e = .returned (.int .i64 (40)) ∧ Below w.heap.size w w' := by
  have hi39 : (Tryd.prog.info? 31).map (·.size) = some 39 := by kernel_rfl
  have hi39' := Lib.hid hi39
  have h39' := Lib.hid (fun (x : ObjT) (q : Lay) => show (ocells x q).toArray.size = 39 by simp [ocells_length])
  have h0 : OBlk (w.alloc (.cells (ocells o p).toArray 31)) w.heap.size o p := heap_alloc_new w _
  have hB : Below w.heap.size w (w.alloc (.cells (ocells o p).toArray 31)) := (Below.refl _ _).alloc (Nat.le_refl _) _
  have c0 := h0.c0
  obtain ⟨K, hK⟩ : ∃ K, Hid (∀ _ : Unit, o.kind = K) := ⟨_, Lib.hid fun _ => rfl⟩
  rw [hK.out ()] at c0
  obtain ⟨np, hnp⟩ : ∃ n, Hid (∀ _ : Unit, o.parts.length = n) := ⟨_, Lib.hid fun _ => rfl⟩
  obtain ⟨ni, hni⟩ : ∃ n, Hid (∀ _ : Unit, o.items.length = n) := ⟨_, Lib.hid fun _ => rfl⟩
  obtain ⟨nk, hnk⟩ : ∃ n, Hid (∀ _ : Unit, o.parents.length = n) := ⟨_, Lib.hid fun _ => rfl⟩
  rw [hK.out ()] at hk0
  have h1 : (1 : Int) ≤ (K : Int) := by omega
  have h2 : (4 : Int) < (K : Int) := by omega
  clear hk0
  have hm' := Lib.hid hm
  have h0' := Lib.hid h0
  have hB' := Lib.hid hB
  clear hm h0 hB hi39
  go_enter Tryd.func32, Tryd.ntmps32
  go_wp2_with fail
  go_ret
  exact ⟨rfl, hB'.out⟩

set_option maxRecDepth 100000 in
set_option maxHeartbeats 2000000 in
theorem may_for (w : World) (o : ObjT) (p : Lay) (hm : MayIn w o p) (hk0 : 1 ≤ o.kind ∧ o.kind ≤ 4) (hfr : forB o = true) :
    Calls Tryd.prog 32 #[.agg (ocells o p).toArray] w fun e w' => e = .returned (.int .i64 (41)) ∧ Below w.heap.size w w' := by
  have hi39 : (Tryd.prog.info? 31).map (·.size) = some 39 := by kernel_rfl
  have hi39' := Lib.hid hi39
  have h39' := Lib.hid (fun (x : ObjT) (q : Lay) => show (ocells x q).toArray.size = 39 by simp [ocells_length])
  have h0 : OBlk (w.alloc (.cells (ocells o p).toArray 31)) w.heap.size o p := heap_alloc_new w _
  have hB : Below w.heap.size w (w.alloc (.cells (ocells o p).toArray 31)) := (Below.refl _ _).alloc (Nat.le_refl _) _
  have c0 := h0.c0
  obtain ⟨K, hK⟩ : ∃ K, Hid (∀ _ : Unit, o.kind = K) := ⟨_, Lib.hid fun _ => rfl⟩
  rw [hK.out ()] at c0
  obtain ⟨np, hnp⟩ : ∃ n, Hid (∀ _ : Unit, o.parts.length = n) := ⟨_, Lib.hid fun _ => rfl⟩
  obtain ⟨ni, hni⟩ : ∃ n, Hid (∀ _ : Unit, o.items.length = n) := ⟨_, Lib.hid fun _ => rfl⟩
  obtain ⟨nk, hnk⟩ : ∃ n, Hid (∀ _ : Unit, o.parents.length = n) := ⟨_, Lib.hid fun _ => rfl⟩
  rw [hK.out ()] at hk0
  have h1 : (1 : Int) ≤ (K : Int) := by omega
  have h2 : (K : Int) ≤ 4 := by omega
  clear hk0
  have hfor := Lib.hid hfr
  clear hfr
  have hm' := Lib.hid hm
  have h0' := Lib.hid h0
  have hB' := Lib.hid hB
  clear hm h0 hB hi39
  go_enter Tryd.func32, Tryd.ntmps32
  go_wp2_with (first
    | (refine wpList_load_row rfl 31 _ rfl w.heap.size rfl 31 _ (0, 0) _ h0'.out Tryd.underlying31 rfl (by rw [h39'.out]; exact hi39'.out) ?_)
    | (go_at_call 63
       refine (foreign_b _ o p ((hm'.out.oin.below hB'.out).mono hB'.out.size) hm'.out.fit hfor.out).mono ?_
       rintro e w1 ⟨rfl, b1⟩
       have hb1 := Lib.hid (OBlk.below h0'.out b1 (lt_of_block h0'.out))
       have hB1 := Lib.hid (hB'.out.trans (b1.mono hB'.out.size))
       clear b1 c0
       have c0 := hb1.out.c0
       rw [hK.out ()] at c0
       skip))
  go_ret
  exact ⟨rfl, hB1.out⟩

set_option maxRecDepth 100000 in
set_option maxHeartbeats 2000000 in
theorem may_long1 (w : World) (o : ObjT) (p : Lay) (hm : MayIn w o p) (hk0 : 1 ≤ o.kind ∧ o.kind ≤ 4) (hfr : forB o = false) (hl : 128 < o.parts.length) :
    Calls Tryd.prog 32 #[.agg (ocells o p).toArray] w fun e w' => e = .returned (.int .i64 (42)) ∧ Below w.heap.size w w' := by
  have hi39 : (Tryd.prog.info? 31).map (·.size) = some 39 := by kernel_rfl
  have hi39' := Lib.hid hi39
  have h39' := Lib.hid (fun (x : ObjT) (q : Lay) => show (ocells x q).toArray.size = 39 by simp [ocells_length])
  have h0 : OBlk (w.alloc (.cells (ocells o p).toArray 31)) w.heap.size o p := heap_alloc_new w _
  have hB : Below w.heap.size w (w.alloc (.cells (ocells o p).toArray 31)) := (Below.refl _ _).alloc (Nat.le_refl _) _
  have c0 := h0.c0
  obtain ⟨K, hK⟩ : ∃ K, Hid (∀ _ : Unit, o.kind = K) := ⟨_, Lib.hid fun _ => rfl⟩
  rw [hK.out ()] at c0
  obtain ⟨np, hnp⟩ : ∃ n, Hid (∀ _ : Unit, o.parts.length = n) := ⟨_, Lib.hid fun _ => rfl⟩
  obtain ⟨ni, hni⟩ : ∃ n, Hid (∀ _ : Unit, o.items.length = n) := ⟨_, Lib.hid fun _ => rfl⟩
  obtain ⟨nk, hnk⟩ : ∃ n, Hid (∀ _ : Unit, o.parents.length = n) := ⟨_, Lib.hid fun _ => rfl⟩
  rw [hK.out ()] at hk0
  have h1 : (1 : Int) ≤ (K : Int) := by omega
  have h2 : (K : Int) ≤ 4 := by omega
  clear hk0
  have hfor := Lib.hid hfr
  clear hfr
  rw [hnp.out ()] at hl
  have l1 : (128 : Int) < (np : Int) := by omega
  clear hl
  have hm' := Lib.hid hm
  have h0' := Lib.hid h0
  have hB' := Lib.hid hB
  clear hm h0 hB hi39
  go_enter Tryd.func32, Tryd.ntmps32
  go_wp2_with (first
    | (refine wpList_load_row rfl 31 _ rfl w.heap.size rfl 31 _ (0, 0) _ h0'.out Tryd.underlying31 rfl (by rw [h39'.out]; exact hi39'.out) ?_)
    | (go_at_call 63
       refine (foreign_b _ o p ((hm'.out.oin.below hB'.out).mono hB'.out.size) hm'.out.fit hfor.out).mono ?_
       rintro e w1 ⟨rfl, b1⟩
       have hb1 := Lib.hid (OBlk.below h0'.out b1 (lt_of_block h0'.out))
       have hB1 := Lib.hid (hB'.out.trans (b1.mono hB'.out.size))
       clear b1 c0
       have c0 := hb1.out.c0
       rw [hK.out ()] at c0
       have c2 := hb1.out.c2
       rw [hnp.out ()] at c2
       have c3 := hb1.out.c3
       rw [hni.out ()] at c3
       have c36 := hb1.out.c36
       rw [hnk.out ()] at c36
       skip))
  go_ret
  exact ⟨rfl, hB1.out⟩

set_option maxRecDepth 100000 in
set_option maxHeartbeats 2000000 in
theorem may_long2 (w : World) (o : ObjT) (p : Lay) (hm : MayIn w o p) (hk0 : 1 ≤ o.kind ∧ o.kind ≤ 4) (hfr : forB o = false) (hl : o.parts.length ≤ 128) (hl2 : 128 < o.items.length) :
    Calls Tryd.prog 32 #[.agg (ocells o p).toArray] w fun e w' => e = .returned (.int .i64 (42)) ∧ Below w.heap.size w w' := by
  have hi39 : (Tryd.prog.info? 31).map (·.size) = some 39 := by kernel_rfl
  have hi39' := Lib.hid hi39
  have h39' := Lib.hid (fun (x : ObjT) (q : Lay) => show (ocells x q).toArray.size = 39 by simp [ocells_length])
  have h0 : OBlk (w.alloc (.cells (ocells o p).toArray 31)) w.heap.size o p := heap_alloc_new w _
  have hB : Below w.heap.size w (w.alloc (.cells (ocells o p).toArray 31)) := (Below.refl _ _).alloc (Nat.le_refl _) _
  have c0 := h0.c0
  obtain ⟨K, hK⟩ : ∃ K, Hid (∀ _ : Unit, o.kind = K) := ⟨_, Lib.hid fun _ => rfl⟩
  rw [hK.out ()] at c0
  obtain ⟨np, hnp⟩ : ∃ n, Hid (∀ _ : Unit, o.parts.length = n) := ⟨_, Lib.hid fun _ => rfl⟩
  obtain ⟨ni, hni⟩ : ∃ n, Hid (∀ _ : Unit, o.items.length = n) := ⟨_, Lib.hid fun _ => rfl⟩
  obtain ⟨nk, hnk⟩ : ∃ n, Hid (∀ _ : Unit, o.parents.length = n) := ⟨_, Lib.hid fun _ => rfl⟩
  rw [hK.out ()] at hk0
  have h1 : (1 : Int) ≤ (K : Int) := by omega
  have h2 : (K : Int) ≤ 4 := by omega
  clear hk0
  have hfor := Lib.hid hfr
  clear hfr
  rw [hnp.out ()] at hl
  rw [hni.out ()] at hl2
  have l1 : (np : Int) ≤ 128 := by omega
  have l2 : (128 : Int) < (ni : Int) := by omega
  clear hl hl2
  have hm' := Lib.hid hm
  have h0' := Lib.hid h0
  have hB' := Lib.hid hB
  clear hm h0 hB hi39
  go_enter Tryd.func32, Tryd.ntmps32
  go_wp2_with (first
    | (refine wpList_load_row rfl 31 _ rfl w.heap.size rfl 31 _ (0, 0) _ h0'.out Tryd.underlying31 rfl (by rw [h39'.out]; exact hi39'.out) ?_)
    | (go_at_call 63
       refine (foreign_b _ o p ((hm'.out.oin.below hB'.out).mono hB'.out.size) hm'.out.fit hfor.out).mono ?_
       rintro e w1 ⟨rfl, b1⟩
       have hb1 := Lib.hid (OBlk.below h0'.out b1 (lt_of_block h0'.out))
       have hB1 := Lib.hid (hB'.out.trans (b1.mono hB'.out.size))
       clear b1 c0
       have c0 := hb1.out.c0
       rw [hK.out ()] at c0
       have c2 := hb1.out.c2
       rw [hnp.out ()] at c2
       have c3 := hb1.out.c3
       rw [hni.out ()] at c3
       have c36 := hb1.out.c36
       rw [hnk.out ()] at c36
       skip))
  go_ret
  exact ⟨rfl, hB1.out⟩

set_option maxRecDepth 100000 in
set_option maxHeartbeats 2000000 in
theorem may_long3 (w : World) (o : ObjT) (p : Lay) (hm : MayIn w o p) (hk0 : 1 ≤ o.kind ∧ o.kind ≤ 4) (hfr : forB o = false) (hl : o.parts.length ≤ 128) (hl2 : o.items.length ≤ 128) (hl3 : 127 < o.parents.length) :
    Calls Tryd.prog 32 #[.agg (ocells o p).toArray] w fun e w' => e = .returned (.int .i64 (42)) ∧ Below w.heap.size w w' := by
  have hi39 : (Tryd.prog.info? 31).map (·.size) = some 39 := by kernel_rfl
  have hi39' := Lib.hid hi39
  have h39' := Lib.hid (fun (x : ObjT) (q : Lay) => show (ocells x q).toArray.size = 39 by simp [ocells_length])
  have h0 : OBlk (w.alloc (.cells (ocells o p).toArray 31)) w.heap.size o p := heap_alloc_new w _
  have hB : Below w.heap.size w (w.alloc (.cells (ocells o p).toArray 31)) := (Below.refl _ _).alloc (Nat.le_refl _) _
  have c0 := h0.c0
  obtain ⟨K, hK⟩ : ∃ K, Hid (∀ _ : Unit, o.kind = K) := ⟨_, Lib.hid fun _ => rfl⟩
  rw [hK.out ()] at c0
  obtain ⟨np, hnp⟩ : ∃ n, Hid (∀ _ : Unit, o.parts.length = n) := ⟨_, Lib.hid fun _ => rfl⟩
  obtain ⟨ni, hni⟩ : ∃ n, Hid (∀ _ : Unit, o.items.length = n) := ⟨_, Lib.hid fun _ => rfl⟩
  obtain ⟨nk, hnk⟩ : ∃ n, Hid (∀ _ : Unit, o.parents.length = n) := ⟨_, Lib.hid fun _ => rfl⟩
  rw [hK.out ()] at hk0
  have h1 : (1 : Int) ≤ (K : Int) := by omega
  have h2 : (K : Int) ≤ 4 := by omega
  clear hk0
  have hfor := Lib.hid hfr
  clear hfr
  rw [hnp.out ()] at hl
  rw [hni.out ()] at hl2
  rw [hnk.out ()] at hl3
  have l1 : (np : Int) ≤ 128 := by omega
  have l2 : (ni : Int) ≤ 128 := by omega
  have l3 : (127 : Int) < (nk : Int) := by omega
  clear hl hl2 hl3
  have hm' := Lib.hid hm
  have h0' := Lib.hid h0
  have hB' := Lib.hid hB
  clear hm h0 hB hi39
  go_enter Tryd.func32, Tryd.ntmps32
  go_wp2_with (first
    | (refine wpList_load_row rfl 31 _ rfl w.heap.size rfl 31 _ (0, 0) _ h0'.out Tryd.underlying31 rfl (by rw [h39'.out]; exact hi39'.out) ?_)
    | (go_at_call 63
       refine (foreign_b _ o p ((hm'.out.oin.below hB'.out).mono hB'.out.size) hm'.out.fit hfor.out).mono ?_
       rintro e w1 ⟨rfl, b1⟩
       have hb1 := Lib.hid (OBlk.below h0'.out b1 (lt_of_block h0'.out))
       have hB1 := Lib.hid (hB'.out.trans (b1.mono hB'.out.size))
       clear b1 c0
       have c0 := hb1.out.c0
       rw [hK.out ()] at c0
       have c2 := hb1.out.c2
       rw [hnp.out ()] at c2
       have c3 := hb1.out.c3
       rw [hni.out ()] at c3
       have c36 := hb1.out.c36
       rw [hnk.out ()] at c36
       skip))
  go_ret
  exact ⟨rfl, hB1.out⟩

set_option maxRecDepth 100000 in
set_option maxHeartbeats 2000000 in
theorem may_k1 (w : World) (o : ObjT) (p : Lay) (hm : MayIn w o p) (hk : o.kind = 1) (hfr : forB o = false) (hl : o.parts.length ≤ 128) (hl2 : o.items.length ≤ 128) (hl3 : o.parents.length ≤ 127) :
    Calls Tryd.prog 32 #[.agg (ocells o p).toArray] w fun e w' => e = .returned (.int .i64 (0)) ∧ Below w.heap.size w w' := by
  have hi39 : (Tryd.prog.info? 31).map (·.size) = some 39 := by kernel_rfl
  have hi39' := Lib.hid hi39
  have h39' := Lib.hid (fun (x : ObjT) (q : Lay) => show (ocells x q).toArray.size = 39 by simp [ocells_length])
  have h0 : OBlk (w.alloc (.cells (ocells o p).toArray 31)) w.heap.size o p := heap_alloc_new w _
  have hB : Below w.heap.size w (w.alloc (.cells (ocells o p).toArray 31)) := (Below.refl _ _).alloc (Nat.le_refl _) _
  have c0 := h0.c0
  have hK := Lib.hid (fun _ : Unit => hk)
  clear hk
  rw [hK.out ()] at c0
  replace c0 : (w.alloc (.cells (ocells o p).toArray 31)).cell? ⟨w.heap.size, 0, none⟩ = some (.int .u8 1) := c0
  obtain ⟨np, hnp⟩ : ∃ n, Hid (∀ _ : Unit, o.parts.length = n) := ⟨_, Lib.hid fun _ => rfl⟩
  obtain ⟨ni, hni⟩ : ∃ n, Hid (∀ _ : Unit, o.items.length = n) := ⟨_, Lib.hid fun _ => rfl⟩
  obtain ⟨nk, hnk⟩ : ∃ n, Hid (∀ _ : Unit, o.parents.length = n) := ⟨_, Lib.hid fun _ => rfl⟩
  have hfor := Lib.hid hfr
  clear hfr
  rw [hnp.out ()] at hl
  rw [hni.out ()] at hl2
  rw [hnk.out ()] at hl3
  have l1 : (np : Int) ≤ 128 := by omega
  have l2 : (ni : Int) ≤ 128 := by omega
  have l3 : (nk : Int) ≤ 127 := by omega
  clear hl hl2 hl3
  have hm' := Lib.hid hm
  have h0' := Lib.hid h0
  have hB' := Lib.hid hB
  clear hm h0 hB hi39
  go_enter Tryd.func32, Tryd.ntmps32
  go_upto_region 13 with (first
    | (refine wpList_load_row rfl 31 _ rfl w.heap.size rfl 31 _ (0, 0) _ h0'.out Tryd.underlying31 rfl (by rw [h39'.out]; exact hi39'.out) ?_)
    | (go_at_call 63
       refine (foreign_b _ o p ((hm'.out.oin.below hB'.out).mono hB'.out.size) hm'.out.fit hfor.out).mono ?_
       rintro e w1 ⟨rfl, b1⟩
       have hb1 := Lib.hid (OBlk.below h0'.out b1 (lt_of_block h0'.out))
       have hB1 := Lib.hid (hB'.out.trans (b1.mono hB'.out.size))
       clear b1 c0
       have c0 := hb1.out.c0
       rw [hK.out ()] at c0
       replace c0 : w1.cell? ⟨w.heap.size, 0, none⟩ = some (.int .u8 1) := c0
       have c2 := hb1.out.c2
       rw [hnp.out ()] at c2
       have c3 := hb1.out.c3
       rw [hni.out ()] at c3
       have c36 := hb1.out.c36
       rw [hnk.out ()] at c36
       skip))
  go_wp2_with fail
  go_ret
  exact ⟨rfl, hB1.out⟩

set_option maxRecDepth 100000 in
set_option maxHeartbeats 2000000 in
theorem may_k2 (w : World) (o : ObjT) (p : Lay) (hm : MayIn w o p) (hk : o.kind = 2) (hfr : forB o = false) (hl : o.parts.length ≤ 128) (hl2 : o.items.length ≤ 128) (hl3 : o.parents.length ≤ 127) :
    Calls Tryd.prog 32 #[.agg (ocells o p).toArray] w fun e w' => e = .returned (.int .i64 (if partsB 0 o.parts then 0 else 47)) ∧ Below w.heap.size w w' := by
  have hi39 : (Tryd.prog.info? 31).map (·.size) = some 39 := by kernel_rfl
  have hi39' := Lib.hid hi39
  have h39' := Lib.hid (fun (x : ObjT) (q : Lay) => show (ocells x q).toArray.size = 39 by simp [ocells_length])
  have h0 : OBlk (w.alloc (.cells (ocells o p).toArray 31)) w.heap.size o p := heap_alloc_new w _
  have hB : Below w.heap.size w (w.alloc (.cells (ocells o p).toArray 31)) := (Below.refl _ _).alloc (Nat.le_refl _) _
  have c0 := h0.c0
  have hK := Lib.hid (fun _ : Unit => hk)
  clear hk
  rw [hK.out ()] at c0
  replace c0 : (w.alloc (.cells (ocells o p).toArray 31)).cell? ⟨w.heap.size, 0, none⟩ = some (.int .u8 2) := c0
  obtain ⟨np, hnp⟩ : ∃ n, Hid (∀ _ : Unit, o.parts.length = n) := ⟨_, Lib.hid fun _ => rfl⟩
  obtain ⟨ni, hni⟩ : ∃ n, Hid (∀ _ : Unit, o.items.length = n) := ⟨_, Lib.hid fun _ => rfl⟩
  obtain ⟨nk, hnk⟩ : ∃ n, Hid (∀ _ : Unit, o.parents.length = n) := ⟨_, Lib.hid fun _ => rfl⟩
  have hfor := Lib.hid hfr
  clear hfr
  rw [hnp.out ()] at hl
  rw [hni.out ()] at hl2
  rw [hnk.out ()] at hl3
  have l1 : (np : Int) ≤ 128 := by omega
  have l2 : (ni : Int) ≤ 128 := by omega
  have l3 : (nk : Int) ≤ 127 := by omega
  have hl2n : np ≤ 140737488355328 := by omega
  clear hl hl2 hl3
  have hm' := Lib.hid hm
  have h0' := Lib.hid h0
  have hB' := Lib.hid hB
  clear hm h0 hB hi39
  go_enter Tryd.func32, Tryd.ntmps32
  go_wp2_with (first
    | (refine wpList_load_row rfl 31 _ rfl w.heap.size rfl 31 _ (0, 0) _ h0'.out Tryd.underlying31 rfl (by rw [h39'.out]; exact hi39'.out) ?_)
    | (go_at_call 63
       refine (foreign_b _ o p ((hm'.out.oin.below hB'.out).mono hB'.out.size) hm'.out.fit hfor.out).mono ?_
       rintro e w1 ⟨rfl, b1⟩
       have hb1 := Lib.hid (OBlk.below h0'.out b1 (lt_of_block h0'.out))
       have hB1 := Lib.hid (hB'.out.trans (b1.mono hB'.out.size))
       clear b1 c0
       have c0 := hb1.out.c0
       rw [hK.out ()] at c0
       replace c0 : w1.cell? ⟨w.heap.size, 0, none⟩ = some (.int .u8 2) := c0
       have c2 := hb1.out.c2
       rw [hnp.out ()] at c2
       have c3 := hb1.out.c3
       rw [hni.out ()] at c3
       have c36 := hb1.out.c36
       rw [hnk.out ()] at c36
       skip)
    | (go_at_call 64
       refine (parts_any _ o.parts p.Ap np p.cp (hnp.out ()) ((Rd.below hm'.out.oin.ps hB1.out).mono hB1.out.size) hm'.out.ps hl2n).mono ?_
       rintro e w2 ⟨rfl, b2⟩
       have hB2 := Lib.hid (hB1.out.trans (b2.mono hB1.out.size))
       clear b2))
  all_goals
    go_ret
    exact ⟨by simp [*], hB2.out⟩

set_option maxRecDepth 100000 in
set_option maxHeartbeats 2000000 in
theorem may_k3 (w : World) (o : ObjT) (p : Lay) (hm : MayIn w o p) (hk : o.kind = 3) (hfr : forB o = false) (hl : o.parts.length ≤ 128) (hl2 : o.items.length ≤ 128) (hl3 : o.parents.length ≤ 127) :
    Calls Tryd.prog 32 #[.agg (ocells o p).toArray] w fun e w' => e = .returned (.int .i64 ((itemsE none o.items : Nat))) ∧ Below w.heap.size w w' := by
  have hi39 : (Tryd.prog.info? 31).map (·.size) = some 39 := by kernel_rfl
  have hi39' := Lib.hid hi39
  have h39' := Lib.hid (fun (x : ObjT) (q : Lay) => show (ocells x q).toArray.size = 39 by simp [ocells_length])
  have h0 : OBlk (w.alloc (.cells (ocells o p).toArray 31)) w.heap.size o p := heap_alloc_new w _
  have hB : Below w.heap.size w (w.alloc (.cells (ocells o p).toArray 31)) := (Below.refl _ _).alloc (Nat.le_refl _) _
  have c0 := h0.c0
  have hK := Lib.hid (fun _ : Unit => hk)
  clear hk
  rw [hK.out ()] at c0
  replace c0 : (w.alloc (.cells (ocells o p).toArray 31)).cell? ⟨w.heap.size, 0, none⟩ = some (.int .u8 3) := c0
  obtain ⟨np, hnp⟩ : ∃ n, Hid (∀ _ : Unit, o.parts.length = n) := ⟨_, Lib.hid fun _ => rfl⟩
  obtain ⟨ni, hni⟩ : ∃ n, Hid (∀ _ : Unit, o.items.length = n) := ⟨_, Lib.hid fun _ => rfl⟩
  obtain ⟨nk, hnk⟩ : ∃ n, Hid (∀ _ : Unit, o.parents.length = n) := ⟨_, Lib.hid fun _ => rfl⟩
  have hfor := Lib.hid hfr
  clear hfr
  rw [hnp.out ()] at hl
  rw [hni.out ()] at hl2
  rw [hnk.out ()] at hl3
  have l1 : (np : Int) ≤ 128 := by omega
  have l2 : (ni : Int) ≤ 128 := by omega
  have l3 : (nk : Int) ≤ 127 := by omega
  have hl2n : ni ≤ 140737488355328 := by omega
  clear hl hl2 hl3
  have hm' := Lib.hid hm
  have h0' := Lib.hid h0
  have hB' := Lib.hid hB
  clear hm h0 hB hi39
  go_enter Tryd.func32, Tryd.ntmps32
  go_wp2_with (first
    | (refine wpList_load_row rfl 31 _ rfl w.heap.size rfl 31 _ (0, 0) _ h0'.out Tryd.underlying31 rfl (by rw [h39'.out]; exact hi39'.out) ?_)
    | (go_at_call 63
       refine (foreign_b _ o p ((hm'.out.oin.below hB'.out).mono hB'.out.size) hm'.out.fit hfor.out).mono ?_
       rintro e w1 ⟨rfl, b1⟩
       have hb1 := Lib.hid (OBlk.below h0'.out b1 (lt_of_block h0'.out))
       have hB1 := Lib.hid (hB'.out.trans (b1.mono hB'.out.size))
       clear b1 c0
       have c0 := hb1.out.c0
       rw [hK.out ()] at c0
       replace c0 : w1.cell? ⟨w.heap.size, 0, none⟩ = some (.int .u8 3) := c0
       have c2 := hb1.out.c2
       rw [hnp.out ()] at c2
       have c3 := hb1.out.c3
       rw [hni.out ()] at c3
       have c36 := hb1.out.c36
       rw [hnk.out ()] at c36
       skip)
    | (go_at_call 65
       refine (items_any _ (u8t_keep hm'.out.tabs hB1.out) o.items p.Ai ni p.ci (hni.out ()) ((Rd.below hm'.out.oin.xs hB1.out).mono hB1.out.size) hl2n).mono ?_
       rintro e w2 ⟨rfl, b2⟩
       have hB2 := Lib.hid (hB1.out.trans (b2.mono hB1.out.size))
       clear b2))
  go_ret
  exact ⟨rfl, hB2.out⟩

set_option maxRecDepth 100000 in
set_option maxHeartbeats 2000000 in
theorem may_k4a (w : World) (o : ObjT) (p : Lay) (hm : MayIn w o p) (hk : o.kind = 4) (hfr : forB o = false) (hl : o.parts.length ≤ 128) (hl2 : o.items.length ≤ 128) (hl3 : o.parents.length ≤ 127) (hn4 : 1024 < o.note.size) :
    Calls Tryd.prog 32 #[.agg (ocells o p).toArray] w fun e w' => e = .returned (.int .i64 (46)) ∧ Below w.heap.size w w' := by
  have hi39 : (Tryd.prog.info? 31).map (·.size) = some 39 := by kernel_rfl
  have hi39' := Lib.hid hi39
  have h39' := Lib.hid (fun (x : ObjT) (q : Lay) => show (ocells x q).toArray.size = 39 by simp [ocells_length])
  have h0 : OBlk (w.alloc (.cells (ocells o p).toArray 31)) w.heap.size o p := heap_alloc_new w _
  have hB : Below w.heap.size w (w.alloc (.cells (ocells o p).toArray 31)) := (Below.refl _ _).alloc (Nat.le_refl _) _
  have c0 := h0.c0
  have hK := Lib.hid (fun _ : Unit => hk)
  clear hk
  rw [hK.out ()] at c0
  replace c0 : (w.alloc (.cells (ocells o p).toArray 31)).cell? ⟨w.heap.size, 0, none⟩ = some (.int .u8 4) := c0
  obtain ⟨np, hnp⟩ : ∃ n, Hid (∀ _ : Unit, o.parts.length = n) := ⟨_, Lib.hid fun _ => rfl⟩
  obtain ⟨ni, hni⟩ : ∃ n, Hid (∀ _ : Unit, o.items.length = n) := ⟨_, Lib.hid fun _ => rfl⟩
  obtain ⟨nk, hnk⟩ : ∃ n, Hid (∀ _ : Unit, o.parents.length = n) := ⟨_, Lib.hid fun _ => rfl⟩
  have hfor := Lib.hid hfr
  clear hfr
  rw [hnp.out ()] at hl
  rw [hni.out ()] at hl2
  rw [hnk.out ()] at hl3
  have l1 : (np : Int) ≤ 128 := by omega
  have l2 : (ni : Int) ≤ 128 := by omega
  have l3 : (nk : Int) ≤ 127 := by omega
  clear hl hl2 hl3
  obtain ⟨s, hs⟩ : ∃ s, Hid (∀ _ : Unit, o.note = s) := ⟨_, Lib.hid fun _ => rfl⟩
  rw [hs.out ()] at hn4
  have l4 : (1024 : Int) < (s.size : Int) := by omega
  clear hn4
  have hm' := Lib.hid hm
  have h0' := Lib.hid h0
  have hB' := Lib.hid hB
  clear hm h0 hB hi39
  go_enter Tryd.func32, Tryd.ntmps32
  go_wp2_with (first
    | (refine wpList_load_row rfl 31 _ rfl w.heap.size rfl 31 _ (0, 0) _ h0'.out Tryd.underlying31 rfl (by rw [h39'.out]; exact hi39'.out) ?_)
    | (go_at_call 63
       refine (foreign_b _ o p ((hm'.out.oin.below hB'.out).mono hB'.out.size) hm'.out.fit hfor.out).mono ?_
       rintro e w1 ⟨rfl, b1⟩
       have hb1 := Lib.hid (OBlk.below h0'.out b1 (lt_of_block h0'.out))
       have hB1 := Lib.hid (hB'.out.trans (b1.mono hB'.out.size))
       clear b1 c0
       have c0 := hb1.out.c0
       rw [hK.out ()] at c0
       replace c0 : w1.cell? ⟨w.heap.size, 0, none⟩ = some (.int .u8 4) := c0
       have c2 := hb1.out.c2
       rw [hnp.out ()] at c2
       have c3 := hb1.out.c3
       rw [hni.out ()] at c3
       have c36 := hb1.out.c36
       rw [hnk.out ()] at c36
       have c38 := hb1.out.c38
       rw [hs.out ()] at c38
       skip))
  go_ret
  exact ⟨rfl, hB1.out⟩

set_option maxRecDepth 100000 in
set_option maxHeartbeats 2000000 in
theorem may_k4b (w : World) (o : ObjT) (p : Lay) (hm : MayIn w o p) (hk : o.kind = 4) (hfr : forB o = false) (hl : o.parts.length ≤ 128) (hl2 : o.items.length ≤ 128) (hl3 : o.parents.length ≤ 127) (hn4 : o.note.size ≤ 1024) (hlt : lettersD o.note o.note.size 0 = true) :
    Calls Tryd.prog 32 #[.agg (ocells o p).toArray] w fun e w' => e = .returned (.int .i64 (0)) ∧ Below w.heap.size w w' := by
  have hi39 : (Tryd.prog.info? 31).map (·.size) = some 39 := by kernel_rfl
  have hi39' := Lib.hid hi39
  have h39' := Lib.hid (fun (x : ObjT) (q : Lay) => show (ocells x q).toArray.size = 39 by simp [ocells_length])
  have h0 : OBlk (w.alloc (.cells (ocells o p).toArray 31)) w.heap.size o p := heap_alloc_new w _
  have hB : Below w.heap.size w (w.alloc (.cells (ocells o p).toArray 31)) := (Below.refl _ _).alloc (Nat.le_refl _) _
  have c0 := h0.c0
  have hK := Lib.hid (fun _ : Unit => hk)
  clear hk
  rw [hK.out ()] at c0
  replace c0 : (w.alloc (.cells (ocells o p).toArray 31)).cell? ⟨w.heap.size, 0, none⟩ = some (.int .u8 4) := c0
  obtain ⟨np, hnp⟩ : ∃ n, Hid (∀ _ : Unit, o.parts.length = n) := ⟨_, Lib.hid fun _ => rfl⟩
  obtain ⟨ni, hni⟩ : ∃ n, Hid (∀ _ : Unit, o.items.length = n) := ⟨_, Lib.hid fun _ => rfl⟩
  obtain ⟨nk, hnk⟩ : ∃ n, Hid (∀ _ : Unit, o.parents.length = n) := ⟨_, Lib.hid fun _ => rfl⟩
  have hfor := Lib.hid hfr
  clear hfr
  rw [hnp.out ()] at hl
  rw [hni.out ()] at hl2
  rw [hnk.out ()] at hl3
  have l1 : (np : Int) ≤ 128 := by omega
  have l2 : (ni : Int) ≤ 128 := by omega
  have l3 : (nk : Int) ≤ 127 := by omega
  clear hl hl2 hl3
  obtain ⟨s, hs⟩ : ∃ s, Hid (∀ _ : Unit, o.note = s) := ⟨_, Lib.hid fun _ => rfl⟩
  rw [hs.out ()] at hn4
  have l4 : (s.size : Int) ≤ 1024 := by omega
  rw [hs.out ()] at hlt
  have hv := Lib.hid (fun (W : World) (hT : U8T W) => show Calls Tryd.prog 66 #[.string s] W fun e w' => e = .returned (.bool true) ∧ Below W.heap.size W w' from hlt ▸ valid_any s W (by omega) hT)
  clear hn4 hlt
  have hm' := Lib.hid hm
  have h0' := Lib.hid h0
  have hB' := Lib.hid hB
  clear hm h0 hB hi39
  go_enter Tryd.func32, Tryd.ntmps32
  go_wp2_with (first
    | (refine wpList_load_row rfl 31 _ rfl w.heap.size rfl 31 _ (0, 0) _ h0'.out Tryd.underlying31 rfl (by rw [h39'.out]; exact hi39'.out) ?_)
    | (go_at_call 63
       refine (foreign_b _ o p ((hm'.out.oin.below hB'.out).mono hB'.out.size) hm'.out.fit hfor.out).mono ?_
       rintro e w1 ⟨rfl, b1⟩
       have hb1 := Lib.hid (OBlk.below h0'.out b1 (lt_of_block h0'.out))
       have hB1 := Lib.hid (hB'.out.trans (b1.mono hB'.out.size))
       clear b1 c0
       have c0 := hb1.out.c0
       rw [hK.out ()] at c0
       replace c0 : w1.cell? ⟨w.heap.size, 0, none⟩ = some (.int .u8 4) := c0
       have c2 := hb1.out.c2
       rw [hnp.out ()] at c2
       have c3 := hb1.out.c3
       rw [hni.out ()] at c3
       have c36 := hb1.out.c36
       rw [hnk.out ()] at c36
       have c38 := hb1.out.c38
       rw [hs.out ()] at c38
       skip)
    | (go_at_call 66
       refine (hv.out _ (u8t_keep hm'.out.tabs hB1.out)).mono ?_
       rintro e w2 ⟨rfl, b2⟩
       have hB2 := Lib.hid (hB1.out.trans (b2.mono hB1.out.size))
       clear b2))
  go_ret
  exact ⟨rfl, hB2.out⟩

set_option maxRecDepth 100000 in
set_option maxHeartbeats 2000000 in
theorem may_k4c (w : World) (o : ObjT) (p : Lay) (hm : MayIn w o p) (hk : o.kind = 4) (hfr : forB o = false) (hl : o.parts.length ≤ 128) (hl2 : o.items.length ≤ 128) (hl3 : o.parents.length ≤ 127) (hn4 : o.note.size ≤ 1024) (hlt : lettersD o.note o.note.size 0 = false) :
    Calls Tryd.prog 32 #[.agg (ocells o p).toArray] w fun e w' => e = .returned (.int .i64 (46)) ∧ Below w.heap.size w w' := by
  have hi39 : (Tryd.prog.info? 31).map (·.size) = some 39 := by kernel_rfl
  have hi39' := Lib.hid hi39
  have h39' := Lib.hid (fun (x : ObjT) (q : Lay) => show (ocells x q).toArray.size = 39 by simp [ocells_length])
  have h0 : OBlk (w.alloc (.cells (ocells o p).toArray 31)) w.heap.size o p := heap_alloc_new w _
  have hB : Below w.heap.size w (w.alloc (.cells (ocells o p).toArray 31)) := (Below.refl _ _).alloc (Nat.le_refl _) _
  have c0 := h0.c0
  have hK := Lib.hid (fun _ : Unit => hk)
  clear hk
  rw [hK.out ()] at c0
  replace c0 : (w.alloc (.cells (ocells o p).toArray 31)).cell? ⟨w.heap.size, 0, none⟩ = some (.int .u8 4) := c0
  obtain ⟨np, hnp⟩ : ∃ n, Hid (∀ _ : Unit, o.parts.length = n) := ⟨_, Lib.hid fun _ => rfl⟩
  obtain ⟨ni, hni⟩ : ∃ n, Hid (∀ _ : Unit, o.items.length = n) := ⟨_, Lib.hid fun _ => rfl⟩
  obtain ⟨nk, hnk⟩ : ∃ n, Hid (∀ _ : Unit, o.parents.length = n) := ⟨_, Lib.hid fun _ => rfl⟩
  have hfor := Lib.hid hfr
  clear hfr
  rw [hnp.out ()] at hl
  rw [hni.out ()] at hl2
  rw [hnk.out ()] at hl3
  have l1 : (np : Int) ≤ 128 := by omega
  have l2 : (ni : Int) ≤ 128 := by omega
  have l3 : (nk : Int) ≤ 127 := by omega
  clear hl hl2 hl3
  obtain ⟨s, hs⟩ : ∃ s, Hid (∀ _ : Unit, o.note = s) := ⟨_, Lib.hid fun _ => rfl⟩
  rw [hs.out ()] at hn4
  have l4 : (s.size : Int) ≤ 1024 := by omega
  rw [hs.out ()] at hlt
  have hv := Lib.hid (fun (W : World) (hT : U8T W) => show Calls Tryd.prog 66 #[.string s] W fun e w' => e = .returned (.bool false) ∧ Below W.heap.size W w' from hlt ▸ valid_any s W (by omega) hT)
  clear hn4 hlt
  have hm' := Lib.hid hm
  have h0' := Lib.hid h0
  have hB' := Lib.hid hB
  clear hm h0 hB hi39
  go_enter Tryd.func32, Tryd.ntmps32
  go_wp2_with (first
    | (refine wpList_load_row rfl 31 _ rfl w.heap.size rfl 31 _ (0, 0) _ h0'.out Tryd.underlying31 rfl (by rw [h39'.out]; exact hi39'.out) ?_)
    | (go_at_call 63
       refine (foreign_b _ o p ((hm'.out.oin.below hB'.out).mono hB'.out.size) hm'.out.fit hfor.out).mono ?_
       rintro e w1 ⟨rfl, b1⟩
       have hb1 := Lib.hid (OBlk.below h0'.out b1 (lt_of_block h0'.out))
       have hB1 := Lib.hid (hB'.out.trans (b1.mono hB'.out.size))
       clear b1 c0
       have c0 := hb1.out.c0
       rw [hK.out ()] at c0
       replace c0 : w1.cell? ⟨w.heap.size, 0, none⟩ = some (.int .u8 4) := c0
       have c2 := hb1.out.c2
       rw [hnp.out ()] at c2
       have c3 := hb1.out.c3
       rw [hni.out ()] at c3
       have c36 := hb1.out.c36
       rw [hnk.out ()] at c36
       have c38 := hb1.out.c38
       rw [hs.out ()] at c38
       skip)
    | (go_at_call 66
       refine (hv.out _ (u8t_keep hm'.out.tabs hB1.out)).mono ?_
       rintro e w2 ⟨rfl, b2⟩
       have hB2 := Lib.hid (hB1.out.trans (b2.mono hB1.out.size))
       clear b2))
  go_ret
  exact ⟨rfl, hB2.out⟩

theorem may_any (w : World) (o : ObjT) (p : Lay) (hm : MayIn w o p) :
    Calls Tryd.prog 32 #[.agg (ocells o p).toArray] w fun e w' => e = .returned (.int .i64 (mayE o : Nat)) ∧ Below w.heap.size w w' := by
  unfold mayE
  by_cases hk : o.kind < 1 ∨ 4 < o.kind
  · rw [if_pos hk]
    rcases hk with hk | hk
    · exact may_low w o p hm hk
    · exact may_high w o p hm hk
  · rw [if_neg hk]
    have hk' : 1 ≤ o.kind ∧ o.kind ≤ 4 := by omega
    cases hfr : forB o with
    | true => exact may_for w o p hm hk' hfr
    | false =>
      rw [if_neg (by decide)]
      by_cases l1 : 128 < o.parts.length
      · rw [if_pos (by simp [longB, l1])]
        exact may_long1 w o p hm hk' hfr l1
      · by_cases l2 : 128 < o.items.length
        · rw [if_pos (by simp [longB, l2])]
          exact may_long2 w o p hm hk' hfr (by omega) l2
        · by_cases l3 : 127 < o.parents.length
          · rw [if_pos (by simp [longB, l3])]
            exact may_long3 w o p hm hk' hfr (by omega) (by omega) l3
          · rw [if_neg (by simp [longB]; omega)]
            unfold kindE
            by_cases k2 : o.kind = 2
            · rw [if_pos k2]
              refine (may_k2 w o p hm k2 hfr (by omega) (by omega) (by omega)).mono fun e w' h => ⟨?_, h.2⟩
              rw [h.1]
              cases partsB 0 o.parts <;> rfl
            · rw [if_neg k2]
              by_cases k3 : o.kind = 3
              · rw [if_pos k3]
                exact may_k3 w o p hm k3 hfr (by omega) (by omega) (by omega)
              · rw [if_neg k3]
                by_cases k4 : o.kind = 4
                · rw [if_pos k4]
                  unfold noteB
                  by_cases n4 : 1024 < o.note.size
                  · rw [if_pos (by simp [n4])]
                    exact may_k4a w o p hm k4 hfr (by omega) (by omega) (by omega) n4
                  · cases hlt : lettersD o.note o.note.size 0 with
                    | true => simpa [n4] using may_k4b w o p hm k4 hfr (by omega) (by omega) (by omega) (by omega) hlt
                    | false => simpa [n4] using may_k4c w o p hm k4 hfr (by omega) (by omega) (by omega) (by omega) hlt
                · rw [if_neg k4]
                  exact may_k1 w o p hm (by omega) hfr (by omega) (by omega) (by omega)
end Go.Proofs.YtkjndgapejbgcaaDoor

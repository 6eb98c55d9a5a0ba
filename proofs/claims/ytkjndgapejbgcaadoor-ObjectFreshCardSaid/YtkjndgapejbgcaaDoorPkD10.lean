/- Same: two objects compared. -/
import Derived.Test.YtkjndgapejbgcaaDoorPkD4

namespace Go.Proofs.YtkjndgapejbgcaaDoor
open Go.RowKit
set_option linter.unusedSimpArgs false

set_option maxRecDepth 20000 in
set_option maxHeartbeats 2000000 in
theorem same_way0 (w : World) (a b : ObjT) (p q : Lay) (ha : ObjIn w w.heap.size a p) (hb : ObjIn w w.heap.size b q) (hfa : Fit a) (e0 : ¬ a.kind = b.kind) :
    Calls Tryd.prog 101 #[.agg (ocells a p).toArray, .agg (ocells b q).toArray] w fun e w' => e = .returned (.bool false) ∧ Below w.heap.size w w' := by
  have hi32 : (Tryd.prog.info? 28).map (·.size) = some 32 := by kernel_rfl
  have hB : Below w.heap.size w ((w.alloc (.cells (ocells a p).toArray 31)).alloc (.cells (ocells b q).toArray 31)) := ((Below.refl _ _).alloc (Nat.le_refl _) _).alloc (by simp) _
  have hoa : OBlk ((w.alloc (.cells (ocells a p).toArray 31)).alloc (.cells (ocells b q).toArray 31)) w.heap.size a p := heap_alloc2_old w _ _
  have hob : OBlk ((w.alloc (.cells (ocells a p).toArray 31)).alloc (.cells (ocells b q).toArray 31)) (w.heap.size + 1) b q := heap_alloc2_new w _ _
  have hA' := Lib.hid (ha.below hB)
  have hB' := Lib.hid (hb.below hB)
  have hfa' := Lib.hid hfa
  have hi32' := Lib.hid hi32
  have hBel := Lib.hid hB
  have ta := Lib.hid hoa.tree
  have tb := Lib.hid hob.tree
  have ac0 := hoa.c0; have ac1 := hoa.c1; have ac2 := hoa.c2; have ac3 := hoa.c3; have ac36 := hoa.c36; have ac37 := hoa.c37; have ac38 := hoa.c38
  have bc0 := hob.c0; have bc1 := hob.c1; have bc2 := hob.c2; have bc3 := hob.c3; have bc36 := hob.c36; have bc37 := hob.c37; have bc38 := hob.c38
  have hqk := fun w => eqK a.tree b.tree w
  have hq0 : ((a.kind : Int) == (b.kind : Int)) = decide (a.kind = b.kind) := int_eq
  have hq7 : (a.note.toList == b.note.toList) = decide (a.note = b.note) := bytes_eq _ _
  have d0 : decide (a.kind = b.kind) = false := decide_eq_false e0
  rw [d0] at hq0
  clear e0
  clear ha hb hfa hi32 hB hqk hq7
  go_enter Tryd.func101, Tryd.ntmps101
  go_wp2_with (first
    | fail)
  go_ret
  exact ⟨rfl, (by first | exact hBel.out | exact below_drewN hBel.out _)⟩

set_option maxRecDepth 20000 in
set_option maxHeartbeats 2000000 in
theorem same_way1 (w : World) (a b : ObjT) (p q : Lay) (ha : ObjIn w w.heap.size a p) (hb : ObjIn w w.heap.size b q) (hfa : Fit a) (e0 : a.kind = b.kind) (e1 : ¬ a.data = b.data) :
    Calls Tryd.prog 101 #[.agg (ocells a p).toArray, .agg (ocells b q).toArray] w fun e w' => e = .returned (.bool false) ∧ Below w.heap.size w w' := by
  have hi32 : (Tryd.prog.info? 28).map (·.size) = some 32 := by kernel_rfl
  have hB : Below w.heap.size w ((w.alloc (.cells (ocells a p).toArray 31)).alloc (.cells (ocells b q).toArray 31)) := ((Below.refl _ _).alloc (Nat.le_refl _) _).alloc (by simp) _
  have hoa : OBlk ((w.alloc (.cells (ocells a p).toArray 31)).alloc (.cells (ocells b q).toArray 31)) w.heap.size a p := heap_alloc2_old w _ _
  have hob : OBlk ((w.alloc (.cells (ocells a p).toArray 31)).alloc (.cells (ocells b q).toArray 31)) (w.heap.size + 1) b q := heap_alloc2_new w _ _
  have hA' := Lib.hid (ha.below hB)
  have hB' := Lib.hid (hb.below hB)
  have hfa' := Lib.hid hfa
  have hi32' := Lib.hid hi32
  have hBel := Lib.hid hB
  have ta := Lib.hid hoa.tree
  have tb := Lib.hid hob.tree
  have ac0 := hoa.c0; have ac1 := hoa.c1; have ac2 := hoa.c2; have ac3 := hoa.c3; have ac36 := hoa.c36; have ac37 := hoa.c37; have ac38 := hoa.c38
  have bc0 := hob.c0; have bc1 := hob.c1; have bc2 := hob.c2; have bc3 := hob.c3; have bc36 := hob.c36; have bc37 := hob.c37; have bc38 := hob.c38
  have hqk := fun w => eqK a.tree b.tree w
  have hq0 : ((a.kind : Int) == (b.kind : Int)) = decide (a.kind = b.kind) := int_eq
  have hq7 : (a.note.toList == b.note.toList) = decide (a.note = b.note) := bytes_eq _ _
  have d0 : decide (a.kind = b.kind) = true := decide_eq_true e0
  rw [d0] at hq0
  clear e0
  have d1 : decide (a.data = b.data) = false := decide_eq_false e1
  clear e1
  clear ha hb hfa hi32 hB hqk hq7
  go_enter Tryd.func101, Tryd.ntmps101
  go_wp2_with (first
    | (go_at_call 111; refine (equalB_any _ a.data b.data _ _ _ _ _ _ (by exact hA'.out.d) (by exact hB'.out.d) (by have := hfa'.out.d; omega)).mono ?_; rintro e w' ⟨rfl, q', rfl⟩; skip))
  go_ret
  exact ⟨rfl, (by first | exact hBel.out | exact below_drewN hBel.out _)⟩

set_option maxRecDepth 20000 in
set_option maxHeartbeats 2000000 in
theorem same_way2 (w : World) (a b : ObjT) (p q : Lay) (ha : ObjIn w w.heap.size a p) (hb : ObjIn w w.heap.size b q) (hfa : Fit a) (e0 : a.kind = b.kind) (e1 : a.data = b.data) (e2 : ¬ a.parts = b.parts) :
    Calls Tryd.prog 101 #[.agg (ocells a p).toArray, .agg (ocells b q).toArray] w fun e w' => e = .returned (.bool false) ∧ Below w.heap.size w w' := by
  have hi32 : (Tryd.prog.info? 28).map (·.size) = some 32 := by kernel_rfl
  have hB : Below w.heap.size w ((w.alloc (.cells (ocells a p).toArray 31)).alloc (.cells (ocells b q).toArray 31)) := ((Below.refl _ _).alloc (Nat.le_refl _) _).alloc (by simp) _
  have hoa : OBlk ((w.alloc (.cells (ocells a p).toArray 31)).alloc (.cells (ocells b q).toArray 31)) w.heap.size a p := heap_alloc2_old w _ _
  have hob : OBlk ((w.alloc (.cells (ocells a p).toArray 31)).alloc (.cells (ocells b q).toArray 31)) (w.heap.size + 1) b q := heap_alloc2_new w _ _
  have hA' := Lib.hid (ha.below hB)
  have hB' := Lib.hid (hb.below hB)
  have hfa' := Lib.hid hfa
  have hi32' := Lib.hid hi32
  have hBel := Lib.hid hB
  have ta := Lib.hid hoa.tree
  have tb := Lib.hid hob.tree
  have ac0 := hoa.c0; have ac1 := hoa.c1; have ac2 := hoa.c2; have ac3 := hoa.c3; have ac36 := hoa.c36; have ac37 := hoa.c37; have ac38 := hoa.c38
  have bc0 := hob.c0; have bc1 := hob.c1; have bc2 := hob.c2; have bc3 := hob.c3; have bc36 := hob.c36; have bc37 := hob.c37; have bc38 := hob.c38
  have hqk := fun w => eqK a.tree b.tree w
  have hq0 : ((a.kind : Int) == (b.kind : Int)) = decide (a.kind = b.kind) := int_eq
  have hq7 : (a.note.toList == b.note.toList) = decide (a.note = b.note) := bytes_eq _ _
  have d0 : decide (a.kind = b.kind) = true := decide_eq_true e0
  rw [d0] at hq0
  clear e0
  have d1 : decide (a.data = b.data) = true := decide_eq_true e1
  clear e1
  have d2 : decide (a.parts = b.parts) = false := decide_eq_false e2
  clear e2
  clear ha hb hfa hi32 hB hqk hq7
  go_enter Tryd.func101, Tryd.ntmps101
  go_wp2_with (first
    | (go_at_call 111; refine (equalB_any _ a.data b.data _ _ _ _ _ _ (by exact hA'.out.d) (by exact hB'.out.d) (by have := hfa'.out.d; omega)).mono ?_; rintro e w' ⟨rfl, q', rfl⟩; skip)
    | (go_at_call 112; refine (equalP_any _ a.parts b.parts _ _ _ _ _ _ (by exact hA'.out.ps) (by exact hB'.out.ps) (by have := hfa'.out.ps; omega)).mono ?_; rintro e w' ⟨rfl, q', rfl⟩; skip))
  go_ret
  exact ⟨rfl, (by first | exact hBel.out | exact below_drewN hBel.out _)⟩

set_option maxRecDepth 20000 in
set_option maxHeartbeats 2000000 in
theorem same_way3 (w : World) (a b : ObjT) (p q : Lay) (ha : ObjIn w w.heap.size a p) (hb : ObjIn w w.heap.size b q) (hfa : Fit a) (e0 : a.kind = b.kind) (e1 : a.data = b.data) (e2 : a.parts = b.parts) (e3 : ¬ a.items = b.items) :
    Calls Tryd.prog 101 #[.agg (ocells a p).toArray, .agg (ocells b q).toArray] w fun e w' => e = .returned (.bool false) ∧ Below w.heap.size w w' := by
  have hi32 : (Tryd.prog.info? 28).map (·.size) = some 32 := by kernel_rfl
  have hB : Below w.heap.size w ((w.alloc (.cells (ocells a p).toArray 31)).alloc (.cells (ocells b q).toArray 31)) := ((Below.refl _ _).alloc (Nat.le_refl _) _).alloc (by simp) _
  have hoa : OBlk ((w.alloc (.cells (ocells a p).toArray 31)).alloc (.cells (ocells b q).toArray 31)) w.heap.size a p := heap_alloc2_old w _ _
  have hob : OBlk ((w.alloc (.cells (ocells a p).toArray 31)).alloc (.cells (ocells b q).toArray 31)) (w.heap.size + 1) b q := heap_alloc2_new w _ _
  have hA' := Lib.hid (ha.below hB)
  have hB' := Lib.hid (hb.below hB)
  have hfa' := Lib.hid hfa
  have hi32' := Lib.hid hi32
  have hBel := Lib.hid hB
  have ta := Lib.hid hoa.tree
  have tb := Lib.hid hob.tree
  have ac0 := hoa.c0; have ac1 := hoa.c1; have ac2 := hoa.c2; have ac3 := hoa.c3; have ac36 := hoa.c36; have ac37 := hoa.c37; have ac38 := hoa.c38
  have bc0 := hob.c0; have bc1 := hob.c1; have bc2 := hob.c2; have bc3 := hob.c3; have bc36 := hob.c36; have bc37 := hob.c37; have bc38 := hob.c38
  have hqk := fun w => eqK a.tree b.tree w
  have hq0 : ((a.kind : Int) == (b.kind : Int)) = decide (a.kind = b.kind) := int_eq
  have hq7 : (a.note.toList == b.note.toList) = decide (a.note = b.note) := bytes_eq _ _
  have d0 : decide (a.kind = b.kind) = true := decide_eq_true e0
  rw [d0] at hq0
  clear e0
  have d1 : decide (a.data = b.data) = true := decide_eq_true e1
  clear e1
  have d2 : decide (a.parts = b.parts) = true := decide_eq_true e2
  clear e2
  have d3 : decide (a.items = b.items) = false := decide_eq_false e3
  clear e3
  clear ha hb hfa hi32 hB hqk hq7
  go_enter Tryd.func101, Tryd.ntmps101
  go_wp2_with (first
    | (go_at_call 111; refine (equalB_any _ a.data b.data _ _ _ _ _ _ (by exact hA'.out.d) (by exact hB'.out.d) (by have := hfa'.out.d; omega)).mono ?_; rintro e w' ⟨rfl, q', rfl⟩; skip)
    | (go_at_call 112; refine (equalP_any _ a.parts b.parts _ _ _ _ _ _ (by exact hA'.out.ps) (by exact hB'.out.ps) (by have := hfa'.out.ps; omega)).mono ?_; rintro e w' ⟨rfl, q', rfl⟩; skip)
    | (go_at_call 113; refine (equalI_any _ a.items b.items _ _ _ _ _ _ (by exact hA'.out.xs) (by exact hB'.out.xs) (by have := hfa'.out.xs; omega)).mono ?_; rintro e w' ⟨rfl, q', rfl⟩; skip))
  go_ret
  exact ⟨rfl, (by first | exact hBel.out | exact below_drewN hBel.out _)⟩

set_option maxRecDepth 20000 in
set_option maxHeartbeats 2000000 in
theorem same_way4 (w : World) (a b : ObjT) (p q : Lay) (ha : ObjIn w w.heap.size a p) (hb : ObjIn w w.heap.size b q) (hfa : Fit a) (e0 : a.kind = b.kind) (e1 : a.data = b.data) (e2 : a.parts = b.parts) (e3 : a.items = b.items) (e4 : ¬ a.tree = b.tree) :
    Calls Tryd.prog 101 #[.agg (ocells a p).toArray, .agg (ocells b q).toArray] w fun e w' => e = .returned (.bool false) ∧ Below w.heap.size w w' := by
  have hi32 : (Tryd.prog.info? 28).map (·.size) = some 32 := by kernel_rfl
  have hB : Below w.heap.size w ((w.alloc (.cells (ocells a p).toArray 31)).alloc (.cells (ocells b q).toArray 31)) := ((Below.refl _ _).alloc (Nat.le_refl _) _).alloc (by simp) _
  have hoa : OBlk ((w.alloc (.cells (ocells a p).toArray 31)).alloc (.cells (ocells b q).toArray 31)) w.heap.size a p := heap_alloc2_old w _ _
  have hob : OBlk ((w.alloc (.cells (ocells a p).toArray 31)).alloc (.cells (ocells b q).toArray 31)) (w.heap.size + 1) b q := heap_alloc2_new w _ _
  have hA' := Lib.hid (ha.below hB)
  have hB' := Lib.hid (hb.below hB)
  have hfa' := Lib.hid hfa
  have hi32' := Lib.hid hi32
  have hBel := Lib.hid hB
  have ta := Lib.hid hoa.tree
  have tb := Lib.hid hob.tree
  have ac0 := hoa.c0; have ac1 := hoa.c1; have ac2 := hoa.c2; have ac3 := hoa.c3; have ac36 := hoa.c36; have ac37 := hoa.c37; have ac38 := hoa.c38
  have bc0 := hob.c0; have bc1 := hob.c1; have bc2 := hob.c2; have bc3 := hob.c3; have bc36 := hob.c36; have bc37 := hob.c37; have bc38 := hob.c38
  have hqk := fun w => eqK a.tree b.tree w
  have hq0 : ((a.kind : Int) == (b.kind : Int)) = decide (a.kind = b.kind) := int_eq
  have hq7 : (a.note.toList == b.note.toList) = decide (a.note = b.note) := bytes_eq _ _
  have d0 : decide (a.kind = b.kind) = true := decide_eq_true e0
  rw [d0] at hq0
  clear e0
  have d1 : decide (a.data = b.data) = true := decide_eq_true e1
  clear e1
  have d2 : decide (a.parts = b.parts) = true := decide_eq_true e2
  clear e2
  have d3 : decide (a.items = b.items) = true := decide_eq_true e3
  clear e3
  have d4 : decide (a.tree = b.tree) = false := decide_eq_false e4
  rw [d4] at hqk
  clear e4
  clear ha hb hfa hi32 hB hq7
  go_enter Tryd.func101, Tryd.ntmps101
  go_wp2_with (first
    | (go_at_call 111; refine (equalB_any _ a.data b.data _ _ _ _ _ _ (by exact hA'.out.d) (by exact hB'.out.d) (by have := hfa'.out.d; omega)).mono ?_; rintro e w' ⟨rfl, q', rfl⟩; skip)
    | (go_at_call 112; refine (equalP_any _ a.parts b.parts _ _ _ _ _ _ (by exact hA'.out.ps) (by exact hB'.out.ps) (by have := hfa'.out.ps; omega)).mono ?_; rintro e w' ⟨rfl, q', rfl⟩; skip)
    | (go_at_call 113; refine (equalI_any _ a.items b.items _ _ _ _ _ _ (by exact hA'.out.xs) (by exact hB'.out.xs) (by have := hfa'.out.xs; omega)).mono ?_; rintro e w' ⟨rfl, q', rfl⟩; skip)
    | (refine wpList_load_mid_g rfl 28 _ rfl w.heap.size 4 rfl (encK a.tree) _ ta.out Tryd.underlying28 rfl (by rw [encK_length]; exact hi32'.out) ?_)
    | (refine wpList_load_mid_g rfl 28 _ rfl (w.heap.size + 1) 4 rfl (encK b.tree) _ tb.out Tryd.underlying28 rfl (by rw [encK_length]; exact hi32'.out) ?_))
  go_ret
  exact ⟨rfl, (by first | exact hBel.out | exact below_drewN hBel.out _)⟩

set_option maxRecDepth 20000 in
set_option maxHeartbeats 2000000 in
theorem same_way5 (w : World) (a b : ObjT) (p q : Lay) (ha : ObjIn w w.heap.size a p) (hb : ObjIn w w.heap.size b q) (hfa : Fit a) (e0 : a.kind = b.kind) (e1 : a.data = b.data) (e2 : a.parts = b.parts) (e3 : a.items = b.items) (e4 : a.tree = b.tree) (e5 : ¬ a.parents = b.parents) :
    Calls Tryd.prog 101 #[.agg (ocells a p).toArray, .agg (ocells b q).toArray] w fun e w' => e = .returned (.bool false) ∧ Below w.heap.size w w' := by
  have hi32 : (Tryd.prog.info? 28).map (·.size) = some 32 := by kernel_rfl
  have hB : Below w.heap.size w ((w.alloc (.cells (ocells a p).toArray 31)).alloc (.cells (ocells b q).toArray 31)) := ((Below.refl _ _).alloc (Nat.le_refl _) _).alloc (by simp) _
  have hoa : OBlk ((w.alloc (.cells (ocells a p).toArray 31)).alloc (.cells (ocells b q).toArray 31)) w.heap.size a p := heap_alloc2_old w _ _
  have hob : OBlk ((w.alloc (.cells (ocells a p).toArray 31)).alloc (.cells (ocells b q).toArray 31)) (w.heap.size + 1) b q := heap_alloc2_new w _ _
  have hA' := Lib.hid (ha.below hB)
  have hB' := Lib.hid (hb.below hB)
  have hfa' := Lib.hid hfa
  have hi32' := Lib.hid hi32
  have hBel := Lib.hid hB
  have ta := Lib.hid hoa.tree
  have tb := Lib.hid hob.tree
  have ac0 := hoa.c0; have ac1 := hoa.c1; have ac2 := hoa.c2; have ac3 := hoa.c3; have ac36 := hoa.c36; have ac37 := hoa.c37; have ac38 := hoa.c38
  have bc0 := hob.c0; have bc1 := hob.c1; have bc2 := hob.c2; have bc3 := hob.c3; have bc36 := hob.c36; have bc37 := hob.c37; have bc38 := hob.c38
  have hqk := fun w => eqK a.tree b.tree w
  have hq0 : ((a.kind : Int) == (b.kind : Int)) = decide (a.kind = b.kind) := int_eq
  have hq7 : (a.note.toList == b.note.toList) = decide (a.note = b.note) := bytes_eq _ _
  have d0 : decide (a.kind = b.kind) = true := decide_eq_true e0
  rw [d0] at hq0
  clear e0
  have d1 : decide (a.data = b.data) = true := decide_eq_true e1
  clear e1
  have d2 : decide (a.parts = b.parts) = true := decide_eq_true e2
  clear e2
  have d3 : decide (a.items = b.items) = true := decide_eq_true e3
  clear e3
  have d4 : decide (a.tree = b.tree) = true := decide_eq_true e4
  rw [d4] at hqk
  clear e4
  have d5 : decide (a.parents = b.parents) = false := decide_eq_false e5
  clear e5
  clear ha hb hfa hi32 hB hq7
  go_enter Tryd.func101, Tryd.ntmps101
  go_wp2_with (first
    | (go_at_call 111; refine (equalB_any _ a.data b.data _ _ _ _ _ _ (by exact hA'.out.d) (by exact hB'.out.d) (by have := hfa'.out.d; omega)).mono ?_; rintro e w' ⟨rfl, q', rfl⟩; skip)
    | (go_at_call 112; refine (equalP_any _ a.parts b.parts _ _ _ _ _ _ (by exact hA'.out.ps) (by exact hB'.out.ps) (by have := hfa'.out.ps; omega)).mono ?_; rintro e w' ⟨rfl, q', rfl⟩; skip)
    | (go_at_call 113; refine (equalI_any _ a.items b.items _ _ _ _ _ _ (by exact hA'.out.xs) (by exact hB'.out.xs) (by have := hfa'.out.xs; omega)).mono ?_; rintro e w' ⟨rfl, q', rfl⟩; skip)
    | (go_at_call 114; refine (equalK_any _ a.parents b.parents _ _ _ _ _ _ (by exact hA'.out.ks) (by exact hB'.out.ks) (by have := hfa'.out.ks; omega)).mono ?_; rintro e w' ⟨rfl, q', rfl⟩; skip)
    | (refine wpList_load_mid_g rfl 28 _ rfl w.heap.size 4 rfl (encK a.tree) _ ta.out Tryd.underlying28 rfl (by rw [encK_length]; exact hi32'.out) ?_)
    | (refine wpList_load_mid_g rfl 28 _ rfl (w.heap.size + 1) 4 rfl (encK b.tree) _ tb.out Tryd.underlying28 rfl (by rw [encK_length]; exact hi32'.out) ?_))
  go_ret
  exact ⟨rfl, (by first | exact hBel.out | exact below_drewN hBel.out _)⟩

set_option maxRecDepth 20000 in
set_option maxHeartbeats 2000000 in
theorem same_way6 (w : World) (a b : ObjT) (p q : Lay) (ha : ObjIn w w.heap.size a p) (hb : ObjIn w w.heap.size b q) (hfa : Fit a) (e0 : a.kind = b.kind) (e1 : a.data = b.data) (e2 : a.parts = b.parts) (e3 : a.items = b.items) (e4 : a.tree = b.tree) (e5 : a.parents = b.parents) (e6 : ¬ a.time = b.time) :
    Calls Tryd.prog 101 #[.agg (ocells a p).toArray, .agg (ocells b q).toArray] w fun e w' => e = .returned (.bool false) ∧ Below w.heap.size w w' := by
  have hi32 : (Tryd.prog.info? 28).map (·.size) = some 32 := by kernel_rfl
  have hB : Below w.heap.size w ((w.alloc (.cells (ocells a p).toArray 31)).alloc (.cells (ocells b q).toArray 31)) := ((Below.refl _ _).alloc (Nat.le_refl _) _).alloc (by simp) _
  have hoa : OBlk ((w.alloc (.cells (ocells a p).toArray 31)).alloc (.cells (ocells b q).toArray 31)) w.heap.size a p := heap_alloc2_old w _ _
  have hob : OBlk ((w.alloc (.cells (ocells a p).toArray 31)).alloc (.cells (ocells b q).toArray 31)) (w.heap.size + 1) b q := heap_alloc2_new w _ _
  have hA' := Lib.hid (ha.below hB)
  have hB' := Lib.hid (hb.below hB)
  have hfa' := Lib.hid hfa
  have hi32' := Lib.hid hi32
  have hBel := Lib.hid hB
  have ta := Lib.hid hoa.tree
  have tb := Lib.hid hob.tree
  have ac0 := hoa.c0; have ac1 := hoa.c1; have ac2 := hoa.c2; have ac3 := hoa.c3; have ac36 := hoa.c36; have ac37 := hoa.c37; have ac38 := hoa.c38
  have bc0 := hob.c0; have bc1 := hob.c1; have bc2 := hob.c2; have bc3 := hob.c3; have bc36 := hob.c36; have bc37 := hob.c37; have bc38 := hob.c38
  have hqk := fun w => eqK a.tree b.tree w
  have hq0 : ((a.kind : Int) == (b.kind : Int)) = decide (a.kind = b.kind) := int_eq
  have hq7 : (a.note.toList == b.note.toList) = decide (a.note = b.note) := bytes_eq _ _
  have d0 : decide (a.kind = b.kind) = true := decide_eq_true e0
  rw [d0] at hq0
  clear e0
  have d1 : decide (a.data = b.data) = true := decide_eq_true e1
  clear e1
  have d2 : decide (a.parts = b.parts) = true := decide_eq_true e2
  clear e2
  have d3 : decide (a.items = b.items) = true := decide_eq_true e3
  clear e3
  have d4 : decide (a.tree = b.tree) = true := decide_eq_true e4
  rw [d4] at hqk
  clear e4
  have d5 : decide (a.parents = b.parents) = true := decide_eq_true e5
  clear e5
  have d6 : decide (a.time = b.time) = false := decide_eq_false e6
  have hq6 : (a.time == b.time) = false := by simp [e6]
  clear e6
  clear ha hb hfa hi32 hB hq7
  go_enter Tryd.func101, Tryd.ntmps101
  go_wp2_with (first
    | (go_at_call 111; refine (equalB_any _ a.data b.data _ _ _ _ _ _ (by exact hA'.out.d) (by exact hB'.out.d) (by have := hfa'.out.d; omega)).mono ?_; rintro e w' ⟨rfl, q', rfl⟩; skip)
    | (go_at_call 112; refine (equalP_any _ a.parts b.parts _ _ _ _ _ _ (by exact hA'.out.ps) (by exact hB'.out.ps) (by have := hfa'.out.ps; omega)).mono ?_; rintro e w' ⟨rfl, q', rfl⟩; skip)
    | (go_at_call 113; refine (equalI_any _ a.items b.items _ _ _ _ _ _ (by exact hA'.out.xs) (by exact hB'.out.xs) (by have := hfa'.out.xs; omega)).mono ?_; rintro e w' ⟨rfl, q', rfl⟩; skip)
    | (go_at_call 114; refine (equalK_any _ a.parents b.parents _ _ _ _ _ _ (by exact hA'.out.ks) (by exact hB'.out.ks) (by have := hfa'.out.ks; omega)).mono ?_; rintro e w' ⟨rfl, q', rfl⟩; skip)
    | (refine wpList_load_mid_g rfl 28 _ rfl w.heap.size 4 rfl (encK a.tree) _ ta.out Tryd.underlying28 rfl (by rw [encK_length]; exact hi32'.out) ?_)
    | (refine wpList_load_mid_g rfl 28 _ rfl (w.heap.size + 1) 4 rfl (encK b.tree) _ tb.out Tryd.underlying28 rfl (by rw [encK_length]; exact hi32'.out) ?_))
  go_ret
  exact ⟨rfl, (by first | exact hBel.out | exact below_drewN hBel.out _)⟩

set_option maxRecDepth 20000 in
set_option maxHeartbeats 2000000 in
theorem same_way7 (w : World) (a b : ObjT) (p q : Lay) (ha : ObjIn w w.heap.size a p) (hb : ObjIn w w.heap.size b q) (hfa : Fit a) (e0 : a.kind = b.kind) (e1 : a.data = b.data) (e2 : a.parts = b.parts) (e3 : a.items = b.items) (e4 : a.tree = b.tree) (e5 : a.parents = b.parents) (e6 : a.time = b.time) (e7 : ¬ a.note = b.note) :
    Calls Tryd.prog 101 #[.agg (ocells a p).toArray, .agg (ocells b q).toArray] w fun e w' => e = .returned (.bool false) ∧ Below w.heap.size w w' := by
  have hi32 : (Tryd.prog.info? 28).map (·.size) = some 32 := by kernel_rfl
  have hB : Below w.heap.size w ((w.alloc (.cells (ocells a p).toArray 31)).alloc (.cells (ocells b q).toArray 31)) := ((Below.refl _ _).alloc (Nat.le_refl _) _).alloc (by simp) _
  have hoa : OBlk ((w.alloc (.cells (ocells a p).toArray 31)).alloc (.cells (ocells b q).toArray 31)) w.heap.size a p := heap_alloc2_old w _ _
  have hob : OBlk ((w.alloc (.cells (ocells a p).toArray 31)).alloc (.cells (ocells b q).toArray 31)) (w.heap.size + 1) b q := heap_alloc2_new w _ _
  have hA' := Lib.hid (ha.below hB)
  have hB' := Lib.hid (hb.below hB)
  have hfa' := Lib.hid hfa
  have hi32' := Lib.hid hi32
  have hBel := Lib.hid hB
  have ta := Lib.hid hoa.tree
  have tb := Lib.hid hob.tree
  have ac0 := hoa.c0; have ac1 := hoa.c1; have ac2 := hoa.c2; have ac3 := hoa.c3; have ac36 := hoa.c36; have ac37 := hoa.c37; have ac38 := hoa.c38
  have bc0 := hob.c0; have bc1 := hob.c1; have bc2 := hob.c2; have bc3 := hob.c3; have bc36 := hob.c36; have bc37 := hob.c37; have bc38 := hob.c38
  have hqk := fun w => eqK a.tree b.tree w
  have hq0 : ((a.kind : Int) == (b.kind : Int)) = decide (a.kind = b.kind) := int_eq
  have hq7 : (a.note.toList == b.note.toList) = decide (a.note = b.note) := bytes_eq _ _
  have d0 : decide (a.kind = b.kind) = true := decide_eq_true e0
  rw [d0] at hq0
  clear e0
  have d1 : decide (a.data = b.data) = true := decide_eq_true e1
  clear e1
  have d2 : decide (a.parts = b.parts) = true := decide_eq_true e2
  clear e2
  have d3 : decide (a.items = b.items) = true := decide_eq_true e3
  clear e3
  have d4 : decide (a.tree = b.tree) = true := decide_eq_true e4
  rw [d4] at hqk
  clear e4
  have d5 : decide (a.parents = b.parents) = true := decide_eq_true e5
  clear e5
  have d6 : decide (a.time = b.time) = true := decide_eq_true e6
  have hq6 : (a.time == b.time) = true := by simp [e6]
  clear e6
  have d7 : decide (a.note = b.note) = false := decide_eq_false e7
  rw [d7] at hq7
  clear e7
  clear ha hb hfa hi32 hB
  go_enter Tryd.func101, Tryd.ntmps101
  go_wp2_with (first
    | (go_at_call 111; refine (equalB_any _ a.data b.data _ _ _ _ _ _ (by exact hA'.out.d) (by exact hB'.out.d) (by have := hfa'.out.d; omega)).mono ?_; rintro e w' ⟨rfl, q', rfl⟩; skip)
    | (go_at_call 112; refine (equalP_any _ a.parts b.parts _ _ _ _ _ _ (by exact hA'.out.ps) (by exact hB'.out.ps) (by have := hfa'.out.ps; omega)).mono ?_; rintro e w' ⟨rfl, q', rfl⟩; skip)
    | (go_at_call 113; refine (equalI_any _ a.items b.items _ _ _ _ _ _ (by exact hA'.out.xs) (by exact hB'.out.xs) (by have := hfa'.out.xs; omega)).mono ?_; rintro e w' ⟨rfl, q', rfl⟩; skip)
    | (go_at_call 114; refine (equalK_any _ a.parents b.parents _ _ _ _ _ _ (by exact hA'.out.ks) (by exact hB'.out.ks) (by have := hfa'.out.ks; omega)).mono ?_; rintro e w' ⟨rfl, q', rfl⟩; skip)
    | (refine wpList_load_mid_g rfl 28 _ rfl w.heap.size 4 rfl (encK a.tree) _ ta.out Tryd.underlying28 rfl (by rw [encK_length]; exact hi32'.out) ?_)
    | (refine wpList_load_mid_g rfl 28 _ rfl (w.heap.size + 1) 4 rfl (encK b.tree) _ tb.out Tryd.underlying28 rfl (by rw [encK_length]; exact hi32'.out) ?_))
  go_ret
  exact ⟨rfl, (by first | exact hBel.out | exact below_drewN hBel.out _)⟩

set_option maxRecDepth 20000 in
set_option maxHeartbeats 2000000 in
theorem same_way8 (w : World) (a b : ObjT) (p q : Lay) (ha : ObjIn w w.heap.size a p) (hb : ObjIn w w.heap.size b q) (hfa : Fit a) (e0 : a.kind = b.kind) (e1 : a.data = b.data) (e2 : a.parts = b.parts) (e3 : a.items = b.items) (e4 : a.tree = b.tree) (e5 : a.parents = b.parents) (e6 : a.time = b.time) (e7 : a.note = b.note) :
    Calls Tryd.prog 101 #[.agg (ocells a p).toArray, .agg (ocells b q).toArray] w fun e w' => e = .returned (.bool true) ∧ Below w.heap.size w w' := by
  have hi32 : (Tryd.prog.info? 28).map (·.size) = some 32 := by kernel_rfl
  have hB : Below w.heap.size w ((w.alloc (.cells (ocells a p).toArray 31)).alloc (.cells (ocells b q).toArray 31)) := ((Below.refl _ _).alloc (Nat.le_refl _) _).alloc (by simp) _
  have hoa : OBlk ((w.alloc (.cells (ocells a p).toArray 31)).alloc (.cells (ocells b q).toArray 31)) w.heap.size a p := heap_alloc2_old w _ _
  have hob : OBlk ((w.alloc (.cells (ocells a p).toArray 31)).alloc (.cells (ocells b q).toArray 31)) (w.heap.size + 1) b q := heap_alloc2_new w _ _
  have hA' := Lib.hid (ha.below hB)
  have hB' := Lib.hid (hb.below hB)
  have hfa' := Lib.hid hfa
  have hi32' := Lib.hid hi32
  have hBel := Lib.hid hB
  have ta := Lib.hid hoa.tree
  have tb := Lib.hid hob.tree
  have ac0 := hoa.c0; have ac1 := hoa.c1; have ac2 := hoa.c2; have ac3 := hoa.c3; have ac36 := hoa.c36; have ac37 := hoa.c37; have ac38 := hoa.c38
  have bc0 := hob.c0; have bc1 := hob.c1; have bc2 := hob.c2; have bc3 := hob.c3; have bc36 := hob.c36; have bc37 := hob.c37; have bc38 := hob.c38
  have hqk := fun w => eqK a.tree b.tree w
  have hq0 : ((a.kind : Int) == (b.kind : Int)) = decide (a.kind = b.kind) := int_eq
  have hq7 : (a.note.toList == b.note.toList) = decide (a.note = b.note) := bytes_eq _ _
  have d0 : decide (a.kind = b.kind) = true := decide_eq_true e0
  rw [d0] at hq0
  clear e0
  have d1 : decide (a.data = b.data) = true := decide_eq_true e1
  clear e1
  have d2 : decide (a.parts = b.parts) = true := decide_eq_true e2
  clear e2
  have d3 : decide (a.items = b.items) = true := decide_eq_true e3
  clear e3
  have d4 : decide (a.tree = b.tree) = true := decide_eq_true e4
  rw [d4] at hqk
  clear e4
  have d5 : decide (a.parents = b.parents) = true := decide_eq_true e5
  clear e5
  have d6 : decide (a.time = b.time) = true := decide_eq_true e6
  have hq6 : (a.time == b.time) = true := by simp [e6]
  clear e6
  have d7 : decide (a.note = b.note) = true := decide_eq_true e7
  rw [d7] at hq7
  clear e7
  clear ha hb hfa hi32 hB
  go_enter Tryd.func101, Tryd.ntmps101
  go_wp2_with (first
    | (go_at_call 111; refine (equalB_any _ a.data b.data _ _ _ _ _ _ (by exact hA'.out.d) (by exact hB'.out.d) (by have := hfa'.out.d; omega)).mono ?_; rintro e w' ⟨rfl, q', rfl⟩; skip)
    | (go_at_call 112; refine (equalP_any _ a.parts b.parts _ _ _ _ _ _ (by exact hA'.out.ps) (by exact hB'.out.ps) (by have := hfa'.out.ps; omega)).mono ?_; rintro e w' ⟨rfl, q', rfl⟩; skip)
    | (go_at_call 113; refine (equalI_any _ a.items b.items _ _ _ _ _ _ (by exact hA'.out.xs) (by exact hB'.out.xs) (by have := hfa'.out.xs; omega)).mono ?_; rintro e w' ⟨rfl, q', rfl⟩; skip)
    | (go_at_call 114; refine (equalK_any _ a.parents b.parents _ _ _ _ _ _ (by exact hA'.out.ks) (by exact hB'.out.ks) (by have := hfa'.out.ks; omega)).mono ?_; rintro e w' ⟨rfl, q', rfl⟩; skip)
    | (refine wpList_load_mid_g rfl 28 _ rfl w.heap.size 4 rfl (encK a.tree) _ ta.out Tryd.underlying28 rfl (by rw [encK_length]; exact hi32'.out) ?_)
    | (refine wpList_load_mid_g rfl 28 _ rfl (w.heap.size + 1) 4 rfl (encK b.tree) _ tb.out Tryd.underlying28 rfl (by rw [encK_length]; exact hi32'.out) ?_))
  go_ret
  exact ⟨rfl, (by first | exact hBel.out | exact below_drewN hBel.out _)⟩

theorem same_any (w : World) (a b : ObjT) (p q : Lay) (ha : ObjIn w w.heap.size a p) (hb : ObjIn w w.heap.size b q) (hfa : Fit a) :
    Calls Tryd.prog 101 #[.agg (ocells a p).toArray, .agg (ocells b q).toArray] w fun e w' => e = .returned (.bool (sameO a b)) ∧ Below w.heap.size w w' := by
  by_cases e0 : a.kind = b.kind
  rotate_left
  · rw [show sameO a b = false by simp [sameO, e0]]
    exact same_way0 w a b p q ha hb hfa e0
  by_cases e1 : a.data = b.data
  rotate_left
  · rw [show sameO a b = false by simp [sameO, e1]]
    exact same_way1 w a b p q ha hb hfa e0 e1
  by_cases e2 : a.parts = b.parts
  rotate_left
  · rw [show sameO a b = false by simp [sameO, e2]]
    exact same_way2 w a b p q ha hb hfa e0 e1 e2
  by_cases e3 : a.items = b.items
  rotate_left
  · rw [show sameO a b = false by simp [sameO, e3]]
    exact same_way3 w a b p q ha hb hfa e0 e1 e2 e3
  by_cases e4 : a.tree = b.tree
  rotate_left
  · rw [show sameO a b = false by simp [sameO, e4]]
    exact same_way4 w a b p q ha hb hfa e0 e1 e2 e3 e4
  by_cases e5 : a.parents = b.parents
  rotate_left
  · rw [show sameO a b = false by simp [sameO, e5]]
    exact same_way5 w a b p q ha hb hfa e0 e1 e2 e3 e4 e5
  by_cases e6 : a.time = b.time
  rotate_left
  · rw [show sameO a b = false by simp [sameO, e6]]
    exact same_way6 w a b p q ha hb hfa e0 e1 e2 e3 e4 e5 e6
  by_cases e7 : a.note = b.note
  rotate_left
  · rw [show sameO a b = false by simp [sameO, e7]]
    exact same_way7 w a b p q ha hb hfa e0 e1 e2 e3 e4 e5 e6 e7
  rw [show sameO a b = true by simp [sameO, e0, e1, e2, e3, e4, e5, e6, e7]]
  exact same_way8 w a b p q ha hb hfa e0 e1 e2 e3 e4 e5 e6 e7
end Go.Proofs.YtkjndgapejbgcaaDoor

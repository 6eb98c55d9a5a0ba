/- The document's Same: two objects compared. -/
import Derived.Test.YtkjndgapejbgcaaDoorPkD4

namespace Go.Proofs.YtkjndgapejbgcaaDoor
open Go.RowKit
set_option linter.unusedSimpArgs false

set_option maxRecDepth 20000 in
set_option maxHeartbeats 4000000 in
theorem ref_way0 (w : World) (a b : ObjT) (p q : Lay) (ha : ObjIn w w.heap.size a p) (hb : ObjIn w w.heap.size b q) (hfa : Fit a) (hfb : Fit b) (e0 : ¬ a.kind = b.kind) :
    Calls Tryd.prog 14 #[.agg (ocells a p).toArray, .agg (ocells b q).toArray] w fun e w' => e = .returned (.bool (false)) ∧ Below w.heap.size w w' := by
  have hi32 : (Tryd.prog.info? 28).map (·.size) = some 32 := by kernel_rfl
  have hB : Below w.heap.size w ((w.alloc (.cells (ocells a p).toArray 31)).alloc (.cells (ocells b q).toArray 31)) := ((Below.refl _ _).alloc (Nat.le_refl _) _).alloc (by simp) _
  have hoa : OBlk ((w.alloc (.cells (ocells a p).toArray 31)).alloc (.cells (ocells b q).toArray 31)) w.heap.size a p := heap_alloc2_old w _ _
  have hob : OBlk ((w.alloc (.cells (ocells a p).toArray 31)).alloc (.cells (ocells b q).toArray 31)) (w.heap.size + 1) b q := heap_alloc2_new w _ _
  have hA' := Lib.hid (ha.below hB)
  have hB' := Lib.hid (hb.below hB)
  have hfa' := Lib.hid hfa
  have hfb' := Lib.hid hfb
  have hi32' := Lib.hid hi32
  have hBel := Lib.hid hB
  have ta := Lib.hid hoa.tree
  have tb := Lib.hid hob.tree
  have ac0 := hoa.c0; have ac1 := hoa.c1; have ac2 := hoa.c2; have ac3 := hoa.c3; have ac36 := hoa.c36; have ac37 := hoa.c37; have ac38 := hoa.c38
  have bc0 := hob.c0; have bc1 := hob.c1; have bc2 := hob.c2; have bc3 := hob.c3; have bc36 := hob.c36; have bc37 := hob.c37; have bc38 := hob.c38
  have hca := conv_bytes ((w.alloc (.cells (ocells a p).toArray 31)).alloc (.cells (ocells b q).toArray 31)) a.data p.Ad p.cd _ hA'.out.d hfa.b
  have hcb := conv_bytes ((w.alloc (.cells (ocells a p).toArray 31)).alloc (.cells (ocells b q).toArray 31)) b.data q.Ad q.cd _ hB'.out.d hfb.b
  have hqs := strB_eq a.data b.data hfa.b hfb.b
  generalize strB a.data = s1 at hca hqs
  generalize strB b.data = s2 at hcb hqs
  obtain ⟨na, hna⟩ : ∃ n, Hid (∀ _ : Unit, a.parts.length = n) := ⟨_, Lib.hid fun _ => rfl⟩
  obtain ⟨nb, hnb⟩ : ∃ n, Hid (∀ _ : Unit, b.parts.length = n) := ⟨_, Lib.hid fun _ => rfl⟩
  obtain ⟨ma, hma⟩ : ∃ n, Hid (∀ _ : Unit, a.items.length = n) := ⟨_, Lib.hid fun _ => rfl⟩
  obtain ⟨mb, hmb⟩ : ∃ n, Hid (∀ _ : Unit, b.items.length = n) := ⟨_, Lib.hid fun _ => rfl⟩
  rw [hna.out ()] at ac2
  rw [hnb.out ()] at bc2
  rw [hma.out ()] at ac3
  rw [hmb.out ()] at bc3
  have hq0 : ((a.kind : Int) != (b.kind : Int)) = !decide (a.kind = b.kind) := int_ne
  rw [decide_eq_false e0] at hq0
  clear e0
  clear ha hb hfa hfb hi32 hB
  go_enter Tryd.func14, Tryd.ntmps14
  go_wp2_with fail
  go_ret
  exact ⟨rfl, hBel.out⟩

set_option maxRecDepth 20000 in
set_option maxHeartbeats 4000000 in
theorem ref_way1 (w : World) (a b : ObjT) (p q : Lay) (ha : ObjIn w w.heap.size a p) (hb : ObjIn w w.heap.size b q) (hfa : Fit a) (hfb : Fit b) (e0 : a.kind = b.kind) (e1 : ¬ a.data = b.data) :
    Calls Tryd.prog 14 #[.agg (ocells a p).toArray, .agg (ocells b q).toArray] w fun e w' => e = .returned (.bool (false)) ∧ Below w.heap.size w w' := by
  have hi32 : (Tryd.prog.info? 28).map (·.size) = some 32 := by kernel_rfl
  have hB : Below w.heap.size w ((w.alloc (.cells (ocells a p).toArray 31)).alloc (.cells (ocells b q).toArray 31)) := ((Below.refl _ _).alloc (Nat.le_refl _) _).alloc (by simp) _
  have hoa : OBlk ((w.alloc (.cells (ocells a p).toArray 31)).alloc (.cells (ocells b q).toArray 31)) w.heap.size a p := heap_alloc2_old w _ _
  have hob : OBlk ((w.alloc (.cells (ocells a p).toArray 31)).alloc (.cells (ocells b q).toArray 31)) (w.heap.size + 1) b q := heap_alloc2_new w _ _
  have hA' := Lib.hid (ha.below hB)
  have hB' := Lib.hid (hb.below hB)
  have hfa' := Lib.hid hfa
  have hfb' := Lib.hid hfb
  have hi32' := Lib.hid hi32
  have hBel := Lib.hid hB
  have ta := Lib.hid hoa.tree
  have tb := Lib.hid hob.tree
  have ac0 := hoa.c0; have ac1 := hoa.c1; have ac2 := hoa.c2; have ac3 := hoa.c3; have ac36 := hoa.c36; have ac37 := hoa.c37; have ac38 := hoa.c38
  have bc0 := hob.c0; have bc1 := hob.c1; have bc2 := hob.c2; have bc3 := hob.c3; have bc36 := hob.c36; have bc37 := hob.c37; have bc38 := hob.c38
  have hca := conv_bytes ((w.alloc (.cells (ocells a p).toArray 31)).alloc (.cells (ocells b q).toArray 31)) a.data p.Ad p.cd _ hA'.out.d hfa.b
  have hcb := conv_bytes ((w.alloc (.cells (ocells a p).toArray 31)).alloc (.cells (ocells b q).toArray 31)) b.data q.Ad q.cd _ hB'.out.d hfb.b
  have hqs := strB_eq a.data b.data hfa.b hfb.b
  generalize strB a.data = s1 at hca hqs
  generalize strB b.data = s2 at hcb hqs
  obtain ⟨na, hna⟩ : ∃ n, Hid (∀ _ : Unit, a.parts.length = n) := ⟨_, Lib.hid fun _ => rfl⟩
  obtain ⟨nb, hnb⟩ : ∃ n, Hid (∀ _ : Unit, b.parts.length = n) := ⟨_, Lib.hid fun _ => rfl⟩
  obtain ⟨ma, hma⟩ : ∃ n, Hid (∀ _ : Unit, a.items.length = n) := ⟨_, Lib.hid fun _ => rfl⟩
  obtain ⟨mb, hmb⟩ : ∃ n, Hid (∀ _ : Unit, b.items.length = n) := ⟨_, Lib.hid fun _ => rfl⟩
  rw [hna.out ()] at ac2
  rw [hnb.out ()] at bc2
  rw [hma.out ()] at ac3
  rw [hmb.out ()] at bc3
  have hq0 : ((a.kind : Int) != (b.kind : Int)) = !decide (a.kind = b.kind) := int_ne
  rw [decide_eq_true e0] at hq0
  clear e0
  rw [decide_eq_false e1] at hqs
  clear e1
  clear ha hb hfa hfb hi32 hB
  go_enter Tryd.func14, Tryd.ntmps14
  go_wp2_with fail
  go_ret
  exact ⟨rfl, hBel.out⟩

set_option maxRecDepth 20000 in
set_option maxHeartbeats 4000000 in
theorem ref_way2 (w : World) (a b : ObjT) (p q : Lay) (ha : ObjIn w w.heap.size a p) (hb : ObjIn w w.heap.size b q) (hfa : Fit a) (hfb : Fit b) (e0 : a.kind = b.kind) (e1 : a.data = b.data) (e2 : ¬ a.parts.length = b.parts.length) :
    Calls Tryd.prog 14 #[.agg (ocells a p).toArray, .agg (ocells b q).toArray] w fun e w' => e = .returned (.bool (false)) ∧ Below w.heap.size w w' := by
  have hi32 : (Tryd.prog.info? 28).map (·.size) = some 32 := by kernel_rfl
  have hB : Below w.heap.size w ((w.alloc (.cells (ocells a p).toArray 31)).alloc (.cells (ocells b q).toArray 31)) := ((Below.refl _ _).alloc (Nat.le_refl _) _).alloc (by simp) _
  have hoa : OBlk ((w.alloc (.cells (ocells a p).toArray 31)).alloc (.cells (ocells b q).toArray 31)) w.heap.size a p := heap_alloc2_old w _ _
  have hob : OBlk ((w.alloc (.cells (ocells a p).toArray 31)).alloc (.cells (ocells b q).toArray 31)) (w.heap.size + 1) b q := heap_alloc2_new w _ _
  have hA' := Lib.hid (ha.below hB)
  have hB' := Lib.hid (hb.below hB)
  have hfa' := Lib.hid hfa
  have hfb' := Lib.hid hfb
  have hi32' := Lib.hid hi32
  have hBel := Lib.hid hB
  have ta := Lib.hid hoa.tree
  have tb := Lib.hid hob.tree
  have ac0 := hoa.c0; have ac1 := hoa.c1; have ac2 := hoa.c2; have ac3 := hoa.c3; have ac36 := hoa.c36; have ac37 := hoa.c37; have ac38 := hoa.c38
  have bc0 := hob.c0; have bc1 := hob.c1; have bc2 := hob.c2; have bc3 := hob.c3; have bc36 := hob.c36; have bc37 := hob.c37; have bc38 := hob.c38
  have hca := conv_bytes ((w.alloc (.cells (ocells a p).toArray 31)).alloc (.cells (ocells b q).toArray 31)) a.data p.Ad p.cd _ hA'.out.d hfa.b
  have hcb := conv_bytes ((w.alloc (.cells (ocells a p).toArray 31)).alloc (.cells (ocells b q).toArray 31)) b.data q.Ad q.cd _ hB'.out.d hfb.b
  have hqs := strB_eq a.data b.data hfa.b hfb.b
  generalize strB a.data = s1 at hca hqs
  generalize strB b.data = s2 at hcb hqs
  obtain ⟨na, hna⟩ : ∃ n, Hid (∀ _ : Unit, a.parts.length = n) := ⟨_, Lib.hid fun _ => rfl⟩
  obtain ⟨nb, hnb⟩ : ∃ n, Hid (∀ _ : Unit, b.parts.length = n) := ⟨_, Lib.hid fun _ => rfl⟩
  obtain ⟨ma, hma⟩ : ∃ n, Hid (∀ _ : Unit, a.items.length = n) := ⟨_, Lib.hid fun _ => rfl⟩
  obtain ⟨mb, hmb⟩ : ∃ n, Hid (∀ _ : Unit, b.items.length = n) := ⟨_, Lib.hid fun _ => rfl⟩
  rw [hna.out ()] at ac2
  rw [hnb.out ()] at bc2
  rw [hma.out ()] at ac3
  rw [hmb.out ()] at bc3
  have hq0 : ((a.kind : Int) != (b.kind : Int)) = !decide (a.kind = b.kind) := int_ne
  rw [decide_eq_true e0] at hq0
  clear e0
  rw [decide_eq_true e1] at hqs
  clear e1
  have hn2 : ¬ (na : Int) = (nb : Int) := by rw [← hna.out (), ← hnb.out ()]; omega
  clear e2
  clear ha hb hfa hfb hi32 hB
  go_enter Tryd.func14, Tryd.ntmps14
  go_wp2_with fail
  go_ret
  exact ⟨rfl, hBel.out⟩

set_option maxRecDepth 20000 in
set_option maxHeartbeats 4000000 in
theorem ref_way3 (w : World) (a b : ObjT) (p q : Lay) (ha : ObjIn w w.heap.size a p) (hb : ObjIn w w.heap.size b q) (hfa : Fit a) (hfb : Fit b) (e0 : a.kind = b.kind) (e1 : a.data = b.data) (e2 : a.parts.length = b.parts.length) (e3 : ¬ a.items.length = b.items.length) :
    Calls Tryd.prog 14 #[.agg (ocells a p).toArray, .agg (ocells b q).toArray] w fun e w' => e = .returned (.bool (false)) ∧ Below w.heap.size w w' := by
  have hi32 : (Tryd.prog.info? 28).map (·.size) = some 32 := by kernel_rfl
  have hB : Below w.heap.size w ((w.alloc (.cells (ocells a p).toArray 31)).alloc (.cells (ocells b q).toArray 31)) := ((Below.refl _ _).alloc (Nat.le_refl _) _).alloc (by simp) _
  have hoa : OBlk ((w.alloc (.cells (ocells a p).toArray 31)).alloc (.cells (ocells b q).toArray 31)) w.heap.size a p := heap_alloc2_old w _ _
  have hob : OBlk ((w.alloc (.cells (ocells a p).toArray 31)).alloc (.cells (ocells b q).toArray 31)) (w.heap.size + 1) b q := heap_alloc2_new w _ _
  have hA' := Lib.hid (ha.below hB)
  have hB' := Lib.hid (hb.below hB)
  have hfa' := Lib.hid hfa
  have hfb' := Lib.hid hfb
  have hi32' := Lib.hid hi32
  have hBel := Lib.hid hB
  have ta := Lib.hid hoa.tree
  have tb := Lib.hid hob.tree
  have ac0 := hoa.c0; have ac1 := hoa.c1; have ac2 := hoa.c2; have ac3 := hoa.c3; have ac36 := hoa.c36; have ac37 := hoa.c37; have ac38 := hoa.c38
  have bc0 := hob.c0; have bc1 := hob.c1; have bc2 := hob.c2; have bc3 := hob.c3; have bc36 := hob.c36; have bc37 := hob.c37; have bc38 := hob.c38
  have hca := conv_bytes ((w.alloc (.cells (ocells a p).toArray 31)).alloc (.cells (ocells b q).toArray 31)) a.data p.Ad p.cd _ hA'.out.d hfa.b
  have hcb := conv_bytes ((w.alloc (.cells (ocells a p).toArray 31)).alloc (.cells (ocells b q).toArray 31)) b.data q.Ad q.cd _ hB'.out.d hfb.b
  have hqs := strB_eq a.data b.data hfa.b hfb.b
  generalize strB a.data = s1 at hca hqs
  generalize strB b.data = s2 at hcb hqs
  obtain ⟨na, hna⟩ : ∃ n, Hid (∀ _ : Unit, a.parts.length = n) := ⟨_, Lib.hid fun _ => rfl⟩
  obtain ⟨nb, hnb⟩ : ∃ n, Hid (∀ _ : Unit, b.parts.length = n) := ⟨_, Lib.hid fun _ => rfl⟩
  obtain ⟨ma, hma⟩ : ∃ n, Hid (∀ _ : Unit, a.items.length = n) := ⟨_, Lib.hid fun _ => rfl⟩
  obtain ⟨mb, hmb⟩ : ∃ n, Hid (∀ _ : Unit, b.items.length = n) := ⟨_, Lib.hid fun _ => rfl⟩
  rw [hna.out ()] at ac2
  rw [hnb.out ()] at bc2
  rw [hma.out ()] at ac3
  rw [hmb.out ()] at bc3
  have hq0 : ((a.kind : Int) != (b.kind : Int)) = !decide (a.kind = b.kind) := int_ne
  rw [decide_eq_true e0] at hq0
  clear e0
  rw [decide_eq_true e1] at hqs
  clear e1
  obtain rfl : na = nb := by rw [← hna.out (), ← hnb.out ()]; exact e2
  clear e2
  have hm2 : ¬ (ma : Int) = (mb : Int) := by rw [← hma.out (), ← hmb.out ()]; omega
  clear e3
  clear ha hb hfa hfb hi32 hB
  go_enter Tryd.func14, Tryd.ntmps14
  go_wp2_with fail
  go_ret
  exact ⟨rfl, hBel.out⟩

set_option maxRecDepth 20000 in
set_option maxHeartbeats 4000000 in
theorem ref_main (w : World) (a b : ObjT) (p q : Lay) (ha : ObjIn w w.heap.size a p) (hb : ObjIn w w.heap.size b q) (hfa : Fit a) (hfb : Fit b) (e0 : a.kind = b.kind) (e1 : a.data = b.data) (e2 : a.parts.length = b.parts.length) (e3 : a.items.length = b.items.length) :
    Calls Tryd.prog 14 #[.agg (ocells a p).toArray, .agg (ocells b q).toArray] w fun e w' => e = .returned (.bool (decide (a.parts = b.parts) && decide (a.items = b.items) && decide (a.tree = b.tree) && decide (a.parents = b.parents) && decide (a.time = b.time) && decide (a.note = b.note))) ∧ Below w.heap.size w w' := by
  have hi32 : (Tryd.prog.info? 28).map (·.size) = some 32 := by kernel_rfl
  have hB : Below w.heap.size w ((w.alloc (.cells (ocells a p).toArray 31)).alloc (.cells (ocells b q).toArray 31)) := ((Below.refl _ _).alloc (Nat.le_refl _) _).alloc (by simp) _
  have hoa : OBlk ((w.alloc (.cells (ocells a p).toArray 31)).alloc (.cells (ocells b q).toArray 31)) w.heap.size a p := heap_alloc2_old w _ _
  have hob : OBlk ((w.alloc (.cells (ocells a p).toArray 31)).alloc (.cells (ocells b q).toArray 31)) (w.heap.size + 1) b q := heap_alloc2_new w _ _
  have hA' := Lib.hid (ha.below hB)
  have hB' := Lib.hid (hb.below hB)
  have hfa' := Lib.hid hfa
  have hfb' := Lib.hid hfb
  have hi32' := Lib.hid hi32
  have hBel := Lib.hid hB
  have ta := Lib.hid hoa.tree
  have tb := Lib.hid hob.tree
  have ac0 := hoa.c0; have ac1 := hoa.c1; have ac2 := hoa.c2; have ac3 := hoa.c3; have ac36 := hoa.c36; have ac37 := hoa.c37; have ac38 := hoa.c38
  have bc0 := hob.c0; have bc1 := hob.c1; have bc2 := hob.c2; have bc3 := hob.c3; have bc36 := hob.c36; have bc37 := hob.c37; have bc38 := hob.c38
  have hca := conv_bytes ((w.alloc (.cells (ocells a p).toArray 31)).alloc (.cells (ocells b q).toArray 31)) a.data p.Ad p.cd _ hA'.out.d hfa.b
  have hcb := conv_bytes ((w.alloc (.cells (ocells a p).toArray 31)).alloc (.cells (ocells b q).toArray 31)) b.data q.Ad q.cd _ hB'.out.d hfb.b
  have hqs := strB_eq a.data b.data hfa.b hfb.b
  generalize strB a.data = s1 at hca hqs
  generalize strB b.data = s2 at hcb hqs
  obtain ⟨na, hna⟩ : ∃ n, Hid (∀ _ : Unit, a.parts.length = n) := ⟨_, Lib.hid fun _ => rfl⟩
  obtain ⟨nb, hnb⟩ : ∃ n, Hid (∀ _ : Unit, b.parts.length = n) := ⟨_, Lib.hid fun _ => rfl⟩
  obtain ⟨ma, hma⟩ : ∃ n, Hid (∀ _ : Unit, a.items.length = n) := ⟨_, Lib.hid fun _ => rfl⟩
  obtain ⟨mb, hmb⟩ : ∃ n, Hid (∀ _ : Unit, b.items.length = n) := ⟨_, Lib.hid fun _ => rfl⟩
  rw [hna.out ()] at ac2
  rw [hnb.out ()] at bc2
  rw [hma.out ()] at ac3
  rw [hmb.out ()] at bc3
  have hq0 : ((a.kind : Int) != (b.kind : Int)) = !decide (a.kind = b.kind) := int_ne
  rw [decide_eq_true e0] at hq0
  clear e0
  rw [decide_eq_true e1] at hqs
  clear e1
  obtain rfl : na = nb := by rw [← hna.out (), ← hnb.out ()]; exact e2
  clear e2
  obtain rfl : ma = mb := by rw [← hma.out (), ← hmb.out ()]; exact e3
  clear e3
  have hns : na ≤ 140737488355328 := by rw [← hna.out ()]; have := hfa.ps; omega
  have hms : ma ≤ 140737488355328 := by rw [← hma.out ()]; have := hfa.xs; omega
  clear ha hb hfa hfb hi32 hB
  obtain ⟨Rparts, hRparts⟩ : ∃ R, Hid (∀ _ : Unit, decide (a.parts = b.parts) = R) := ⟨_, Lib.hid fun _ => rfl⟩
  obtain ⟨Ritems, hRitems⟩ : ∃ R, Hid (∀ _ : Unit, decide (a.items = b.items) = R) := ⟨_, Lib.hid fun _ => rfl⟩
  rw [hRparts.out (), hRitems.out ()]
  go_enter Tryd.func14, Tryd.ntmps14
  go_wp2_with fail
  clear hoa hob hca hcb hqs hq0 ac0 ac1 bc0 bc1
  generalize ((w.alloc (.cells (ocells a p).toArray 31)).alloc (.cells (ocells b q).toArray 31)) = W2 at *
  go_loopw [5] (fun i wr => ∃ k q' : Nat, k ≤ na ∧ i = .int .i64 k ∧ wr = W2.drewN q' ∧ Hid (∀ _ : Unit, a.parts.take k = b.parts.take k)) (fun i _ => na - (intOf i).toNat)
  case atStart => exact ⟨0, 0, by omega, rfl, rfl, Lib.hid fun _ => rfl⟩
  case round =>
    obtain ⟨k, q', hk, rfl, rfl, he⟩ := hrel
    by_cases hlt : k < na
    · have hkx : k < a.parts.length := by rw [hna.out ()]; exact hlt
      have hky : k < b.parts.length := by rw [hnb.out ()]; exact hlt
      obtain ⟨b1, o1, hb1, _, g1⟩ := Row.load (P := Tryd.prog) hA'.out.ps encP_length (by decide) Tryd.underlying47 rfl (by kernel_rfl) hkx
      obtain ⟨b2, o2, hb2, _, g2⟩ := Row.load (P := Tryd.prog) hB'.out.ps encP_length (by decide) Tryd.underlying47 rfl (by kernel_rfl) hky
      obtain ⟨x, hx⟩ : ∃ x, a.parts[k] = x := ⟨_, rfl⟩
      obtain ⟨y, hy⟩ : ∃ y, b.parts[k] = y := ⟨_, rfl⟩
      rw [hx] at g1
      rw [hy] at g2
      have q1' := Lib.hid (fun m => show Sem.run Tryd.prog (loadVar 47 ⟨b1, o1 + k * 33, none⟩) ((W2.drewN q').drewN m) = .ok (.agg (encP x).toArray) ((W2.drewN q').drewN m) by rw [World.drewN_drewN]; exact g1 _)
      have q2' := Lib.hid (fun m => show Sem.run Tryd.prog (loadVar 47 ⟨b2, o2 + k * 33, none⟩) ((W2.drewN q').drewN m) = .ok (.agg (encP y).toArray) ((W2.drewN q').drewN m) by rw [World.drewN_drewN]; exact g2 _)
      have f1 : (W2.drewN q').cell? ⟨w.heap.size, 2, none⟩ = some (.slice (some ⟨b1, o1, none⟩) na p.cp) := by rw [← hb1]; exact ac2
      have f2 : (W2.drewN q').cell? ⟨w.heap.size + 1, 2, none⟩ = some (.slice (some ⟨b2, o2, none⟩) na q.cp) := by rw [← hb2]; exact bc2
      clear g1 g2 hb1 hb2
      have hne := neP x y
      have hgu := fun op c d => guP op c d (encP x).toArray (encP y).toArray
      have hyes : Hid (x = y → ∀ _ : Unit, a.parts.take (k + 1) = b.parts.take (k + 1)) := Lib.hid fun h _ => take_step hkx hky (he.out ()) (by rw [hx, hy, h])
      have hno : Hid (¬ x = y → Rparts = false) := Lib.hid fun h => by rw [← hRparts.out ()]; exact decide_eq_false (ne_at hkx hky (by rw [hx, hy]; exact h))
      clear hkx hky hx hy he
      have hbw : Hid (Below w.heap.size w (W2.drewN q')) := Lib.hid (below_drewN hBel.out _)
      generalize hwq : W2.drewN q' = wq at q1' q2' f1 f2 hbw ⊢
      have hwq' := Lib.hid (fun _ : Unit => hwq)
      clear hwq ac2 ac3 bc2 bc3
      by_cases hxy : x = y
      · rw [decide_eq_true hxy] at hne
        have hye := Lib.hid (hyes.out hxy)
        clear hyes hno hxy
        go_wp2_with fail
        refine wp_region_quiet_lit (by kernel_rfl) (by kernel_rfl) ?_
        iterate 4 (quiet_step (fail))
        refine wpQuiet_load_mid rfl 47 _ rfl b1 (o1 + k * 33) rfl _ (by rintro _ ⟨m, rfl⟩; exact q1'.out m) ?_
        iterate 4 (quiet_step (fail))
        refine wpQuiet_load_mid rfl 47 _ rfl b2 (o2 + k * 33) rfl _ (by rintro _ ⟨m, rfl⟩; exact q2'.out m) ?_
        quiet_step (fail)
        refine wpQuiet_nil ?_
        rintro _ ⟨nq, rfl⟩
        go_wp2_with fail
        go_roundw
        case rel => exact ⟨k + 1, q' + nq, by omega, by go_num, by rw [← hwq'.out (), World.drewN_drewN], hye⟩
        case measure => simp [intOf]; omega
      · rw [decide_eq_false hxy] at hne
        obtain rfl : Rparts = false := hno.out hxy
        clear hyes hno hxy
        go_wp2_with fail
        refine wp_region_quiet_lit (by kernel_rfl) (by kernel_rfl) ?_
        iterate 4 (quiet_step (fail))
        refine wpQuiet_load_mid rfl 47 _ rfl b1 (o1 + k * 33) rfl _ (by rintro _ ⟨m, rfl⟩; exact q1'.out m) ?_
        iterate 4 (quiet_step (fail))
        refine wpQuiet_load_mid rfl 47 _ rfl b2 (o2 + k * 33) rfl _ (by rintro _ ⟨m, rfl⟩; exact q2'.out m) ?_
        quiet_step (fail)
        refine wpQuiet_nil ?_
        rintro _ ⟨nq, rfl⟩
        go_wp2_with fail
        go_ret
        exact ⟨ret_bool (by simp), below_drewN hbw.out _⟩
    · have hR1 : Rparts = true := by rw [← hRparts.out ()]; exact decide_eq_true (take_full (n := na) (hna.out ()) (hnb.out ()) (by rw [← show k = na by omega]; exact he.out ()))
      subst hR1
      clear he hRparts
      go_wp2_with fail
      go_loopw [6] (fun i wr => ∃ k q' : Nat, k ≤ ma ∧ i = .int .i64 k ∧ wr = W2.drewN q' ∧ Hid (∀ _ : Unit, a.items.take k = b.items.take k)) (fun i _ => ma - (intOf i).toNat)
      case atStart => exact ⟨0, q', by omega, rfl, rfl, Lib.hid fun _ => rfl⟩
      case round =>
        obtain ⟨k, q', hk, rfl, rfl, he⟩ := hrel
        by_cases hlt : k < ma
        · have hkx : k < a.items.length := by rw [hma.out ()]; exact hlt
          have hky : k < b.items.length := by rw [hmb.out ()]; exact hlt
          obtain ⟨b1, o1, hb1, _, g1⟩ := Row.load (P := Tryd.prog) hA'.out.xs encI_length (by decide) Tryd.underlying50 rfl (by kernel_rfl) hkx
          obtain ⟨b2, o2, hb2, _, g2⟩ := Row.load (P := Tryd.prog) hB'.out.xs encI_length (by decide) Tryd.underlying50 rfl (by kernel_rfl) hky
          obtain ⟨x, hx⟩ : ∃ x, a.items[k] = x := ⟨_, rfl⟩
          obtain ⟨y, hy⟩ : ∃ y, b.items[k] = y := ⟨_, rfl⟩
          rw [hx] at g1
          rw [hy] at g2
          have q1' := Lib.hid (fun m => show Sem.run Tryd.prog (loadVar 50 ⟨b1, o1 + k * 35, none⟩) ((W2.drewN q').drewN m) = .ok (.agg (encI x).toArray) ((W2.drewN q').drewN m) by rw [World.drewN_drewN]; exact g1 _)
          have q2' := Lib.hid (fun m => show Sem.run Tryd.prog (loadVar 50 ⟨b2, o2 + k * 35, none⟩) ((W2.drewN q').drewN m) = .ok (.agg (encI y).toArray) ((W2.drewN q').drewN m) by rw [World.drewN_drewN]; exact g2 _)
          have f1 : (W2.drewN q').cell? ⟨w.heap.size, 3, none⟩ = some (.slice (some ⟨b1, o1, none⟩) ma p.ci) := by rw [← hb1]; exact ac3
          have f2 : (W2.drewN q').cell? ⟨w.heap.size + 1, 3, none⟩ = some (.slice (some ⟨b2, o2, none⟩) ma q.ci) := by rw [← hb2]; exact bc3
          clear g1 g2 hb1 hb2
          have hne := neI x y
          have hgu := fun op c d => guI op c d (encI x).toArray (encI y).toArray
          have hyes : Hid (x = y → ∀ _ : Unit, a.items.take (k + 1) = b.items.take (k + 1)) := Lib.hid fun h _ => take_step hkx hky (he.out ()) (by rw [hx, hy, h])
          have hno : Hid (¬ x = y → Ritems = false) := Lib.hid fun h => by rw [← hRitems.out ()]; exact decide_eq_false (ne_at hkx hky (by rw [hx, hy]; exact h))
          clear hkx hky hx hy he
          have hbw : Hid (Below w.heap.size w (W2.drewN q')) := Lib.hid (below_drewN hBel.out _)
          generalize hwq : W2.drewN q' = wq at q1' q2' f1 f2 hbw ⊢
          have hwq' := Lib.hid (fun _ : Unit => hwq)
          clear hwq ac2 ac3 bc2 bc3
          by_cases hxy : x = y
          · rw [decide_eq_true hxy] at hne
            have hye := Lib.hid (hyes.out hxy)
            clear hyes hno hxy
            go_wp2_with fail
            refine wp_region_quiet_lit (by kernel_rfl) (by kernel_rfl) ?_
            iterate 4 (quiet_step (fail))
            refine wpQuiet_load_mid rfl 50 _ rfl b1 (o1 + k * 35) rfl _ (by rintro _ ⟨m, rfl⟩; exact q1'.out m) ?_
            iterate 4 (quiet_step (fail))
            refine wpQuiet_load_mid rfl 50 _ rfl b2 (o2 + k * 35) rfl _ (by rintro _ ⟨m, rfl⟩; exact q2'.out m) ?_
            quiet_step (fail)
            refine wpQuiet_nil ?_
            rintro _ ⟨nq, rfl⟩
            go_wp2_with fail
            go_roundw
            case rel => exact ⟨k + 1, q' + nq, by omega, by go_num, by rw [← hwq'.out (), World.drewN_drewN], hye⟩
            case measure => simp [intOf]; omega
          · rw [decide_eq_false hxy] at hne
            obtain rfl : Ritems = false := hno.out hxy
            clear hyes hno hxy
            go_wp2_with fail
            refine wp_region_quiet_lit (by kernel_rfl) (by kernel_rfl) ?_
            iterate 4 (quiet_step (fail))
            refine wpQuiet_load_mid rfl 50 _ rfl b1 (o1 + k * 35) rfl _ (by rintro _ ⟨m, rfl⟩; exact q1'.out m) ?_
            iterate 4 (quiet_step (fail))
            refine wpQuiet_load_mid rfl 50 _ rfl b2 (o2 + k * 35) rfl _ (by rintro _ ⟨m, rfl⟩; exact q2'.out m) ?_
            quiet_step (fail)
            refine wpQuiet_nil ?_
            rintro _ ⟨nq, rfl⟩
            go_wp2_with fail
            go_ret
            exact ⟨ret_bool (by simp), below_drewN hbw.out _⟩
        · have hR1 : Ritems = true := by rw [← hRitems.out ()]; exact decide_eq_true (take_full (n := ma) (hma.out ()) (hmb.out ()) (by rw [← show k = ma by omega]; exact he.out ()))
          subst hR1
          clear he hRitems
          obtain ⟨q2, hq2⟩ : ∃ q2, q2 = q' := ⟨_, rfl⟩
          rw [← hq2]
          clear hq2
          have hqk := fun w => eqK a.tree b.tree w
          have hq7 : (a.note.toList == b.note.toList) = decide (a.note = b.note) := bytes_eq _ _
          by_cases e0 : a.tree = b.tree
          rotate_left
          ·
            have d0 : decide (a.tree = b.tree) = false := decide_eq_false e0
            rw [d0] at hqk
            clear e0 hq7
            go_wp2_with (first
              | (refine wpList_load_mid_g rfl 28 _ rfl w.heap.size 4 rfl (encK a.tree) _ ta.out Tryd.underlying28 rfl (by rw [encK_length]; exact hi32'.out) ?_)
              | (refine wpList_load_mid_g rfl 28 _ rfl (w.heap.size + 1) 4 rfl (encK b.tree) _ tb.out Tryd.underlying28 rfl (by rw [encK_length]; exact hi32'.out) ?_))
            go_ret
            exact ⟨ret_bool (by simp [d0]), below_drewN hBel.out _⟩
          by_cases e1 : a.parents = b.parents
          rotate_left
          ·
            have d0 : decide (a.tree = b.tree) = true := decide_eq_true e0
            rw [d0] at hqk
            have d1 : decide (a.parents = b.parents) = false := decide_eq_false e1
            clear e0 e1 hq7
            go_wp2_with (first
              | (go_at_call 46; refine (refKeys_any _ a.parents b.parents _ _ _ _ _ _ (by exact hA'.out.ks) (by exact hB'.out.ks) (by have := hfa'.out.ks; omega)).mono ?_; rintro e w' ⟨rfl, qq, rfl⟩; skip)
              | (refine wpList_load_mid_g rfl 28 _ rfl w.heap.size 4 rfl (encK a.tree) _ ta.out Tryd.underlying28 rfl (by rw [encK_length]; exact hi32'.out) ?_)
              | (refine wpList_load_mid_g rfl 28 _ rfl (w.heap.size + 1) 4 rfl (encK b.tree) _ tb.out Tryd.underlying28 rfl (by rw [encK_length]; exact hi32'.out) ?_))
            go_ret
            exact ⟨ret_bool (by simp [d0, d1]), below_drewN hBel.out _⟩
          by_cases e2 : a.time = b.time
          rotate_left
          ·
            have d0 : decide (a.tree = b.tree) = true := decide_eq_true e0
            rw [d0] at hqk
            have d1 : decide (a.parents = b.parents) = true := decide_eq_true e1
            have d2 : decide (a.time = b.time) = false := decide_eq_false e2
            have hq6 : (a.time == b.time) = false := by simp [e2]
            clear e0 e1 e2 hq7
            go_wp2_with (first
              | (go_at_call 46; refine (refKeys_any _ a.parents b.parents _ _ _ _ _ _ (by exact hA'.out.ks) (by exact hB'.out.ks) (by have := hfa'.out.ks; omega)).mono ?_; rintro e w' ⟨rfl, qq, rfl⟩; skip)
              | (refine wpList_load_mid_g rfl 28 _ rfl w.heap.size 4 rfl (encK a.tree) _ ta.out Tryd.underlying28 rfl (by rw [encK_length]; exact hi32'.out) ?_)
              | (refine wpList_load_mid_g rfl 28 _ rfl (w.heap.size + 1) 4 rfl (encK b.tree) _ tb.out Tryd.underlying28 rfl (by rw [encK_length]; exact hi32'.out) ?_))
            go_ret
            exact ⟨ret_bool (by simp [d0, d1, d2]), below_drewN hBel.out _⟩
          by_cases e3 : a.note = b.note
          rotate_left
          ·
            have d0 : decide (a.tree = b.tree) = true := decide_eq_true e0
            rw [d0] at hqk
            have d1 : decide (a.parents = b.parents) = true := decide_eq_true e1
            have d2 : decide (a.time = b.time) = true := decide_eq_true e2
            have hq6 : (a.time == b.time) = true := by simp [e2]
            have d3 : decide (a.note = b.note) = false := decide_eq_false e3
            rw [d3] at hq7
            clear e0 e1 e2 e3
            go_wp2_with (first
              | (go_at_call 46; refine (refKeys_any _ a.parents b.parents _ _ _ _ _ _ (by exact hA'.out.ks) (by exact hB'.out.ks) (by have := hfa'.out.ks; omega)).mono ?_; rintro e w' ⟨rfl, qq, rfl⟩; skip)
              | (refine wpList_load_mid_g rfl 28 _ rfl w.heap.size 4 rfl (encK a.tree) _ ta.out Tryd.underlying28 rfl (by rw [encK_length]; exact hi32'.out) ?_)
              | (refine wpList_load_mid_g rfl 28 _ rfl (w.heap.size + 1) 4 rfl (encK b.tree) _ tb.out Tryd.underlying28 rfl (by rw [encK_length]; exact hi32'.out) ?_))
            go_ret
            exact ⟨ret_bool (by simp [d0, d1, d2, d3]), below_drewN hBel.out _⟩
          have d0 : decide (a.tree = b.tree) = true := decide_eq_true e0
          rw [d0] at hqk
          have d1 : decide (a.parents = b.parents) = true := decide_eq_true e1
          have d2 : decide (a.time = b.time) = true := decide_eq_true e2
          have hq6 : (a.time == b.time) = true := by simp [e2]
          have d3 : decide (a.note = b.note) = true := decide_eq_true e3
          rw [d3] at hq7
          clear e0 e1 e2 e3
          go_wp2_with (first
            | (go_at_call 46; refine (refKeys_any _ a.parents b.parents _ _ _ _ _ _ (by exact hA'.out.ks) (by exact hB'.out.ks) (by have := hfa'.out.ks; omega)).mono ?_; rintro e w' ⟨rfl, qq, rfl⟩; skip)
            | (refine wpList_load_mid_g rfl 28 _ rfl w.heap.size 4 rfl (encK a.tree) _ ta.out Tryd.underlying28 rfl (by rw [encK_length]; exact hi32'.out) ?_)
            | (refine wpList_load_mid_g rfl 28 _ rfl (w.heap.size + 1) 4 rfl (encK b.tree) _ tb.out Tryd.underlying28 rfl (by rw [encK_length]; exact hi32'.out) ?_))
          go_ret
          exact ⟨ret_bool (by simp [d0, d1, d2, d3]), below_drewN hBel.out _⟩
theorem refSame_any (w : World) (a b : ObjT) (p q : Lay) (ha : ObjIn w w.heap.size a p) (hb : ObjIn w w.heap.size b q) (hfa : Fit a) (hfb : Fit b) :
    Calls Tryd.prog 14 #[.agg (ocells a p).toArray, .agg (ocells b q).toArray] w fun e w' => e = .returned (.bool (sameO a b)) ∧ Below w.heap.size w w' := by
  by_cases e0 : a.kind = b.kind
  rotate_left
  · rw [show sameO a b = false by simp [sameO, e0]]
    exact ref_way0 w a b p q ha hb hfa hfb e0
  by_cases e1 : a.data = b.data
  rotate_left
  · rw [show sameO a b = false by simp [sameO, e1]]
    exact ref_way1 w a b p q ha hb hfa hfb e0 e1
  by_cases e2 : a.parts.length = b.parts.length
  rotate_left
  · rw [show sameO a b = false by simp [sameO, show ¬ a.parts = b.parts from fun h => e2 (by rw [h])]]
    exact ref_way2 w a b p q ha hb hfa hfb e0 e1 e2
  by_cases e3 : a.items.length = b.items.length
  rotate_left
  · rw [show sameO a b = false by simp [sameO, show ¬ a.items = b.items from fun h => e3 (by rw [h])]]
    exact ref_way3 w a b p q ha hb hfa hfb e0 e1 e2 e3
  rw [show sameO a b = (decide (a.parts = b.parts) && decide (a.items = b.items) && decide (a.tree = b.tree) && decide (a.parents = b.parents) && decide (a.time = b.time) && decide (a.note = b.note)) by simp [sameO, e0, e1]]
  exact ref_main w a b p q ha hb hfa hfb e0 e1 e2 e3
end Go.Proofs.YtkjndgapejbgcaaDoor

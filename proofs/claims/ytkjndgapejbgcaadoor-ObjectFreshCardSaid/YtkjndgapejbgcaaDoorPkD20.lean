/- The document's word on fields of another kind, and how many kids there are. (Printed by tools/genrfor.py.) -/
import Derived.Test.YtkjndgapejbgcaaDoorPkD19

namespace Go.Proofs.YtkjndgapejbgcaaDoor
open Go.RowKit
set_option linter.unusedSimpArgs false
set_option linter.unusedVariables false

theorem pos_ne {n : Nat} (h : 0 < n) : (0 : Int) < (n : Int) := by omega
theorem note_nil (s : ByteArray) : s = ⟨#[]⟩ ↔ s.toList = [] := by
  rw [ByteArray.toList_eq]
  obtain ⟨⟨l⟩⟩ := s
  simp

set_option maxRecDepth 100000 in
set_option maxHeartbeats 2000000 in
theorem rfor_k1_p (w : World) (o : ObjT) (p : Lay) (hkd : o.kind = 1)  (hp : 0 < o.parts.length) :
    Calls Tryd.prog 41 #[.agg (ocells o p).toArray] w fun e w' => e = .returned (.bool true) ∧ Below w.heap.size w w' := by
  have hi32 : (Tryd.prog.info? 28).map (·.size) = some 32 := by kernel_rfl
  have hi32' := Lib.hid hi32
  have h0 : OBlk (w.alloc (.cells (ocells o p).toArray 31)) w.heap.size o p := heap_alloc_new w _
  have hB' := Lib.hid ((Below.refl w.heap.size w).alloc (Nat.le_refl _) (.cells (ocells o p).toArray 31))
  have hl32 := Lib.hid (encK_length o.tree)
  have c0 : (w.alloc (.cells (ocells o p).toArray 31)).cell? ⟨w.heap.size, 0, none⟩ = some (.int .u8 1) := by have := h0.c0; rw [hkd] at this; exact this
  have c2 := h0.c2
  obtain ⟨np, hnp⟩ : ∃ n, Hid (∀ _ : Unit, o.parts.length = n) := ⟨_, Lib.hid fun _ => rfl⟩
  rw [hnp.out ()] at c2 hp
  have hzp := pos_ne hp
  clear hi32 h0 hkd hp
  go_enter Tryd.func41, Tryd.ntmps41
  go_wp2_with (first
    | (refine wpList_load_mid_g rfl 28 _ rfl w.heap.size 4 rfl (encK o.tree) _ (by assumption) Tryd.underlying28 rfl (by rw [hl32.out]; exact hi32'.out) ?_)
    | (refine wpList_built rfl 28 _ #[] rfl (by simp) _ (buildKz _) ?_))
  go_ret
  exact ⟨rfl, hB'.out⟩

set_option maxRecDepth 100000 in
set_option maxHeartbeats 2000000 in
theorem rfor_k1_i (w : World) (o : ObjT) (p : Lay) (hkd : o.kind = 1) (hp : o.parts.length = 0) (hi : 0 < o.items.length) :
    Calls Tryd.prog 41 #[.agg (ocells o p).toArray] w fun e w' => e = .returned (.bool true) ∧ Below w.heap.size w w' := by
  have hi32 : (Tryd.prog.info? 28).map (·.size) = some 32 := by kernel_rfl
  have hi32' := Lib.hid hi32
  have h0 : OBlk (w.alloc (.cells (ocells o p).toArray 31)) w.heap.size o p := heap_alloc_new w _
  have hB' := Lib.hid ((Below.refl w.heap.size w).alloc (Nat.le_refl _) (.cells (ocells o p).toArray 31))
  have hl32 := Lib.hid (encK_length o.tree)
  have c0 : (w.alloc (.cells (ocells o p).toArray 31)).cell? ⟨w.heap.size, 0, none⟩ = some (.int .u8 1) := by have := h0.c0; rw [hkd] at this; exact this
  have c2 := h0.c2
  rw [hp] at c2
  have c3 := h0.c3
  obtain ⟨ni, hni⟩ : ∃ n, Hid (∀ _ : Unit, o.items.length = n) := ⟨_, Lib.hid fun _ => rfl⟩
  rw [hni.out ()] at c3 hi
  have hzi := pos_ne hi
  clear hi32 h0 hkd hp hi
  go_enter Tryd.func41, Tryd.ntmps41
  go_wp2_with (first
    | (refine wpList_load_mid_g rfl 28 _ rfl w.heap.size 4 rfl (encK o.tree) _ (by assumption) Tryd.underlying28 rfl (by rw [hl32.out]; exact hi32'.out) ?_)
    | (refine wpList_built rfl 28 _ #[] rfl (by simp) _ (buildKz _) ?_))
  go_ret
  exact ⟨rfl, hB'.out⟩

set_option maxRecDepth 100000 in
set_option maxHeartbeats 2000000 in
theorem rfor_k1_t (w : World) (o : ObjT) (p : Lay) (hkd : o.kind = 1) (hp : o.parts.length = 0) (hi : o.items.length = 0) (ht : ¬ o.tree = zK) :
    Calls Tryd.prog 41 #[.agg (ocells o p).toArray] w fun e w' => e = .returned (.bool true) ∧ Below w.heap.size w w' := by
  have hi32 : (Tryd.prog.info? 28).map (·.size) = some 32 := by kernel_rfl
  have hi32' := Lib.hid hi32
  have h0 : OBlk (w.alloc (.cells (ocells o p).toArray 31)) w.heap.size o p := heap_alloc_new w _
  have hB' := Lib.hid ((Below.refl w.heap.size w).alloc (Nat.le_refl _) (.cells (ocells o p).toArray 31))
  have hl32 := Lib.hid (encK_length o.tree)
  have c0 : (w.alloc (.cells (ocells o p).toArray 31)).cell? ⟨w.heap.size, 0, none⟩ = some (.int .u8 1) := by have := h0.c0; rw [hkd] at this; exact this
  have c2 := h0.c2
  rw [hp] at c2
  have c3 := h0.c3
  rw [hi] at c3
  have ht4 := h0.tree
  have hqk := fun w => neK o.tree zK w
  rw [decide_eq_false ht] at hqk
  have ht4' := Lib.hid ht4
  have hgu := fun op a b => guK op a b (encK o.tree).toArray (encK zK).toArray
  clear hi32 h0 hkd hp hi ht4 ht
  go_enter Tryd.func41, Tryd.ntmps41
  go_wp2_with (first
    | (refine wpList_load_mid_g rfl 28 _ rfl w.heap.size 4 rfl (encK o.tree) _ ht4'.out Tryd.underlying28 rfl (by rw [hl32.out]; exact hi32'.out) ?_)
    | (refine wpList_built rfl 28 _ #[] rfl (by simp) _ (buildKz _) ?_))
  go_ret
  exact ⟨rfl, hB'.out⟩

set_option maxRecDepth 100000 in
set_option maxHeartbeats 2000000 in
theorem rfor_k1_k (w : World) (o : ObjT) (p : Lay) (hkd : o.kind = 1) (hp : o.parts.length = 0) (hi : o.items.length = 0) (ht : o.tree = zK) (hk : 0 < o.parents.length) :
    Calls Tryd.prog 41 #[.agg (ocells o p).toArray] w fun e w' => e = .returned (.bool true) ∧ Below w.heap.size w w' := by
  have hi32 : (Tryd.prog.info? 28).map (·.size) = some 32 := by kernel_rfl
  have hi32' := Lib.hid hi32
  have h0 : OBlk (w.alloc (.cells (ocells o p).toArray 31)) w.heap.size o p := heap_alloc_new w _
  have hB' := Lib.hid ((Below.refl w.heap.size w).alloc (Nat.le_refl _) (.cells (ocells o p).toArray 31))
  have hl32 := Lib.hid (encK_length o.tree)
  have c0 : (w.alloc (.cells (ocells o p).toArray 31)).cell? ⟨w.heap.size, 0, none⟩ = some (.int .u8 1) := by have := h0.c0; rw [hkd] at this; exact this
  have c2 := h0.c2
  rw [hp] at c2
  have c3 := h0.c3
  rw [hi] at c3
  have ht4 := h0.tree
  have hqk := fun w => neK o.tree zK w
  rw [decide_eq_true ht] at hqk
  have ht4' := Lib.hid ht4
  have hgu := fun op a b => guK op a b (encK o.tree).toArray (encK zK).toArray
  have c36 := h0.c36
  obtain ⟨nk, hnk⟩ : ∃ n, Hid (∀ _ : Unit, o.parents.length = n) := ⟨_, Lib.hid fun _ => rfl⟩
  rw [hnk.out ()] at c36 hk
  have hzk := pos_ne hk
  clear hi32 h0 hkd hp hi ht4 ht hk
  go_enter Tryd.func41, Tryd.ntmps41
  go_wp2_with (first
    | (refine wpList_load_mid_g rfl 28 _ rfl w.heap.size 4 rfl (encK o.tree) _ ht4'.out Tryd.underlying28 rfl (by rw [hl32.out]; exact hi32'.out) ?_)
    | (refine wpList_built rfl 28 _ #[] rfl (by simp) _ (buildKz _) ?_))
  go_ret
  exact ⟨rfl, hB'.out⟩

set_option maxRecDepth 100000 in
set_option maxHeartbeats 2000000 in
theorem rfor_k1_m (w : World) (o : ObjT) (p : Lay) (hkd : o.kind = 1) (hp : o.parts.length = 0) (hi : o.items.length = 0) (ht : o.tree = zK) (hk : o.parents.length = 0) (hm : ¬ o.time = 0) :
    Calls Tryd.prog 41 #[.agg (ocells o p).toArray] w fun e w' => e = .returned (.bool true) ∧ Below w.heap.size w w' := by
  have hi32 : (Tryd.prog.info? 28).map (·.size) = some 32 := by kernel_rfl
  have hi32' := Lib.hid hi32
  have h0 : OBlk (w.alloc (.cells (ocells o p).toArray 31)) w.heap.size o p := heap_alloc_new w _
  have hB' := Lib.hid ((Below.refl w.heap.size w).alloc (Nat.le_refl _) (.cells (ocells o p).toArray 31))
  have hl32 := Lib.hid (encK_length o.tree)
  have c0 : (w.alloc (.cells (ocells o p).toArray 31)).cell? ⟨w.heap.size, 0, none⟩ = some (.int .u8 1) := by have := h0.c0; rw [hkd] at this; exact this
  have c2 := h0.c2
  rw [hp] at c2
  have c3 := h0.c3
  rw [hi] at c3
  have ht4 := h0.tree
  have hqk := fun w => neK o.tree zK w
  rw [decide_eq_true ht] at hqk
  have ht4' := Lib.hid ht4
  have hgu := fun op a b => guK op a b (encK o.tree).toArray (encK zK).toArray
  have c36 := h0.c36
  rw [hk] at c36
  have c37 := h0.c37
  have hq6 : (o.time != 0) = true := by simpa using hm
  have hq6b : (o.time == 0) = false := by simpa using hm
  clear hi32 h0 hkd hp hi ht4 ht hk hm
  go_enter Tryd.func41, Tryd.ntmps41
  go_wp2_with (first
    | (refine wpList_load_mid_g rfl 28 _ rfl w.heap.size 4 rfl (encK o.tree) _ ht4'.out Tryd.underlying28 rfl (by rw [hl32.out]; exact hi32'.out) ?_)
    | (refine wpList_built rfl 28 _ #[] rfl (by simp) _ (buildKz _) ?_))
  go_ret
  exact ⟨rfl, hB'.out⟩

set_option maxRecDepth 100000 in
set_option maxHeartbeats 2000000 in
theorem rfor_k1_n (w : World) (o : ObjT) (p : Lay) (hkd : o.kind = 1) (hp : o.parts.length = 0) (hi : o.items.length = 0) (ht : o.tree = zK) (hk : o.parents.length = 0) (hm : o.time = 0) (hn : ¬ o.note = ⟨#[]⟩) :
    Calls Tryd.prog 41 #[.agg (ocells o p).toArray] w fun e w' => e = .returned (.bool true) ∧ Below w.heap.size w w' := by
  have hi32 : (Tryd.prog.info? 28).map (·.size) = some 32 := by kernel_rfl
  have hi32' := Lib.hid hi32
  have h0 : OBlk (w.alloc (.cells (ocells o p).toArray 31)) w.heap.size o p := heap_alloc_new w _
  have hB' := Lib.hid ((Below.refl w.heap.size w).alloc (Nat.le_refl _) (.cells (ocells o p).toArray 31))
  have hl32 := Lib.hid (encK_length o.tree)
  have c0 : (w.alloc (.cells (ocells o p).toArray 31)).cell? ⟨w.heap.size, 0, none⟩ = some (.int .u8 1) := by have := h0.c0; rw [hkd] at this; exact this
  have c2 := h0.c2
  rw [hp] at c2
  have c3 := h0.c3
  rw [hi] at c3
  have ht4 := h0.tree
  have hqk := fun w => neK o.tree zK w
  rw [decide_eq_true ht] at hqk
  have ht4' := Lib.hid ht4
  have hgu := fun op a b => guK op a b (encK o.tree).toArray (encK zK).toArray
  have c36 := h0.c36
  rw [hk] at c36
  have c37 := h0.c37
  rw [hm] at c37
  have c38 := h0.c38
  obtain ⟨s, hs⟩ : ∃ s, Hid (∀ _ : Unit, o.note = s) := ⟨_, Lib.hid fun _ => rfl⟩
  rw [hs.out ()] at c38 hn
  have hq7 : (s.toList == []) = false := by rw [beq_eq_false_iff_ne]; exact fun h => hn ((note_nil s).2 h)
  have hq8 : s.toList.isEmpty = false := by rw [List.isEmpty_eq_false_iff]; exact fun h => hn ((note_nil s).2 h)
  clear hi32 h0 hkd hp hi ht4 ht hk hm hn
  go_enter Tryd.func41, Tryd.ntmps41
  go_wp2_with (first
    | (refine wpList_load_mid_g rfl 28 _ rfl w.heap.size 4 rfl (encK o.tree) _ ht4'.out Tryd.underlying28 rfl (by rw [hl32.out]; exact hi32'.out) ?_)
    | (refine wpList_built rfl 28 _ #[] rfl (by simp) _ (buildKz _) ?_))
  go_ret
  exact ⟨rfl, hB'.out⟩

set_option maxRecDepth 100000 in
set_option maxHeartbeats 2000000 in
theorem rfor_k1_o (w : World) (o : ObjT) (p : Lay) (hkd : o.kind = 1) (hp : o.parts.length = 0) (hi : o.items.length = 0) (ht : o.tree = zK) (hk : o.parents.length = 0) (hm : o.time = 0) (hn : o.note = ⟨#[]⟩) :
    Calls Tryd.prog 41 #[.agg (ocells o p).toArray] w fun e w' => e = .returned (.bool false) ∧ Below w.heap.size w w' := by
  have hi32 : (Tryd.prog.info? 28).map (·.size) = some 32 := by kernel_rfl
  have hi32' := Lib.hid hi32
  have h0 : OBlk (w.alloc (.cells (ocells o p).toArray 31)) w.heap.size o p := heap_alloc_new w _
  have hB' := Lib.hid ((Below.refl w.heap.size w).alloc (Nat.le_refl _) (.cells (ocells o p).toArray 31))
  have hl32 := Lib.hid (encK_length o.tree)
  have c0 : (w.alloc (.cells (ocells o p).toArray 31)).cell? ⟨w.heap.size, 0, none⟩ = some (.int .u8 1) := by have := h0.c0; rw [hkd] at this; exact this
  have c2 := h0.c2
  rw [hp] at c2
  have c3 := h0.c3
  rw [hi] at c3
  have ht4 := h0.tree
  have hqk := fun w => neK o.tree zK w
  rw [decide_eq_true ht] at hqk
  have ht4' := Lib.hid ht4
  have hgu := fun op a b => guK op a b (encK o.tree).toArray (encK zK).toArray
  have c36 := h0.c36
  rw [hk] at c36
  have c37 := h0.c37
  rw [hm] at c37
  have c38 := h0.c38
  rw [hn] at c38
  clear hi32 h0 hkd hp hi ht4 ht hk hm hn
  go_enter Tryd.func41, Tryd.ntmps41
  go_wp2_with (first
    | (refine wpList_load_mid_g rfl 28 _ rfl w.heap.size 4 rfl (encK o.tree) _ ht4'.out Tryd.underlying28 rfl (by rw [hl32.out]; exact hi32'.out) ?_)
    | (refine wpList_built rfl 28 _ #[] rfl (by simp) _ (buildKz _) ?_))
  go_ret
  exact ⟨rfl, hB'.out⟩

set_option maxRecDepth 100000 in
set_option maxHeartbeats 2000000 in
theorem rfor_k2_d (w : World) (o : ObjT) (p : Lay) (hkd : o.kind = 2)  (hd : 0 < o.data.length) :
    Calls Tryd.prog 41 #[.agg (ocells o p).toArray] w fun e w' => e = .returned (.bool true) ∧ Below w.heap.size w w' := by
  have hi32 : (Tryd.prog.info? 28).map (·.size) = some 32 := by kernel_rfl
  have hi32' := Lib.hid hi32
  have h0 : OBlk (w.alloc (.cells (ocells o p).toArray 31)) w.heap.size o p := heap_alloc_new w _
  have hB' := Lib.hid ((Below.refl w.heap.size w).alloc (Nat.le_refl _) (.cells (ocells o p).toArray 31))
  have hl32 := Lib.hid (encK_length o.tree)
  have c0 : (w.alloc (.cells (ocells o p).toArray 31)).cell? ⟨w.heap.size, 0, none⟩ = some (.int .u8 2) := by have := h0.c0; rw [hkd] at this; exact this
  have c1 := h0.c1
  obtain ⟨nd, hnd⟩ : ∃ n, Hid (∀ _ : Unit, o.data.length = n) := ⟨_, Lib.hid fun _ => rfl⟩
  rw [hnd.out ()] at c1 hd
  have hzd := pos_ne hd
  clear hi32 h0 hkd hd
  go_enter Tryd.func41, Tryd.ntmps41
  go_wp2_with (first
    | (refine wpList_load_mid_g rfl 28 _ rfl w.heap.size 4 rfl (encK o.tree) _ (by assumption) Tryd.underlying28 rfl (by rw [hl32.out]; exact hi32'.out) ?_)
    | (refine wpList_built rfl 28 _ #[] rfl (by simp) _ (buildKz _) ?_))
  go_ret
  exact ⟨rfl, hB'.out⟩

set_option maxRecDepth 100000 in
set_option maxHeartbeats 2000000 in
theorem rfor_k2_i (w : World) (o : ObjT) (p : Lay) (hkd : o.kind = 2) (hd : o.data.length = 0) (hi : 0 < o.items.length) :
    Calls Tryd.prog 41 #[.agg (ocells o p).toArray] w fun e w' => e = .returned (.bool true) ∧ Below w.heap.size w w' := by
  have hi32 : (Tryd.prog.info? 28).map (·.size) = some 32 := by kernel_rfl
  have hi32' := Lib.hid hi32
  have h0 : OBlk (w.alloc (.cells (ocells o p).toArray 31)) w.heap.size o p := heap_alloc_new w _
  have hB' := Lib.hid ((Below.refl w.heap.size w).alloc (Nat.le_refl _) (.cells (ocells o p).toArray 31))
  have hl32 := Lib.hid (encK_length o.tree)
  have c0 : (w.alloc (.cells (ocells o p).toArray 31)).cell? ⟨w.heap.size, 0, none⟩ = some (.int .u8 2) := by have := h0.c0; rw [hkd] at this; exact this
  have c1 := h0.c1
  rw [hd] at c1
  have c3 := h0.c3
  obtain ⟨ni, hni⟩ : ∃ n, Hid (∀ _ : Unit, o.items.length = n) := ⟨_, Lib.hid fun _ => rfl⟩
  rw [hni.out ()] at c3 hi
  have hzi := pos_ne hi
  clear hi32 h0 hkd hd hi
  go_enter Tryd.func41, Tryd.ntmps41
  go_wp2_with (first
    | (refine wpList_load_mid_g rfl 28 _ rfl w.heap.size 4 rfl (encK o.tree) _ (by assumption) Tryd.underlying28 rfl (by rw [hl32.out]; exact hi32'.out) ?_)
    | (refine wpList_built rfl 28 _ #[] rfl (by simp) _ (buildKz _) ?_))
  go_ret
  exact ⟨rfl, hB'.out⟩

set_option maxRecDepth 100000 in
set_option maxHeartbeats 2000000 in
theorem rfor_k2_t (w : World) (o : ObjT) (p : Lay) (hkd : o.kind = 2) (hd : o.data.length = 0) (hi : o.items.length = 0) (ht : ¬ o.tree = zK) :
    Calls Tryd.prog 41 #[.agg (ocells o p).toArray] w fun e w' => e = .returned (.bool true) ∧ Below w.heap.size w w' := by
  have hi32 : (Tryd.prog.info? 28).map (·.size) = some 32 := by kernel_rfl
  have hi32' := Lib.hid hi32
  have h0 : OBlk (w.alloc (.cells (ocells o p).toArray 31)) w.heap.size o p := heap_alloc_new w _
  have hB' := Lib.hid ((Below.refl w.heap.size w).alloc (Nat.le_refl _) (.cells (ocells o p).toArray 31))
  have hl32 := Lib.hid (encK_length o.tree)
  have c0 : (w.alloc (.cells (ocells o p).toArray 31)).cell? ⟨w.heap.size, 0, none⟩ = some (.int .u8 2) := by have := h0.c0; rw [hkd] at this; exact this
  have c1 := h0.c1
  rw [hd] at c1
  have c3 := h0.c3
  rw [hi] at c3
  have ht4 := h0.tree
  have hqk := fun w => neK o.tree zK w
  rw [decide_eq_false ht] at hqk
  have ht4' := Lib.hid ht4
  have hgu := fun op a b => guK op a b (encK o.tree).toArray (encK zK).toArray
  clear hi32 h0 hkd hd hi ht4 ht
  go_enter Tryd.func41, Tryd.ntmps41
  go_wp2_with (first
    | (refine wpList_load_mid_g rfl 28 _ rfl w.heap.size 4 rfl (encK o.tree) _ ht4'.out Tryd.underlying28 rfl (by rw [hl32.out]; exact hi32'.out) ?_)
    | (refine wpList_built rfl 28 _ #[] rfl (by simp) _ (buildKz _) ?_))
  go_ret
  exact ⟨rfl, hB'.out⟩

set_option maxRecDepth 100000 in
set_option maxHeartbeats 2000000 in
theorem rfor_k2_k (w : World) (o : ObjT) (p : Lay) (hkd : o.kind = 2) (hd : o.data.length = 0) (hi : o.items.length = 0) (ht : o.tree = zK) (hk : 0 < o.parents.length) :
    Calls Tryd.prog 41 #[.agg (ocells o p).toArray] w fun e w' => e = .returned (.bool true) ∧ Below w.heap.size w w' := by
  have hi32 : (Tryd.prog.info? 28).map (·.size) = some 32 := by kernel_rfl
  have hi32' := Lib.hid hi32
  have h0 : OBlk (w.alloc (.cells (ocells o p).toArray 31)) w.heap.size o p := heap_alloc_new w _
  have hB' := Lib.hid ((Below.refl w.heap.size w).alloc (Nat.le_refl _) (.cells (ocells o p).toArray 31))
  have hl32 := Lib.hid (encK_length o.tree)
  have c0 : (w.alloc (.cells (ocells o p).toArray 31)).cell? ⟨w.heap.size, 0, none⟩ = some (.int .u8 2) := by have := h0.c0; rw [hkd] at this; exact this
  have c1 := h0.c1
  rw [hd] at c1
  have c3 := h0.c3
  rw [hi] at c3
  have ht4 := h0.tree
  have hqk := fun w => neK o.tree zK w
  rw [decide_eq_true ht] at hqk
  have ht4' := Lib.hid ht4
  have hgu := fun op a b => guK op a b (encK o.tree).toArray (encK zK).toArray
  have c36 := h0.c36
  obtain ⟨nk, hnk⟩ : ∃ n, Hid (∀ _ : Unit, o.parents.length = n) := ⟨_, Lib.hid fun _ => rfl⟩
  rw [hnk.out ()] at c36 hk
  have hzk := pos_ne hk
  clear hi32 h0 hkd hd hi ht4 ht hk
  go_enter Tryd.func41, Tryd.ntmps41
  go_wp2_with (first
    | (refine wpList_load_mid_g rfl 28 _ rfl w.heap.size 4 rfl (encK o.tree) _ ht4'.out Tryd.underlying28 rfl (by rw [hl32.out]; exact hi32'.out) ?_)
    | (refine wpList_built rfl 28 _ #[] rfl (by simp) _ (buildKz _) ?_))
  go_ret
  exact ⟨rfl, hB'.out⟩

set_option maxRecDepth 100000 in
set_option maxHeartbeats 2000000 in
theorem rfor_k2_m (w : World) (o : ObjT) (p : Lay) (hkd : o.kind = 2) (hd : o.data.length = 0) (hi : o.items.length = 0) (ht : o.tree = zK) (hk : o.parents.length = 0) (hm : ¬ o.time = 0) :
    Calls Tryd.prog 41 #[.agg (ocells o p).toArray] w fun e w' => e = .returned (.bool true) ∧ Below w.heap.size w w' := by
  have hi32 : (Tryd.prog.info? 28).map (·.size) = some 32 := by kernel_rfl
  have hi32' := Lib.hid hi32
  have h0 : OBlk (w.alloc (.cells (ocells o p).toArray 31)) w.heap.size o p := heap_alloc_new w _
  have hB' := Lib.hid ((Below.refl w.heap.size w).alloc (Nat.le_refl _) (.cells (ocells o p).toArray 31))
  have hl32 := Lib.hid (encK_length o.tree)
  have c0 : (w.alloc (.cells (ocells o p).toArray 31)).cell? ⟨w.heap.size, 0, none⟩ = some (.int .u8 2) := by have := h0.c0; rw [hkd] at this; exact this
  have c1 := h0.c1
  rw [hd] at c1
  have c3 := h0.c3
  rw [hi] at c3
  have ht4 := h0.tree
  have hqk := fun w => neK o.tree zK w
  rw [decide_eq_true ht] at hqk
  have ht4' := Lib.hid ht4
  have hgu := fun op a b => guK op a b (encK o.tree).toArray (encK zK).toArray
  have c36 := h0.c36
  rw [hk] at c36
  have c37 := h0.c37
  have hq6 : (o.time != 0) = true := by simpa using hm
  have hq6b : (o.time == 0) = false := by simpa using hm
  clear hi32 h0 hkd hd hi ht4 ht hk hm
  go_enter Tryd.func41, Tryd.ntmps41
  go_wp2_with (first
    | (refine wpList_load_mid_g rfl 28 _ rfl w.heap.size 4 rfl (encK o.tree) _ ht4'.out Tryd.underlying28 rfl (by rw [hl32.out]; exact hi32'.out) ?_)
    | (refine wpList_built rfl 28 _ #[] rfl (by simp) _ (buildKz _) ?_))
  go_ret
  exact ⟨rfl, hB'.out⟩

set_option maxRecDepth 100000 in
set_option maxHeartbeats 2000000 in
theorem rfor_k2_n (w : World) (o : ObjT) (p : Lay) (hkd : o.kind = 2) (hd : o.data.length = 0) (hi : o.items.length = 0) (ht : o.tree = zK) (hk : o.parents.length = 0) (hm : o.time = 0) (hn : ¬ o.note = ⟨#[]⟩) :
    Calls Tryd.prog 41 #[.agg (ocells o p).toArray] w fun e w' => e = .returned (.bool true) ∧ Below w.heap.size w w' := by
  have hi32 : (Tryd.prog.info? 28).map (·.size) = some 32 := by kernel_rfl
  have hi32' := Lib.hid hi32
  have h0 : OBlk (w.alloc (.cells (ocells o p).toArray 31)) w.heap.size o p := heap_alloc_new w _
  have hB' := Lib.hid ((Below.refl w.heap.size w).alloc (Nat.le_refl _) (.cells (ocells o p).toArray 31))
  have hl32 := Lib.hid (encK_length o.tree)
  have c0 : (w.alloc (.cells (ocells o p).toArray 31)).cell? ⟨w.heap.size, 0, none⟩ = some (.int .u8 2) := by have := h0.c0; rw [hkd] at this; exact this
  have c1 := h0.c1
  rw [hd] at c1
  have c3 := h0.c3
  rw [hi] at c3
  have ht4 := h0.tree
  have hqk := fun w => neK o.tree zK w
  rw [decide_eq_true ht] at hqk
  have ht4' := Lib.hid ht4
  have hgu := fun op a b => guK op a b (encK o.tree).toArray (encK zK).toArray
  have c36 := h0.c36
  rw [hk] at c36
  have c37 := h0.c37
  rw [hm] at c37
  have c38 := h0.c38
  obtain ⟨s, hs⟩ : ∃ s, Hid (∀ _ : Unit, o.note = s) := ⟨_, Lib.hid fun _ => rfl⟩
  rw [hs.out ()] at c38 hn
  have hq7 : (s.toList == []) = false := by rw [beq_eq_false_iff_ne]; exact fun h => hn ((note_nil s).2 h)
  have hq8 : s.toList.isEmpty = false := by rw [List.isEmpty_eq_false_iff]; exact fun h => hn ((note_nil s).2 h)
  clear hi32 h0 hkd hd hi ht4 ht hk hm hn
  go_enter Tryd.func41, Tryd.ntmps41
  go_wp2_with (first
    | (refine wpList_load_mid_g rfl 28 _ rfl w.heap.size 4 rfl (encK o.tree) _ ht4'.out Tryd.underlying28 rfl (by rw [hl32.out]; exact hi32'.out) ?_)
    | (refine wpList_built rfl 28 _ #[] rfl (by simp) _ (buildKz _) ?_))
  go_ret
  exact ⟨rfl, hB'.out⟩

set_option maxRecDepth 100000 in
set_option maxHeartbeats 2000000 in
theorem rfor_k2_o (w : World) (o : ObjT) (p : Lay) (hkd : o.kind = 2) (hd : o.data.length = 0) (hi : o.items.length = 0) (ht : o.tree = zK) (hk : o.parents.length = 0) (hm : o.time = 0) (hn : o.note = ⟨#[]⟩) :
    Calls Tryd.prog 41 #[.agg (ocells o p).toArray] w fun e w' => e = .returned (.bool false) ∧ Below w.heap.size w w' := by
  have hi32 : (Tryd.prog.info? 28).map (·.size) = some 32 := by kernel_rfl
  have hi32' := Lib.hid hi32
  have h0 : OBlk (w.alloc (.cells (ocells o p).toArray 31)) w.heap.size o p := heap_alloc_new w _
  have hB' := Lib.hid ((Below.refl w.heap.size w).alloc (Nat.le_refl _) (.cells (ocells o p).toArray 31))
  have hl32 := Lib.hid (encK_length o.tree)
  have c0 : (w.alloc (.cells (ocells o p).toArray 31)).cell? ⟨w.heap.size, 0, none⟩ = some (.int .u8 2) := by have := h0.c0; rw [hkd] at this; exact this
  have c1 := h0.c1
  rw [hd] at c1
  have c3 := h0.c3
  rw [hi] at c3
  have ht4 := h0.tree
  have hqk := fun w => neK o.tree zK w
  rw [decide_eq_true ht] at hqk
  have ht4' := Lib.hid ht4
  have hgu := fun op a b => guK op a b (encK o.tree).toArray (encK zK).toArray
  have c36 := h0.c36
  rw [hk] at c36
  have c37 := h0.c37
  rw [hm] at c37
  have c38 := h0.c38
  rw [hn] at c38
  clear hi32 h0 hkd hd hi ht4 ht hk hm hn
  go_enter Tryd.func41, Tryd.ntmps41
  go_wp2_with (first
    | (refine wpList_load_mid_g rfl 28 _ rfl w.heap.size 4 rfl (encK o.tree) _ ht4'.out Tryd.underlying28 rfl (by rw [hl32.out]; exact hi32'.out) ?_)
    | (refine wpList_built rfl 28 _ #[] rfl (by simp) _ (buildKz _) ?_))
  go_ret
  exact ⟨rfl, hB'.out⟩

set_option maxRecDepth 100000 in
set_option maxHeartbeats 2000000 in
theorem rfor_k3_d (w : World) (o : ObjT) (p : Lay) (hkd : o.kind = 3)  (hd : 0 < o.data.length) :
    Calls Tryd.prog 41 #[.agg (ocells o p).toArray] w fun e w' => e = .returned (.bool true) ∧ Below w.heap.size w w' := by
  have hi32 : (Tryd.prog.info? 28).map (·.size) = some 32 := by kernel_rfl
  have hi32' := Lib.hid hi32
  have h0 : OBlk (w.alloc (.cells (ocells o p).toArray 31)) w.heap.size o p := heap_alloc_new w _
  have hB' := Lib.hid ((Below.refl w.heap.size w).alloc (Nat.le_refl _) (.cells (ocells o p).toArray 31))
  have hl32 := Lib.hid (encK_length o.tree)
  have c0 : (w.alloc (.cells (ocells o p).toArray 31)).cell? ⟨w.heap.size, 0, none⟩ = some (.int .u8 3) := by have := h0.c0; rw [hkd] at this; exact this
  have c1 := h0.c1
  obtain ⟨nd, hnd⟩ : ∃ n, Hid (∀ _ : Unit, o.data.length = n) := ⟨_, Lib.hid fun _ => rfl⟩
  rw [hnd.out ()] at c1 hd
  have hzd := pos_ne hd
  clear hi32 h0 hkd hd
  go_enter Tryd.func41, Tryd.ntmps41
  go_wp2_with (first
    | (refine wpList_load_mid_g rfl 28 _ rfl w.heap.size 4 rfl (encK o.tree) _ (by assumption) Tryd.underlying28 rfl (by rw [hl32.out]; exact hi32'.out) ?_)
    | (refine wpList_built rfl 28 _ #[] rfl (by simp) _ (buildKz _) ?_))
  go_ret
  exact ⟨rfl, hB'.out⟩

set_option maxRecDepth 100000 in
set_option maxHeartbeats 2000000 in
theorem rfor_k3_p (w : World) (o : ObjT) (p : Lay) (hkd : o.kind = 3) (hd : o.data.length = 0) (hp : 0 < o.parts.length) :
    Calls Tryd.prog 41 #[.agg (ocells o p).toArray] w fun e w' => e = .returned (.bool true) ∧ Below w.heap.size w w' := by
  have hi32 : (Tryd.prog.info? 28).map (·.size) = some 32 := by kernel_rfl
  have hi32' := Lib.hid hi32
  have h0 : OBlk (w.alloc (.cells (ocells o p).toArray 31)) w.heap.size o p := heap_alloc_new w _
  have hB' := Lib.hid ((Below.refl w.heap.size w).alloc (Nat.le_refl _) (.cells (ocells o p).toArray 31))
  have hl32 := Lib.hid (encK_length o.tree)
  have c0 : (w.alloc (.cells (ocells o p).toArray 31)).cell? ⟨w.heap.size, 0, none⟩ = some (.int .u8 3) := by have := h0.c0; rw [hkd] at this; exact this
  have c1 := h0.c1
  rw [hd] at c1
  have c2 := h0.c2
  obtain ⟨np, hnp⟩ : ∃ n, Hid (∀ _ : Unit, o.parts.length = n) := ⟨_, Lib.hid fun _ => rfl⟩
  rw [hnp.out ()] at c2 hp
  have hzp := pos_ne hp
  clear hi32 h0 hkd hd hp
  go_enter Tryd.func41, Tryd.ntmps41
  go_wp2_with (first
    | (refine wpList_load_mid_g rfl 28 _ rfl w.heap.size 4 rfl (encK o.tree) _ (by assumption) Tryd.underlying28 rfl (by rw [hl32.out]; exact hi32'.out) ?_)
    | (refine wpList_built rfl 28 _ #[] rfl (by simp) _ (buildKz _) ?_))
  go_ret
  exact ⟨rfl, hB'.out⟩

set_option maxRecDepth 100000 in
set_option maxHeartbeats 2000000 in
theorem rfor_k3_t (w : World) (o : ObjT) (p : Lay) (hkd : o.kind = 3) (hd : o.data.length = 0) (hp : o.parts.length = 0) (ht : ¬ o.tree = zK) :
    Calls Tryd.prog 41 #[.agg (ocells o p).toArray] w fun e w' => e = .returned (.bool true) ∧ Below w.heap.size w w' := by
  have hi32 : (Tryd.prog.info? 28).map (·.size) = some 32 := by kernel_rfl
  have hi32' := Lib.hid hi32
  have h0 : OBlk (w.alloc (.cells (ocells o p).toArray 31)) w.heap.size o p := heap_alloc_new w _
  have hB' := Lib.hid ((Below.refl w.heap.size w).alloc (Nat.le_refl _) (.cells (ocells o p).toArray 31))
  have hl32 := Lib.hid (encK_length o.tree)
  have c0 : (w.alloc (.cells (ocells o p).toArray 31)).cell? ⟨w.heap.size, 0, none⟩ = some (.int .u8 3) := by have := h0.c0; rw [hkd] at this; exact this
  have c1 := h0.c1
  rw [hd] at c1
  have c2 := h0.c2
  rw [hp] at c2
  have ht4 := h0.tree
  have hqk := fun w => neK o.tree zK w
  rw [decide_eq_false ht] at hqk
  have ht4' := Lib.hid ht4
  have hgu := fun op a b => guK op a b (encK o.tree).toArray (encK zK).toArray
  clear hi32 h0 hkd hd hp ht4 ht
  go_enter Tryd.func41, Tryd.ntmps41
  go_wp2_with (first
    | (refine wpList_load_mid_g rfl 28 _ rfl w.heap.size 4 rfl (encK o.tree) _ ht4'.out Tryd.underlying28 rfl (by rw [hl32.out]; exact hi32'.out) ?_)
    | (refine wpList_built rfl 28 _ #[] rfl (by simp) _ (buildKz _) ?_))
  go_ret
  exact ⟨rfl, hB'.out⟩

set_option maxRecDepth 100000 in
set_option maxHeartbeats 2000000 in
theorem rfor_k3_k (w : World) (o : ObjT) (p : Lay) (hkd : o.kind = 3) (hd : o.data.length = 0) (hp : o.parts.length = 0) (ht : o.tree = zK) (hk : 0 < o.parents.length) :
    Calls Tryd.prog 41 #[.agg (ocells o p).toArray] w fun e w' => e = .returned (.bool true) ∧ Below w.heap.size w w' := by
  have hi32 : (Tryd.prog.info? 28).map (·.size) = some 32 := by kernel_rfl
  have hi32' := Lib.hid hi32
  have h0 : OBlk (w.alloc (.cells (ocells o p).toArray 31)) w.heap.size o p := heap_alloc_new w _
  have hB' := Lib.hid ((Below.refl w.heap.size w).alloc (Nat.le_refl _) (.cells (ocells o p).toArray 31))
  have hl32 := Lib.hid (encK_length o.tree)
  have c0 : (w.alloc (.cells (ocells o p).toArray 31)).cell? ⟨w.heap.size, 0, none⟩ = some (.int .u8 3) := by have := h0.c0; rw [hkd] at this; exact this
  have c1 := h0.c1
  rw [hd] at c1
  have c2 := h0.c2
  rw [hp] at c2
  have ht4 := h0.tree
  have hqk := fun w => neK o.tree zK w
  rw [decide_eq_true ht] at hqk
  have ht4' := Lib.hid ht4
  have hgu := fun op a b => guK op a b (encK o.tree).toArray (encK zK).toArray
  have c36 := h0.c36
  obtain ⟨nk, hnk⟩ : ∃ n, Hid (∀ _ : Unit, o.parents.length = n) := ⟨_, Lib.hid fun _ => rfl⟩
  rw [hnk.out ()] at c36 hk
  have hzk := pos_ne hk
  clear hi32 h0 hkd hd hp ht4 ht hk
  go_enter Tryd.func41, Tryd.ntmps41
  go_wp2_with (first
    | (refine wpList_load_mid_g rfl 28 _ rfl w.heap.size 4 rfl (encK o.tree) _ ht4'.out Tryd.underlying28 rfl (by rw [hl32.out]; exact hi32'.out) ?_)
    | (refine wpList_built rfl 28 _ #[] rfl (by simp) _ (buildKz _) ?_))
  go_ret
  exact ⟨rfl, hB'.out⟩

set_option maxRecDepth 100000 in
set_option maxHeartbeats 2000000 in
theorem rfor_k3_m (w : World) (o : ObjT) (p : Lay) (hkd : o.kind = 3) (hd : o.data.length = 0) (hp : o.parts.length = 0) (ht : o.tree = zK) (hk : o.parents.length = 0) (hm : ¬ o.time = 0) :
    Calls Tryd.prog 41 #[.agg (ocells o p).toArray] w fun e w' => e = .returned (.bool true) ∧ Below w.heap.size w w' := by
  have hi32 : (Tryd.prog.info? 28).map (·.size) = some 32 := by kernel_rfl
  have hi32' := Lib.hid hi32
  have h0 : OBlk (w.alloc (.cells (ocells o p).toArray 31)) w.heap.size o p := heap_alloc_new w _
  have hB' := Lib.hid ((Below.refl w.heap.size w).alloc (Nat.le_refl _) (.cells (ocells o p).toArray 31))
  have hl32 := Lib.hid (encK_length o.tree)
  have c0 : (w.alloc (.cells (ocells o p).toArray 31)).cell? ⟨w.heap.size, 0, none⟩ = some (.int .u8 3) := by have := h0.c0; rw [hkd] at this; exact this
  have c1 := h0.c1
  rw [hd] at c1
  have c2 := h0.c2
  rw [hp] at c2
  have ht4 := h0.tree
  have hqk := fun w => neK o.tree zK w
  rw [decide_eq_true ht] at hqk
  have ht4' := Lib.hid ht4
  have hgu := fun op a b => guK op a b (encK o.tree).toArray (encK zK).toArray
  have c36 := h0.c36
  rw [hk] at c36
  have c37 := h0.c37
  have hq6 : (o.time != 0) = true := by simpa using hm
  have hq6b : (o.time == 0) = false := by simpa using hm
  clear hi32 h0 hkd hd hp ht4 ht hk hm
  go_enter Tryd.func41, Tryd.ntmps41
  go_wp2_with (first
    | (refine wpList_load_mid_g rfl 28 _ rfl w.heap.size 4 rfl (encK o.tree) _ ht4'.out Tryd.underlying28 rfl (by rw [hl32.out]; exact hi32'.out) ?_)
    | (refine wpList_built rfl 28 _ #[] rfl (by simp) _ (buildKz _) ?_))
  go_ret
  exact ⟨rfl, hB'.out⟩

set_option maxRecDepth 100000 in
set_option maxHeartbeats 2000000 in
theorem rfor_k3_n (w : World) (o : ObjT) (p : Lay) (hkd : o.kind = 3) (hd : o.data.length = 0) (hp : o.parts.length = 0) (ht : o.tree = zK) (hk : o.parents.length = 0) (hm : o.time = 0) (hn : ¬ o.note = ⟨#[]⟩) :
    Calls Tryd.prog 41 #[.agg (ocells o p).toArray] w fun e w' => e = .returned (.bool true) ∧ Below w.heap.size w w' := by
  have hi32 : (Tryd.prog.info? 28).map (·.size) = some 32 := by kernel_rfl
  have hi32' := Lib.hid hi32
  have h0 : OBlk (w.alloc (.cells (ocells o p).toArray 31)) w.heap.size o p := heap_alloc_new w _
  have hB' := Lib.hid ((Below.refl w.heap.size w).alloc (Nat.le_refl _) (.cells (ocells o p).toArray 31))
  have hl32 := Lib.hid (encK_length o.tree)
  have c0 : (w.alloc (.cells (ocells o p).toArray 31)).cell? ⟨w.heap.size, 0, none⟩ = some (.int .u8 3) := by have := h0.c0; rw [hkd] at this; exact this
  have c1 := h0.c1
  rw [hd] at c1
  have c2 := h0.c2
  rw [hp] at c2
  have ht4 := h0.tree
  have hqk := fun w => neK o.tree zK w
  rw [decide_eq_true ht] at hqk
  have ht4' := Lib.hid ht4
  have hgu := fun op a b => guK op a b (encK o.tree).toArray (encK zK).toArray
  have c36 := h0.c36
  rw [hk] at c36
  have c37 := h0.c37
  rw [hm] at c37
  have c38 := h0.c38
  obtain ⟨s, hs⟩ : ∃ s, Hid (∀ _ : Unit, o.note = s) := ⟨_, Lib.hid fun _ => rfl⟩
  rw [hs.out ()] at c38 hn
  have hq7 : (s.toList == []) = false := by rw [beq_eq_false_iff_ne]; exact fun h => hn ((note_nil s).2 h)
  have hq8 : s.toList.isEmpty = false := by rw [List.isEmpty_eq_false_iff]; exact fun h => hn ((note_nil s).2 h)
  clear hi32 h0 hkd hd hp ht4 ht hk hm hn
  go_enter Tryd.func41, Tryd.ntmps41
  go_wp2_with (first
    | (refine wpList_load_mid_g rfl 28 _ rfl w.heap.size 4 rfl (encK o.tree) _ ht4'.out Tryd.underlying28 rfl (by rw [hl32.out]; exact hi32'.out) ?_)
    | (refine wpList_built rfl 28 _ #[] rfl (by simp) _ (buildKz _) ?_))
  go_ret
  exact ⟨rfl, hB'.out⟩

set_option maxRecDepth 100000 in
set_option maxHeartbeats 2000000 in
theorem rfor_k3_o (w : World) (o : ObjT) (p : Lay) (hkd : o.kind = 3) (hd : o.data.length = 0) (hp : o.parts.length = 0) (ht : o.tree = zK) (hk : o.parents.length = 0) (hm : o.time = 0) (hn : o.note = ⟨#[]⟩) :
    Calls Tryd.prog 41 #[.agg (ocells o p).toArray] w fun e w' => e = .returned (.bool false) ∧ Below w.heap.size w w' := by
  have hi32 : (Tryd.prog.info? 28).map (·.size) = some 32 := by kernel_rfl
  have hi32' := Lib.hid hi32
  have h0 : OBlk (w.alloc (.cells (ocells o p).toArray 31)) w.heap.size o p := heap_alloc_new w _
  have hB' := Lib.hid ((Below.refl w.heap.size w).alloc (Nat.le_refl _) (.cells (ocells o p).toArray 31))
  have hl32 := Lib.hid (encK_length o.tree)
  have c0 : (w.alloc (.cells (ocells o p).toArray 31)).cell? ⟨w.heap.size, 0, none⟩ = some (.int .u8 3) := by have := h0.c0; rw [hkd] at this; exact this
  have c1 := h0.c1
  rw [hd] at c1
  have c2 := h0.c2
  rw [hp] at c2
  have ht4 := h0.tree
  have hqk := fun w => neK o.tree zK w
  rw [decide_eq_true ht] at hqk
  have ht4' := Lib.hid ht4
  have hgu := fun op a b => guK op a b (encK o.tree).toArray (encK zK).toArray
  have c36 := h0.c36
  rw [hk] at c36
  have c37 := h0.c37
  rw [hm] at c37
  have c38 := h0.c38
  rw [hn] at c38
  clear hi32 h0 hkd hd hp ht4 ht hk hm hn
  go_enter Tryd.func41, Tryd.ntmps41
  go_wp2_with (first
    | (refine wpList_load_mid_g rfl 28 _ rfl w.heap.size 4 rfl (encK o.tree) _ ht4'.out Tryd.underlying28 rfl (by rw [hl32.out]; exact hi32'.out) ?_)
    | (refine wpList_built rfl 28 _ #[] rfl (by simp) _ (buildKz _) ?_))
  go_ret
  exact ⟨rfl, hB'.out⟩

set_option maxRecDepth 100000 in
set_option maxHeartbeats 2000000 in
theorem rfor_k4_d (w : World) (o : ObjT) (p : Lay) (hkd : o.kind = 4)  (hd : 0 < o.data.length) :
    Calls Tryd.prog 41 #[.agg (ocells o p).toArray] w fun e w' => e = .returned (.bool true) ∧ Below w.heap.size w w' := by
  have hi32 : (Tryd.prog.info? 28).map (·.size) = some 32 := by kernel_rfl
  have hi32' := Lib.hid hi32
  have h0 : OBlk (w.alloc (.cells (ocells o p).toArray 31)) w.heap.size o p := heap_alloc_new w _
  have hB' := Lib.hid ((Below.refl w.heap.size w).alloc (Nat.le_refl _) (.cells (ocells o p).toArray 31))
  have hl32 := Lib.hid (encK_length o.tree)
  have c0 : (w.alloc (.cells (ocells o p).toArray 31)).cell? ⟨w.heap.size, 0, none⟩ = some (.int .u8 4) := by have := h0.c0; rw [hkd] at this; exact this
  have c1 := h0.c1
  obtain ⟨nd, hnd⟩ : ∃ n, Hid (∀ _ : Unit, o.data.length = n) := ⟨_, Lib.hid fun _ => rfl⟩
  rw [hnd.out ()] at c1 hd
  have hzd := pos_ne hd
  clear hi32 h0 hkd hd
  go_enter Tryd.func41, Tryd.ntmps41
  go_wp2_with (first
    | (refine wpList_load_mid_g rfl 28 _ rfl w.heap.size 4 rfl (encK o.tree) _ (by assumption) Tryd.underlying28 rfl (by rw [hl32.out]; exact hi32'.out) ?_)
    | (refine wpList_built rfl 28 _ #[] rfl (by simp) _ (buildKz _) ?_))
  go_ret
  exact ⟨rfl, hB'.out⟩

set_option maxRecDepth 100000 in
set_option maxHeartbeats 2000000 in
theorem rfor_k4_p (w : World) (o : ObjT) (p : Lay) (hkd : o.kind = 4) (hd : o.data.length = 0) (hp : 0 < o.parts.length) :
    Calls Tryd.prog 41 #[.agg (ocells o p).toArray] w fun e w' => e = .returned (.bool true) ∧ Below w.heap.size w w' := by
  have hi32 : (Tryd.prog.info? 28).map (·.size) = some 32 := by kernel_rfl
  have hi32' := Lib.hid hi32
  have h0 : OBlk (w.alloc (.cells (ocells o p).toArray 31)) w.heap.size o p := heap_alloc_new w _
  have hB' := Lib.hid ((Below.refl w.heap.size w).alloc (Nat.le_refl _) (.cells (ocells o p).toArray 31))
  have hl32 := Lib.hid (encK_length o.tree)
  have c0 : (w.alloc (.cells (ocells o p).toArray 31)).cell? ⟨w.heap.size, 0, none⟩ = some (.int .u8 4) := by have := h0.c0; rw [hkd] at this; exact this
  have c1 := h0.c1
  rw [hd] at c1
  have c2 := h0.c2
  obtain ⟨np, hnp⟩ : ∃ n, Hid (∀ _ : Unit, o.parts.length = n) := ⟨_, Lib.hid fun _ => rfl⟩
  rw [hnp.out ()] at c2 hp
  have hzp := pos_ne hp
  clear hi32 h0 hkd hd hp
  go_enter Tryd.func41, Tryd.ntmps41
  go_wp2_with (first
    | (refine wpList_load_mid_g rfl 28 _ rfl w.heap.size 4 rfl (encK o.tree) _ (by assumption) Tryd.underlying28 rfl (by rw [hl32.out]; exact hi32'.out) ?_)
    | (refine wpList_built rfl 28 _ #[] rfl (by simp) _ (buildKz _) ?_))
  go_ret
  exact ⟨rfl, hB'.out⟩

set_option maxRecDepth 100000 in
set_option maxHeartbeats 2000000 in
theorem rfor_k4_i (w : World) (o : ObjT) (p : Lay) (hkd : o.kind = 4) (hd : o.data.length = 0) (hp : o.parts.length = 0) (hi : 0 < o.items.length) :
    Calls Tryd.prog 41 #[.agg (ocells o p).toArray] w fun e w' => e = .returned (.bool true) ∧ Below w.heap.size w w' := by
  have hi32 : (Tryd.prog.info? 28).map (·.size) = some 32 := by kernel_rfl
  have hi32' := Lib.hid hi32
  have h0 : OBlk (w.alloc (.cells (ocells o p).toArray 31)) w.heap.size o p := heap_alloc_new w _
  have hB' := Lib.hid ((Below.refl w.heap.size w).alloc (Nat.le_refl _) (.cells (ocells o p).toArray 31))
  have hl32 := Lib.hid (encK_length o.tree)
  have c0 : (w.alloc (.cells (ocells o p).toArray 31)).cell? ⟨w.heap.size, 0, none⟩ = some (.int .u8 4) := by have := h0.c0; rw [hkd] at this; exact this
  have c1 := h0.c1
  rw [hd] at c1
  have c2 := h0.c2
  rw [hp] at c2
  have c3 := h0.c3
  obtain ⟨ni, hni⟩ : ∃ n, Hid (∀ _ : Unit, o.items.length = n) := ⟨_, Lib.hid fun _ => rfl⟩
  rw [hni.out ()] at c3 hi
  have hzi := pos_ne hi
  clear hi32 h0 hkd hd hp hi
  go_enter Tryd.func41, Tryd.ntmps41
  go_wp2_with (first
    | (refine wpList_load_mid_g rfl 28 _ rfl w.heap.size 4 rfl (encK o.tree) _ (by assumption) Tryd.underlying28 rfl (by rw [hl32.out]; exact hi32'.out) ?_)
    | (refine wpList_built rfl 28 _ #[] rfl (by simp) _ (buildKz _) ?_))
  go_ret
  exact ⟨rfl, hB'.out⟩

set_option maxRecDepth 100000 in
set_option maxHeartbeats 2000000 in
theorem rfor_k4_o (w : World) (o : ObjT) (p : Lay) (hkd : o.kind = 4) (hd : o.data.length = 0) (hp : o.parts.length = 0) (hi : o.items.length = 0) :
    Calls Tryd.prog 41 #[.agg (ocells o p).toArray] w fun e w' => e = .returned (.bool false) ∧ Below w.heap.size w w' := by
  have hi32 : (Tryd.prog.info? 28).map (·.size) = some 32 := by kernel_rfl
  have hi32' := Lib.hid hi32
  have h0 : OBlk (w.alloc (.cells (ocells o p).toArray 31)) w.heap.size o p := heap_alloc_new w _
  have hB' := Lib.hid ((Below.refl w.heap.size w).alloc (Nat.le_refl _) (.cells (ocells o p).toArray 31))
  have hl32 := Lib.hid (encK_length o.tree)
  have c0 : (w.alloc (.cells (ocells o p).toArray 31)).cell? ⟨w.heap.size, 0, none⟩ = some (.int .u8 4) := by have := h0.c0; rw [hkd] at this; exact this
  have c1 := h0.c1
  rw [hd] at c1
  have c2 := h0.c2
  rw [hp] at c2
  have c3 := h0.c3
  rw [hi] at c3
  clear hi32 h0 hkd hd hp hi
  go_enter Tryd.func41, Tryd.ntmps41
  go_wp2_with (first
    | (refine wpList_load_mid_g rfl 28 _ rfl w.heap.size 4 rfl (encK o.tree) _ (by assumption) Tryd.underlying28 rfl (by rw [hl32.out]; exact hi32'.out) ?_)
    | (refine wpList_built rfl 28 _ #[] rfl (by simp) _ (buildKz _) ?_))
  go_ret
  exact ⟨rfl, hB'.out⟩

theorem rfor_any (w : World) (o : ObjT) (p : Lay) (h1 : 1 ≤ o.kind) (h4 : o.kind ≤ 4) :
    Calls Tryd.prog 41 #[.agg (ocells o p).toArray] w fun e w' => e = .returned (.bool (refFor o)) ∧ Below w.heap.size w w' := by
  rcases (by omega : o.kind = 1 ∨ o.kind = 2 ∨ o.kind = 3 ∨ o.kind = 4) with k | k | k | k
  · rcases Nat.eq_zero_or_pos o.parts.length with hp | hp
    rotate_left
    · rw [show refFor o = true by unfold refFor; simp [k, hp]]; exact rfor_k1_p w o p k  hp
    rcases Nat.eq_zero_or_pos o.items.length with hi | hi
    rotate_left
    · rw [show refFor o = true by unfold refFor; simp [k, hp, hi]]; exact rfor_k1_i w o p k hp hi
    rcases Decidable.em (o.tree = zK) with ht | ht
    rotate_left
    · rw [show refFor o = true by unfold refFor; simp [k, hp, hi, ht]]; exact rfor_k1_t w o p k hp hi ht
    rcases Nat.eq_zero_or_pos o.parents.length with hk | hk
    rotate_left
    · rw [show refFor o = true by unfold refFor; simp [k, hp, hi, ht, hk]]; exact rfor_k1_k w o p k hp hi ht hk
    rcases Decidable.em (o.time = 0) with hm | hm
    rotate_left
    · rw [show refFor o = true by unfold refFor; simp [k, hp, hi, ht, hk, hm]]; exact rfor_k1_m w o p k hp hi ht hk hm
    rcases Decidable.em (o.note = ⟨#[]⟩) with hn | hn
    rotate_left
    · rw [show refFor o = true by unfold refFor; simp [k, hp, hi, ht, hk, hm, hn]]; exact rfor_k1_n w o p k hp hi ht hk hm hn
    rw [show refFor o = false by unfold refFor; simp [k, hp, hi, ht, hk, hm, hn]]; exact rfor_k1_o w o p k hp hi ht hk hm hn
  · rcases Nat.eq_zero_or_pos o.data.length with hd | hd
    rotate_left
    · rw [show refFor o = true by unfold refFor; simp [k, hd]]; exact rfor_k2_d w o p k  hd
    rcases Nat.eq_zero_or_pos o.items.length with hi | hi
    rotate_left
    · rw [show refFor o = true by unfold refFor; simp [k, hd, hi]]; exact rfor_k2_i w o p k hd hi
    rcases Decidable.em (o.tree = zK) with ht | ht
    rotate_left
    · rw [show refFor o = true by unfold refFor; simp [k, hd, hi, ht]]; exact rfor_k2_t w o p k hd hi ht
    rcases Nat.eq_zero_or_pos o.parents.length with hk | hk
    rotate_left
    · rw [show refFor o = true by unfold refFor; simp [k, hd, hi, ht, hk]]; exact rfor_k2_k w o p k hd hi ht hk
    rcases Decidable.em (o.time = 0) with hm | hm
    rotate_left
    · rw [show refFor o = true by unfold refFor; simp [k, hd, hi, ht, hk, hm]]; exact rfor_k2_m w o p k hd hi ht hk hm
    rcases Decidable.em (o.note = ⟨#[]⟩) with hn | hn
    rotate_left
    · rw [show refFor o = true by unfold refFor; simp [k, hd, hi, ht, hk, hm, hn]]; exact rfor_k2_n w o p k hd hi ht hk hm hn
    rw [show refFor o = false by unfold refFor; simp [k, hd, hi, ht, hk, hm, hn]]; exact rfor_k2_o w o p k hd hi ht hk hm hn
  · rcases Nat.eq_zero_or_pos o.data.length with hd | hd
    rotate_left
    · rw [show refFor o = true by unfold refFor; simp [k, hd]]; exact rfor_k3_d w o p k  hd
    rcases Nat.eq_zero_or_pos o.parts.length with hp | hp
    rotate_left
    · rw [show refFor o = true by unfold refFor; simp [k, hd, hp]]; exact rfor_k3_p w o p k hd hp
    rcases Decidable.em (o.tree = zK) with ht | ht
    rotate_left
    · rw [show refFor o = true by unfold refFor; simp [k, hd, hp, ht]]; exact rfor_k3_t w o p k hd hp ht
    rcases Nat.eq_zero_or_pos o.parents.length with hk | hk
    rotate_left
    · rw [show refFor o = true by unfold refFor; simp [k, hd, hp, ht, hk]]; exact rfor_k3_k w o p k hd hp ht hk
    rcases Decidable.em (o.time = 0) with hm | hm
    rotate_left
    · rw [show refFor o = true by unfold refFor; simp [k, hd, hp, ht, hk, hm]]; exact rfor_k3_m w o p k hd hp ht hk hm
    rcases Decidable.em (o.note = ⟨#[]⟩) with hn | hn
    rotate_left
    · rw [show refFor o = true by unfold refFor; simp [k, hd, hp, ht, hk, hm, hn]]; exact rfor_k3_n w o p k hd hp ht hk hm hn
    rw [show refFor o = false by unfold refFor; simp [k, hd, hp, ht, hk, hm, hn]]; exact rfor_k3_o w o p k hd hp ht hk hm hn
  · rcases Nat.eq_zero_or_pos o.data.length with hd | hd
    rotate_left
    · rw [show refFor o = true by unfold refFor; simp [k, hd]]; exact rfor_k4_d w o p k  hd
    rcases Nat.eq_zero_or_pos o.parts.length with hp | hp
    rotate_left
    · rw [show refFor o = true by unfold refFor; simp [k, hd, hp]]; exact rfor_k4_p w o p k hd hp
    rcases Nat.eq_zero_or_pos o.items.length with hi | hi
    rotate_left
    · rw [show refFor o = true by unfold refFor; simp [k, hd, hp, hi]]; exact rfor_k4_i w o p k hd hp hi
    rw [show refFor o = false by unfold refFor; simp [k, hd, hp, hi]]; exact rfor_k4_o w o p k hd hp hi

set_option maxRecDepth 100000 in
set_option maxHeartbeats 2000000 in
theorem kidCount_k1 (w : World) (o : ObjT) (p : Lay) (hf : Fit o) (hk : o.kind = 1) :
    Calls Tryd.prog 42 #[.agg (ocells o p).toArray] w fun e w' => e = .returned (.int .i64 (kidsN o : Nat)) ∧ Below w.heap.size w w' := by
  have hR : Hid (kidsN o = 0) := Lib.hid (by simp [kidsN, hk])
  have h0 : OBlk (w.alloc (.cells (ocells o p).toArray 31)) w.heap.size o p := heap_alloc_new w _
  have hB' := Lib.hid ((Below.refl w.heap.size w).alloc (Nat.le_refl _) (.cells (ocells o p).toArray 31))
  have c0 : (w.alloc (.cells (ocells o p).toArray 31)).cell? ⟨w.heap.size, 0, none⟩ = some (.int .u8 1) := by have := h0.c0; rw [hk] at this; exact this
  clear h0 hk hf
  go_enter Tryd.func42, Tryd.ntmps42
  go_wp2_with fail
  go_ret
  exact ⟨ret_int (by rw [hR.out]; rfl), hB'.out⟩

set_option maxRecDepth 100000 in
set_option maxHeartbeats 2000000 in
theorem kidCount_k2 (w : World) (o : ObjT) (p : Lay) (hf : Fit o) (hk : o.kind = 2) :
    Calls Tryd.prog 42 #[.agg (ocells o p).toArray] w fun e w' => e = .returned (.int .i64 (kidsN o : Nat)) ∧ Below w.heap.size w w' := by
  have hR : Hid (kidsN o = o.parts.length) := Lib.hid (by simp [kidsN, hk])
  have h0 : OBlk (w.alloc (.cells (ocells o p).toArray 31)) w.heap.size o p := heap_alloc_new w _
  have hB' := Lib.hid ((Below.refl w.heap.size w).alloc (Nat.le_refl _) (.cells (ocells o p).toArray 31))
  have c0 : (w.alloc (.cells (ocells o p).toArray 31)).cell? ⟨w.heap.size, 0, none⟩ = some (.int .u8 2) := by have := h0.c0; rw [hk] at this; exact this
  have c2 := h0.c2
  obtain ⟨n, hn⟩ : ∃ n, Hid (∀ _ : Unit, o.parts.length = n) := ⟨_, Lib.hid fun _ => rfl⟩
  have hl : n ≤ 140737488355328 := by rw [← hn.out ()]; have := hf.ps; have := hf.xs; have := hf.ks; omega
  rw [hn.out ()] at c2
  clear h0 hk hf
  go_enter Tryd.func42, Tryd.ntmps42
  go_wp2_with fail
  go_ret
  exact ⟨ret_int (by rw [hR.out, hn.out ()]), hB'.out⟩

set_option maxRecDepth 100000 in
set_option maxHeartbeats 2000000 in
theorem kidCount_k3 (w : World) (o : ObjT) (p : Lay) (hf : Fit o) (hk : o.kind = 3) :
    Calls Tryd.prog 42 #[.agg (ocells o p).toArray] w fun e w' => e = .returned (.int .i64 (kidsN o : Nat)) ∧ Below w.heap.size w w' := by
  have hR : Hid (kidsN o = o.items.length) := Lib.hid (by simp [kidsN, hk])
  have h0 : OBlk (w.alloc (.cells (ocells o p).toArray 31)) w.heap.size o p := heap_alloc_new w _
  have hB' := Lib.hid ((Below.refl w.heap.size w).alloc (Nat.le_refl _) (.cells (ocells o p).toArray 31))
  have c0 : (w.alloc (.cells (ocells o p).toArray 31)).cell? ⟨w.heap.size, 0, none⟩ = some (.int .u8 3) := by have := h0.c0; rw [hk] at this; exact this
  have c3 := h0.c3
  obtain ⟨n, hn⟩ : ∃ n, Hid (∀ _ : Unit, o.items.length = n) := ⟨_, Lib.hid fun _ => rfl⟩
  have hl : n ≤ 140737488355328 := by rw [← hn.out ()]; have := hf.ps; have := hf.xs; have := hf.ks; omega
  rw [hn.out ()] at c3
  clear h0 hk hf
  go_enter Tryd.func42, Tryd.ntmps42
  go_wp2_with fail
  go_ret
  exact ⟨ret_int (by rw [hR.out, hn.out ()]), hB'.out⟩

set_option maxRecDepth 100000 in
set_option maxHeartbeats 2000000 in
theorem kidCount_k4 (w : World) (o : ObjT) (p : Lay) (hf : Fit o) (hk : o.kind = 4) :
    Calls Tryd.prog 42 #[.agg (ocells o p).toArray] w fun e w' => e = .returned (.int .i64 (kidsN o : Nat)) ∧ Below w.heap.size w w' := by
  have hR : Hid (kidsN o = 1 + o.parents.length) := Lib.hid (by simp [kidsN, hk])
  have h0 : OBlk (w.alloc (.cells (ocells o p).toArray 31)) w.heap.size o p := heap_alloc_new w _
  have hB' := Lib.hid ((Below.refl w.heap.size w).alloc (Nat.le_refl _) (.cells (ocells o p).toArray 31))
  have c0 : (w.alloc (.cells (ocells o p).toArray 31)).cell? ⟨w.heap.size, 0, none⟩ = some (.int .u8 4) := by have := h0.c0; rw [hk] at this; exact this
  have c36 := h0.c36
  obtain ⟨n, hn⟩ : ∃ n, Hid (∀ _ : Unit, o.parents.length = n) := ⟨_, Lib.hid fun _ => rfl⟩
  have hl : n ≤ 140737488355328 := by rw [← hn.out ()]; have := hf.ps; have := hf.xs; have := hf.ks; omega
  rw [hn.out ()] at c36
  clear h0 hk hf
  go_enter Tryd.func42, Tryd.ntmps42
  go_wp2_with fail
  go_ret
  exact ⟨ret_int (by rw [hR.out, hn.out ()]; omega), hB'.out⟩
theorem kidCount_any (w : World) (o : ObjT) (p : Lay) (hf : Fit o) (h1 : 1 ≤ o.kind) (h4 : o.kind ≤ 4) :
    Calls Tryd.prog 42 #[.agg (ocells o p).toArray] w fun e w' => e = .returned (.int .i64 (kidsN o : Nat)) ∧ Below w.heap.size w w' := by
  rcases (by omega : o.kind = 1 ∨ o.kind = 2 ∨ o.kind = 3 ∨ o.kind = 4) with k | k | k | k
  · exact kidCount_k1 w o p hf k
  · exact kidCount_k2 w o p hf k
  · exact kidCount_k3 w o p hf k
  · exact kidCount_k4 w o p hf k
end Go.Proofs.YtkjndgapejbgcaaDoor

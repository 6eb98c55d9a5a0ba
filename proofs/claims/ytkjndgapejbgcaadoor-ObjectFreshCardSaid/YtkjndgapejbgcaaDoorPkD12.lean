/- An object without the fields of its kind; is a field of another kind not nought? (Printed by tools/genfor.py.) An item taken off a decoder. -/
import Derived.Test.YtkjndgapejbgcaaDoorPkD6
import Derived.Test.YtkjndgapejbgcaaDoorPkD10
import Derived.Great.BuildSlice
import Derived.Test.YtkjndgapejbgcaaDoorPkD11
import Derived.Test.YtkjndgapejbgcaaDoorPkD9

namespace Go.Proofs.YtkjndgapejbgcaaDoor
open Go.RowKit
set_option linter.unusedSimpArgs false

/-- A stretch of a block written over. -/
theorem setCells_block (g : Nat) (t : TypeId) : ∀ (vs old pre post : List Value) (w : World), vs.length = old.length → w.heap[g]? = some (.cells (pre ++ old ++ post).toArray t (0, 0)) →
    (w.setCells g pre.length vs).heap[g]? = some (.cells (pre ++ vs ++ post).toArray t (0, 0))
  | [], [], _, _, _, _, h => h
  | [], _ :: _, _, _, _, h, _ => by simp at h
  | _ :: _, [], _, _, _, h, _ => by simp at h
  | v :: vs, x :: old, pre, post, w, hl, h => by
    have h1 := heap_setCell_same w g pre.length _ _ v h
    have e1 : (pre ++ (x :: old) ++ post).toArray.setIfInBounds pre.length v = ((pre ++ [v]) ++ old ++ post).toArray := by
      rw [List.setIfInBounds_toArray, List.append_assoc, List.set_append_right _ _ (Nat.le_refl _), Nat.sub_self]
      simp
    rw [e1] at h1
    have h2 := setCells_block g t vs old (pre ++ [v]) post (w.setCell ⟨g, pre.length, none⟩ v) (by simpa using hl) h1
    rw [List.length_append] at h2
    simp only [List.append_assoc, List.singleton_append] at h2 ⊢
    simpa [World.setCells] using h2
theorem setCells_below {B : Nat} {a : World} (g : Nat) (hg : B ≤ g) : ∀ (vs : List Value) (k : Nat) (W : World), Below B a W → Below B a (W.setCells g k vs)
  | [], _, _, h => h
  | v :: vs, k, _, h => setCells_below g hg vs (k + 1) _ (h.setCell (p := ⟨g, k, none⟩) hg v)

section
variable {w : World} {g : Nat} {o : ObjT} {p : Lay}
theorem OBlk.clrKind (h : OBlk w g o p) : OBlk (w.setCell ⟨g, 0, none⟩ (.int .u8 0)) g { o with kind := 0 } p := by
  have := heap_setCell_same w g 0 _ _ (.int .u8 0) h
  unfold OBlk
  rw [this]
  simp [ocells]
theorem OBlk.clrD (h : OBlk w g o p) : OBlk (w.setCell ⟨g, 1, none⟩ (.slice none 0 0)) g { o with data := [] } { p with Ad := none, cd := 0 } := by
  have := heap_setCell_same w g 1 _ _ (.slice none 0 0) h
  unfold OBlk
  rw [this]
  simp [ocells]
theorem OBlk.clrP (h : OBlk w g o p) : OBlk (w.setCell ⟨g, 2, none⟩ (.slice none 0 0)) g { o with parts := [] } { p with Ap := none, cp := 0 } := by
  have := heap_setCell_same w g 2 _ _ (.slice none 0 0) h
  unfold OBlk
  rw [this]
  simp [ocells]
theorem OBlk.clrI (h : OBlk w g o p) : OBlk (w.setCell ⟨g, 3, none⟩ (.slice none 0 0)) g { o with items := [] } { p with Ai := none, ci := 0 } := by
  have := heap_setCell_same w g 3 _ _ (.slice none 0 0) h
  unfold OBlk
  rw [this]
  simp [ocells]
theorem OBlk.clrT (h : OBlk w g o p) : OBlk (w.setCells g 4 (encK zK).toArray.toList) g { o with tree := zK } p := by
  have := setCells_block g 31 (encK zK) (u8s o.tree.1) [.int .u8 (o.kind : Int), .slice p.Ad o.data.length p.cd, .slice p.Ap o.parts.length p.cp, .slice p.Ai o.items.length p.ci]
    [.slice p.Ak o.parents.length p.ck, .int .i64 o.time, .string o.note] w (by simp [encK, u8s, zK.2, o.tree.2]) h
  exact this
theorem OBlk.set3 (h : OBlk w g o p) : OBlk (((w.setCell ⟨g, 36, none⟩ (.slice none 0 0)).setCell ⟨g, 37, none⟩ (.int .i64 0)).setCell ⟨g, 38, none⟩ (.string ⟨#[]⟩)) g { o with parents := [], time := 0, note := ⟨#[]⟩ } { p with Ak := none, ck := 0 } := by
  have h1 := heap_setCell_same w g 36 _ _ (.slice none 0 0) h
  have h2 := heap_setCell_same _ g 37 _ _ (.int .i64 0) h1
  have h3 := heap_setCell_same _ g 38 _ _ (.string ⟨#[]⟩) h2
  have h32 : (u8s o.tree.1).length = 32 := by simp [u8s, o.tree.2]
  unfold OBlk
  rw [h3]
  simp only [ocells, List.setIfInBounds_toArray, List.set_cons_succ]
  rw [List.set_append_right _ _ (by omega), List.set_append_right _ _ (by omega), List.set_append_right _ _ (by omega), h32]
  rfl
end
theorem buildO (w : World) : (Instr.build 31 #[]).run Tryd.prog w = .ok (.agg (ocells oZ pZ).toArray) w := run_build w _ _ _ (by kernel_rfl)
theorem buildKz (w : World) : (Instr.build 28 #[]).run Tryd.prog w = .ok (.agg (encK zK).toArray) w := run_build w _ _ _ (by kernel_rfl)

set_option maxRecDepth 100000 in
set_option maxHeartbeats 2000000 in
theorem bare_any (w : World) (o : ObjT) (p : Lay) :
    Calls Tryd.prog 100 #[.agg (ocells o p).toArray] w fun e w' => e = .returned (.agg (ocells { o with kind := 0 } p).toArray) ∧ Below w.heap.size w w' := by
  have hz := zeroO
  have hi39 : (Tryd.prog.info? 31).map (·.size) = some 39 := by kernel_rfl
  have hi39' := Lib.hid hi39
  have h39' := Lib.hid (fun (x : ObjT) (q : Lay) => show (ocells x q).toArray.size = 39 by simp [ocells_length])
  have hone' := Lib.hid (fun (x : ObjT) (q : Lay) => show (ocells x q).toArray.all (·.oneCell') = true from all_oneCell_toArray (ocells_one x q))
  have hb1 : OBlk ((w.alloc (.cells (ocells o p).toArray 31)).alloc (.cells (ocells oZ pZ).toArray 31)) w.heap.size o p := heap_alloc2_old w _ _
  have hb2 : OBlk ((w.alloc (.cells (ocells o p).toArray 31)).alloc (.cells (ocells oZ pZ).toArray 31)) (w.heap.size + 1) oZ pZ := heap_alloc2_new w _ _
  have hB : Below w.heap.size w ((w.alloc (.cells (ocells o p).toArray 31)).alloc (.cells (ocells oZ pZ).toArray 31)) := ((Below.refl _ _).alloc (Nat.le_refl _) _).alloc (by simp) _
  have c0 := hb1.c0
  have f0 := hb1.fz 0
  have hb3 : Hid (OBlk ((w.alloc (.cells ((ocells o p).set 0 (.int .u8 0)).toArray 31)).alloc (.cells (ocells oZ pZ).toArray 31)) w.heap.size { o with kind := 0 } p) := Lib.hid (heap_alloc2_old w _ _)
  have hb4 : Hid (OBlk ((w.alloc (.cells ((ocells o p).set 0 (.int .u8 0)).toArray 31)).alloc (.cells (ocells oZ pZ).toArray 31)) (w.heap.size + 1) oZ pZ) := Lib.hid (heap_alloc2_new w _ _)
  have hB' : Hid (Below w.heap.size w ((w.alloc (.cells ((ocells o p).set 0 (.int .u8 0)).toArray 31)).alloc (.cells (ocells oZ pZ).toArray 31))) := Lib.hid (((Below.refl _ _).alloc (Nat.le_refl _) _).alloc (by simp) _)
  clear hi39 hb1 hb2 hB
  go_enter Tryd.func100, Tryd.ntmps100
  go_wp2_with (first
    | (refine wpList_load_row rfl 31 _ rfl w.heap.size rfl 31 _ (0, 0) _ hb3.out Tryd.underlying31 rfl (by rw [h39'.out]; exact hi39'.out) ?_)
    | (refine wpList_store_row rfl 31 _ _ rfl (w.heap.size + 1) _ rfl rfl 31 _ hb4.out (by rw [h39'.out]; exact hi39'.out) (by rw [h39'.out, h39'.out]) (hone'.out _ _) ?_))
  have hres := setRow_heap _ (w.heap.size + 1) _ (ocells { o with kind := 0 } p).toArray 31 _ hb4.out
  refine bodyPost_ret (results_cell_row rfl _ _ (w.heap.size + 1) 31 _ (0, 0) _ rfl hres Tryd.underlying31 rfl (by rw [h39'.out]; exact hi39'.out)) rfl ⟨rfl, ?_⟩
  exact setRow_below hB'.out (by omega) _

/-- An object without its kind and its kind's fields. -/
def stripO (o : ObjT) : ObjT :=
  if o.kind = 1 then { o with kind := 0, data := [] } else if o.kind = 2 then { o with kind := 0, parts := [] } else if o.kind = 3 then { o with kind := 0, items := [] }
  else if o.kind = 4 then { o with kind := 0, tree := zK, parents := [], time := 0, note := ⟨#[]⟩ } else { o with kind := 0 }
theorem byt_nil (w : World) (B : Nat) (A : Option Addr) : Byt w B A [] := fun h => absurd h (by simp)
theorem row_nil {α : Type} (enc : α → List Value) (s : Nat) (w : World) (B : Nat) (A : Option Addr) : Row enc s w B A [] := fun h => absurd h (by simp [flat])
theorem objZ_in (w : World) (B : Nat) : ObjIn w B oZ pZ := ⟨byt_nil _ _ _, row_nil _ _ _ _ _, row_nil _ _ _ _ _, row_nil _ _ _ _ _⟩

set_option maxRecDepth 100000 in
set_option maxHeartbeats 2000000 in
theorem foreign_way1 (w : World) (o : ObjT) (p : Lay) (ha : ObjIn w w.heap.size o p) (hf : Fit o) (hk : o.kind = 1) :
    Calls Tryd.prog 63 #[.agg (ocells o p).toArray] w fun e w' => e = .returned (.bool (!sameO { o with kind := 0, data := [] } oZ)) ∧ Below w.heap.size w w' := by
  have hbO := buildO
  have hbK := buildKz
  have hi39 : (Tryd.prog.info? 31).map (·.size) = some 39 := by kernel_rfl
  have hi39' := Lib.hid hi39
  have hi32 : (Tryd.prog.info? 28).map (·.size) = some 32 := by kernel_rfl
  have hi32' := Lib.hid hi32
  have h39' := Lib.hid (fun (x : ObjT) (q : Lay) => show (ocells x q).toArray.size = 39 by simp [ocells_length])
  have hone' := Lib.hid (fun (x : ObjT) (q : Lay) => show (ocells x q).toArray.all (·.oneCell') = true from all_oneCell_toArray (ocells_one x q))
  have h0 : OBlk (w.alloc (.cells (ocells o p).toArray 31)) w.heap.size o p := heap_alloc_new w _
  have hB : Below w.heap.size w (w.alloc (.cells (ocells o p).toArray 31)) := (Below.refl _ _).alloc (Nat.le_refl _) _
  have c0 := h0.c0
  rw [hk] at c0
  have ha' := Lib.hid ha
  have hf' := Lib.hid hf
  have hb0 := Lib.hid h0
  have hB0 := Lib.hid hB
  clear ha hf hi39 hi32 h0 hB hk
  go_enter Tryd.func63, Tryd.ntmps63
  go_wp2_with (first
    | (go_at_call 100
       refine (bare_any _ o p).mono ?_
       rintro e w1 ⟨rfl, b1⟩
       have hb1 := Lib.hid (OBlk.below hb0.out b1 (lt_of_block hb0.out))
       have hB1 := Lib.hid (hB0.out.trans (b1.mono hB0.out.size))
       clear b1 c0)
    | (refine wpList_load_row rfl 31 _ rfl w.heap.size rfl 31 _ (0, 0) _ hb0.out Tryd.underlying31 rfl (by rw [h39'.out]; exact hi39'.out) ?_)
    | (refine wpList_store_row rfl 31 _ _ rfl w.heap.size _ rfl rfl 31 _ hb1.out (by rw [h39'.out]; exact hi39'.out) (by rw [h39'.out, h39'.out]) (hone'.out _ _) ?_
       have h2 : OBlk (w1.setRow w.heap.size (ocells { o with kind := 0 } p).toArray) w.heap.size { o with kind := 0 } p := setRow_heap _ w.heap.size _ _ _ _ hb1.out
       have hB2 := Lib.hid (setRow_below hB1.out (Nat.le_refl _) (ocells { o with kind := 0 } p).toArray)
       generalize w1.setRow w.heap.size (ocells { o with kind := 0 } p).toArray = w2 at h2 hB2 ⊢
       have d1 := h2.c1
       have e1 := h2.fz 1
       have hb3 := Lib.hid h2.clrD
       have hB3 := Lib.hid (hB2.out.setCell (p := ⟨w.heap.size, 1, none⟩) (Nat.le_refl _) (.slice none 0 0))
       clear h2)
    | (refine wpList_load_row rfl 31 _ rfl w.heap.size rfl 31 _ (0, 0) _ hb3.out Tryd.underlying31 rfl (by rw [h39'.out]; exact hi39'.out) ?_)
    | (go_at_call 101
       have hx := (ha'.out.below hB3.out).mono hB3.out.size
       have hy := hf'.out
       refine (same_any _ { o with kind := 0, data := [] } oZ { p with Ad := none, cd := 0 } pZ ⟨byt_nil _ _ _, hx.ps, hx.xs, hx.ks⟩ (objZ_in _ _) ⟨by simp, hy.ps, hy.xs, hy.ks, by simp⟩).mono ?_
       rintro e w4 ⟨rfl, b4⟩
       have hB4 := Lib.hid (hB3.out.trans (b4.mono hB3.out.size))
       clear b4 hx hy))
  go_ret
  exact ⟨rfl, hB4.out⟩

set_option maxRecDepth 100000 in
set_option maxHeartbeats 2000000 in
theorem foreign_way2 (w : World) (o : ObjT) (p : Lay) (ha : ObjIn w w.heap.size o p) (hf : Fit o) (hk : o.kind = 2) :
    Calls Tryd.prog 63 #[.agg (ocells o p).toArray] w fun e w' => e = .returned (.bool (!sameO { o with kind := 0, parts := [] } oZ)) ∧ Below w.heap.size w w' := by
  have hbO := buildO
  have hbK := buildKz
  have hi39 : (Tryd.prog.info? 31).map (·.size) = some 39 := by kernel_rfl
  have hi39' := Lib.hid hi39
  have hi32 : (Tryd.prog.info? 28).map (·.size) = some 32 := by kernel_rfl
  have hi32' := Lib.hid hi32
  have h39' := Lib.hid (fun (x : ObjT) (q : Lay) => show (ocells x q).toArray.size = 39 by simp [ocells_length])
  have hone' := Lib.hid (fun (x : ObjT) (q : Lay) => show (ocells x q).toArray.all (·.oneCell') = true from all_oneCell_toArray (ocells_one x q))
  have h0 : OBlk (w.alloc (.cells (ocells o p).toArray 31)) w.heap.size o p := heap_alloc_new w _
  have hB : Below w.heap.size w (w.alloc (.cells (ocells o p).toArray 31)) := (Below.refl _ _).alloc (Nat.le_refl _) _
  have c0 := h0.c0
  rw [hk] at c0
  have ha' := Lib.hid ha
  have hf' := Lib.hid hf
  have hb0 := Lib.hid h0
  have hB0 := Lib.hid hB
  clear ha hf hi39 hi32 h0 hB hk
  go_enter Tryd.func63, Tryd.ntmps63
  go_wp2_with (first
    | (go_at_call 100
       refine (bare_any _ o p).mono ?_
       rintro e w1 ⟨rfl, b1⟩
       have hb1 := Lib.hid (OBlk.below hb0.out b1 (lt_of_block hb0.out))
       have hB1 := Lib.hid (hB0.out.trans (b1.mono hB0.out.size))
       clear b1 c0)
    | (refine wpList_load_row rfl 31 _ rfl w.heap.size rfl 31 _ (0, 0) _ hb0.out Tryd.underlying31 rfl (by rw [h39'.out]; exact hi39'.out) ?_)
    | (refine wpList_store_row rfl 31 _ _ rfl w.heap.size _ rfl rfl 31 _ hb1.out (by rw [h39'.out]; exact hi39'.out) (by rw [h39'.out, h39'.out]) (hone'.out _ _) ?_
       have h2 : OBlk (w1.setRow w.heap.size (ocells { o with kind := 0 } p).toArray) w.heap.size { o with kind := 0 } p := setRow_heap _ w.heap.size _ _ _ _ hb1.out
       have hB2 := Lib.hid (setRow_below hB1.out (Nat.le_refl _) (ocells { o with kind := 0 } p).toArray)
       generalize w1.setRow w.heap.size (ocells { o with kind := 0 } p).toArray = w2 at h2 hB2 ⊢
       have d1 := h2.c2
       have e1 := h2.fz 2
       have hb3 := Lib.hid h2.clrP
       have hB3 := Lib.hid (hB2.out.setCell (p := ⟨w.heap.size, 2, none⟩) (Nat.le_refl _) (.slice none 0 0))
       clear h2)
    | (refine wpList_load_row rfl 31 _ rfl w.heap.size rfl 31 _ (0, 0) _ hb3.out Tryd.underlying31 rfl (by rw [h39'.out]; exact hi39'.out) ?_)
    | (go_at_call 101
       have hx := (ha'.out.below hB3.out).mono hB3.out.size
       have hy := hf'.out
       refine (same_any _ { o with kind := 0, parts := [] } oZ { p with Ap := none, cp := 0 } pZ ⟨hx.d, row_nil _ _ _ _ _, hx.xs, hx.ks⟩ (objZ_in _ _) ⟨hy.d, by simp, hy.xs, hy.ks, hy.b⟩).mono ?_
       rintro e w4 ⟨rfl, b4⟩
       have hB4 := Lib.hid (hB3.out.trans (b4.mono hB3.out.size))
       clear b4 hx hy))
  go_ret
  exact ⟨rfl, hB4.out⟩

set_option maxRecDepth 100000 in
set_option maxHeartbeats 2000000 in
theorem foreign_way3 (w : World) (o : ObjT) (p : Lay) (ha : ObjIn w w.heap.size o p) (hf : Fit o) (hk : o.kind = 3) :
    Calls Tryd.prog 63 #[.agg (ocells o p).toArray] w fun e w' => e = .returned (.bool (!sameO { o with kind := 0, items := [] } oZ)) ∧ Below w.heap.size w w' := by
  have hbO := buildO
  have hbK := buildKz
  have hi39 : (Tryd.prog.info? 31).map (·.size) = some 39 := by kernel_rfl
  have hi39' := Lib.hid hi39
  have hi32 : (Tryd.prog.info? 28).map (·.size) = some 32 := by kernel_rfl
  have hi32' := Lib.hid hi32
  have h39' := Lib.hid (fun (x : ObjT) (q : Lay) => show (ocells x q).toArray.size = 39 by simp [ocells_length])
  have hone' := Lib.hid (fun (x : ObjT) (q : Lay) => show (ocells x q).toArray.all (·.oneCell') = true from all_oneCell_toArray (ocells_one x q))
  have h0 : OBlk (w.alloc (.cells (ocells o p).toArray 31)) w.heap.size o p := heap_alloc_new w _
  have hB : Below w.heap.size w (w.alloc (.cells (ocells o p).toArray 31)) := (Below.refl _ _).alloc (Nat.le_refl _) _
  have c0 := h0.c0
  rw [hk] at c0
  have ha' := Lib.hid ha
  have hf' := Lib.hid hf
  have hb0 := Lib.hid h0
  have hB0 := Lib.hid hB
  clear ha hf hi39 hi32 h0 hB hk
  go_enter Tryd.func63, Tryd.ntmps63
  go_wp2_with (first
    | (go_at_call 100
       refine (bare_any _ o p).mono ?_
       rintro e w1 ⟨rfl, b1⟩
       have hb1 := Lib.hid (OBlk.below hb0.out b1 (lt_of_block hb0.out))
       have hB1 := Lib.hid (hB0.out.trans (b1.mono hB0.out.size))
       clear b1 c0)
    | (refine wpList_load_row rfl 31 _ rfl w.heap.size rfl 31 _ (0, 0) _ hb0.out Tryd.underlying31 rfl (by rw [h39'.out]; exact hi39'.out) ?_)
    | (refine wpList_store_row rfl 31 _ _ rfl w.heap.size _ rfl rfl 31 _ hb1.out (by rw [h39'.out]; exact hi39'.out) (by rw [h39'.out, h39'.out]) (hone'.out _ _) ?_
       have h2 : OBlk (w1.setRow w.heap.size (ocells { o with kind := 0 } p).toArray) w.heap.size { o with kind := 0 } p := setRow_heap _ w.heap.size _ _ _ _ hb1.out
       have hB2 := Lib.hid (setRow_below hB1.out (Nat.le_refl _) (ocells { o with kind := 0 } p).toArray)
       generalize w1.setRow w.heap.size (ocells { o with kind := 0 } p).toArray = w2 at h2 hB2 ⊢
       have d1 := h2.c3
       have e1 := h2.fz 3
       have hb3 := Lib.hid h2.clrI
       have hB3 := Lib.hid (hB2.out.setCell (p := ⟨w.heap.size, 3, none⟩) (Nat.le_refl _) (.slice none 0 0))
       clear h2)
    | (refine wpList_load_row rfl 31 _ rfl w.heap.size rfl 31 _ (0, 0) _ hb3.out Tryd.underlying31 rfl (by rw [h39'.out]; exact hi39'.out) ?_)
    | (go_at_call 101
       have hx := (ha'.out.below hB3.out).mono hB3.out.size
       have hy := hf'.out
       refine (same_any _ { o with kind := 0, items := [] } oZ { p with Ai := none, ci := 0 } pZ ⟨hx.d, hx.ps, row_nil _ _ _ _ _, hx.ks⟩ (objZ_in _ _) ⟨hy.d, hy.ps, by simp, hy.ks, hy.b⟩).mono ?_
       rintro e w4 ⟨rfl, b4⟩
       have hB4 := Lib.hid (hB3.out.trans (b4.mono hB3.out.size))
       clear b4 hx hy))
  go_ret
  exact ⟨rfl, hB4.out⟩

set_option maxRecDepth 100000 in
set_option maxHeartbeats 2000000 in
theorem foreign_way4 (w : World) (o : ObjT) (p : Lay) (ha : ObjIn w w.heap.size o p) (hf : Fit o) (hk : o.kind = 4) :
    Calls Tryd.prog 63 #[.agg (ocells o p).toArray] w fun e w' => e = .returned (.bool (!sameO { o with kind := 0, tree := zK, parents := [], time := 0, note := ⟨#[]⟩ } oZ)) ∧ Below w.heap.size w w' := by
  have hbO := buildO
  have hbK := buildKz
  have hi39 : (Tryd.prog.info? 31).map (·.size) = some 39 := by kernel_rfl
  have hi39' := Lib.hid hi39
  have hi32 : (Tryd.prog.info? 28).map (·.size) = some 32 := by kernel_rfl
  have hi32' := Lib.hid hi32
  have h39' := Lib.hid (fun (x : ObjT) (q : Lay) => show (ocells x q).toArray.size = 39 by simp [ocells_length])
  have hone' := Lib.hid (fun (x : ObjT) (q : Lay) => show (ocells x q).toArray.all (·.oneCell') = true from all_oneCell_toArray (ocells_one x q))
  have h0 : OBlk (w.alloc (.cells (ocells o p).toArray 31)) w.heap.size o p := heap_alloc_new w _
  have hB : Below w.heap.size w (w.alloc (.cells (ocells o p).toArray 31)) := (Below.refl _ _).alloc (Nat.le_refl _) _
  have c0 := h0.c0
  rw [hk] at c0
  have ha' := Lib.hid ha
  have hf' := Lib.hid hf
  have hb0 := Lib.hid h0
  have hB0 := Lib.hid hB
  clear ha hf hi39 hi32 h0 hB hk
  go_enter Tryd.func63, Tryd.ntmps63
  go_wp2_with (first
    | (go_at_call 100
       refine (bare_any _ o p).mono ?_
       rintro e w1 ⟨rfl, b1⟩
       have hb1 := Lib.hid (OBlk.below hb0.out b1 (lt_of_block hb0.out))
       have hB1 := Lib.hid (hB0.out.trans (b1.mono hB0.out.size))
       clear b1 c0)
    | (refine wpList_load_row rfl 31 _ rfl w.heap.size rfl 31 _ (0, 0) _ hb0.out Tryd.underlying31 rfl (by rw [h39'.out]; exact hi39'.out) ?_)
    | (refine wpList_store_row rfl 31 _ _ rfl w.heap.size _ rfl rfl 31 _ hb1.out (by rw [h39'.out]; exact hi39'.out) (by rw [h39'.out, h39'.out]) (hone'.out _ _) ?_
       have h2 : OBlk (w1.setRow w.heap.size (ocells { o with kind := 0 } p).toArray) w.heap.size { o with kind := 0 } p := setRow_heap _ w.heap.size _ _ _ _ hb1.out
       have hB2 := Lib.hid (setRow_below hB1.out (Nat.le_refl _) (ocells { o with kind := 0 } p).toArray)
       generalize w1.setRow w.heap.size (ocells { o with kind := 0 } p).toArray = w2 at h2 hB2 ⊢
       have ht := Lib.hid (show w2.there w.heap.size 4 (encK zK).toArray.size from fun j hj => by
         have hj2 : j < (encK { o with kind := 0 }.tree).length := by simpa [encK_length] using hj
         exact ⟨by rw [h2.tree j _ (List.getElem?_eq_getElem hj2)]; rfl, h2.fz _⟩)
       have hb2 := Lib.hid h2
       clear h2)
    | (refine wpList_store_mid rfl 28 _ _ rfl w.heap.size 4 (encK zK).toArray rfl rfl ht.out (by simpa [encK_length] using hi32'.out) (all_oneCell_toArray (encK_one zK)) ?_
       have h3 := hb2.out.clrT
       have hB2b := Lib.hid (setCells_below w.heap.size (Nat.le_refl _) (encK zK).toArray.toList 4 w2 hB2.out)
       generalize w2.setCells w.heap.size 4 (encK zK).toArray.toList = w3 at h3 hB2b ⊢
       have d1 := h3.c36
       have d2 := h3.c37
       have d3 := h3.c38
       have e1 := h3.fz 36
       have e2 := h3.fz 37
       have e3 := h3.fz 38
       have hb3 := Lib.hid h3.set3
       have hB3 := Lib.hid (((hB2b.out.setCell (p := ⟨w.heap.size, 36, none⟩) (Nat.le_refl _) (.slice none 0 0)).setCell (p := ⟨w.heap.size, 37, none⟩) (Nat.le_refl _) (.int .i64 0)).setCell (p := ⟨w.heap.size, 38, none⟩) (Nat.le_refl _) (.string ⟨#[]⟩))
       clear h3)
    | (refine wpList_load_row rfl 31 _ rfl w.heap.size rfl 31 _ (0, 0) _ hb3.out Tryd.underlying31 rfl (by rw [h39'.out]; exact hi39'.out) ?_)
    | (go_at_call 101
       have hx := (ha'.out.below hB3.out).mono hB3.out.size
       have hy := hf'.out
       refine (same_any _ { o with kind := 0, tree := zK, parents := [], time := 0, note := ⟨#[]⟩ } oZ { p with Ak := none, ck := 0 } pZ ⟨hx.d, hx.ps, hx.xs, row_nil _ _ _ _ _⟩ (objZ_in _ _) ⟨hy.d, hy.ps, hy.xs, by simp, hy.b⟩).mono ?_
       rintro e w4 ⟨rfl, b4⟩
       have hB4 := Lib.hid (hB3.out.trans (b4.mono hB3.out.size))
       clear b4 hx hy))
  go_ret
  exact ⟨rfl, hB4.out⟩

set_option maxRecDepth 100000 in
set_option maxHeartbeats 2000000 in
theorem foreign_way0 (w : World) (o : ObjT) (p : Lay) (ha : ObjIn w w.heap.size o p) (hf : Fit o) (hk1 : ¬ o.kind = 1) (hk2 : ¬ o.kind = 2) (hk3 : ¬ o.kind = 3) (hk4 : ¬ o.kind = 4) :
    Calls Tryd.prog 63 #[.agg (ocells o p).toArray] w fun e w' => e = .returned (.bool (!sameO { o with kind := 0 } oZ)) ∧ Below w.heap.size w w' := by
  have hbO := buildO
  have hbK := buildKz
  have hi39 : (Tryd.prog.info? 31).map (·.size) = some 39 := by kernel_rfl
  have hi39' := Lib.hid hi39
  have hi32 : (Tryd.prog.info? 28).map (·.size) = some 32 := by kernel_rfl
  have hi32' := Lib.hid hi32
  have h39' := Lib.hid (fun (x : ObjT) (q : Lay) => show (ocells x q).toArray.size = 39 by simp [ocells_length])
  have hone' := Lib.hid (fun (x : ObjT) (q : Lay) => show (ocells x q).toArray.all (·.oneCell') = true from all_oneCell_toArray (ocells_one x q))
  have h0 : OBlk (w.alloc (.cells (ocells o p).toArray 31)) w.heap.size o p := heap_alloc_new w _
  have hB : Below w.heap.size w (w.alloc (.cells (ocells o p).toArray 31)) := (Below.refl _ _).alloc (Nat.le_refl _) _
  have c0 := h0.c0
  obtain ⟨K, hK⟩ : ∃ K, Hid (∀ _ : Unit, o.kind = K) := ⟨_, Lib.hid fun _ => rfl⟩
  rw [hK.out ()] at c0
  have q1 : ((K : Int) == 1) = false := by rw [← hK.out ()]; simp; omega
  have q2 : ((K : Int) == 2) = false := by rw [← hK.out ()]; simp; omega
  have q3 : ((K : Int) == 3) = false := by rw [← hK.out ()]; simp; omega
  have q4 : ((K : Int) == 4) = false := by rw [← hK.out ()]; simp; omega
  clear hk1 hk2 hk3 hk4
  have ha' := Lib.hid ha
  have hf' := Lib.hid hf
  have hb0 := Lib.hid h0
  have hB0 := Lib.hid hB
  clear ha hf hi39 hi32 h0 hB
  go_enter Tryd.func63, Tryd.ntmps63
  go_wp2_with (first
    | (go_at_call 100
       refine (bare_any _ o p).mono ?_
       rintro e w1 ⟨rfl, b1⟩
       have hb1 := Lib.hid (OBlk.below hb0.out b1 (lt_of_block hb0.out))
       have hB1 := Lib.hid (hB0.out.trans (b1.mono hB0.out.size))
       clear b1 c0)
    | (refine wpList_load_row rfl 31 _ rfl w.heap.size rfl 31 _ (0, 0) _ hb0.out Tryd.underlying31 rfl (by rw [h39'.out]; exact hi39'.out) ?_)
    | (refine wpList_store_row rfl 31 _ _ rfl w.heap.size _ rfl rfl 31 _ hb1.out (by rw [h39'.out]; exact hi39'.out) (by rw [h39'.out, h39'.out]) (hone'.out _ _) ?_
       have h2 : OBlk (w1.setRow w.heap.size (ocells { o with kind := 0 } p).toArray) w.heap.size { o with kind := 0 } p := setRow_heap _ w.heap.size _ _ _ _ hb1.out
       have hB2 := Lib.hid (setRow_below hB1.out (Nat.le_refl _) (ocells { o with kind := 0 } p).toArray)
       generalize w1.setRow w.heap.size (ocells { o with kind := 0 } p).toArray = w2 at h2 hB2 ⊢
       have hb3 := Lib.hid h2
       have hB3 := hB2
       clear h2)
    | (refine wpList_load_row rfl 31 _ rfl w.heap.size rfl 31 _ (0, 0) _ hb3.out Tryd.underlying31 rfl (by rw [h39'.out]; exact hi39'.out) ?_)
    | (go_at_call 101
       have hx := (ha'.out.below hB3.out).mono hB3.out.size
       have hy := hf'.out
       refine (same_any _ { o with kind := 0 } oZ p pZ ⟨hx.d, hx.ps, hx.xs, hx.ks⟩ (objZ_in _ _) ⟨hy.d, hy.ps, hy.xs, hy.ks, hy.b⟩).mono ?_
       rintro e w4 ⟨rfl, b4⟩
       have hB4 := Lib.hid (hB3.out.trans (b4.mono hB3.out.size))
       clear b4 hx hy))
  go_ret
  exact ⟨rfl, hB4.out⟩

theorem foreign_any (w : World) (o : ObjT) (p : Lay) (ha : ObjIn w w.heap.size o p) (hf : Fit o) :
    Calls Tryd.prog 63 #[.agg (ocells o p).toArray] w fun e w' => e = .returned (.bool (!sameO (stripO o) oZ)) ∧ Below w.heap.size w w' := by
  unfold stripO
  by_cases h1 : o.kind = 1
  · rw [if_pos h1]; exact foreign_way1 w o p ha hf h1
  · rw [if_neg h1]
    by_cases h2 : o.kind = 2
    · rw [if_pos h2]; exact foreign_way2 w o p ha hf h2
    · rw [if_neg h2]
      by_cases h3 : o.kind = 3
      · rw [if_pos h3]; exact foreign_way3 w o p ha hf h3
      · rw [if_neg h3]
        by_cases h4 : o.kind = 4
        · rw [if_pos h4]; exact foreign_way4 w o p ha hf h4
        · rw [if_neg h4]; exact foreign_way0 w o p ha hf h1 h2 h3 h4
end Go.Proofs.YtkjndgapejbgcaaDoor

namespace Go.Proofs.YtkjndgapejbgcaaDoor
open Go.RowKit
set_option linter.unusedSimpArgs false
set_option linter.unusedVariables false

section
variable {w w2 : World} {g c : Nat} {A : Option Addr} {l : List Nat} {s : DSt} {x : ItemT}
theorem ResS.name (h : ResS w w2 g A c l s (encI x) 50) (nm : ByteArray) : ResS w (w2.setCell ⟨w.heap.size, 0, none⟩ (.string nm)) g A c l s (encI (nm, x.2)) 50 := by
  refine h.set (grown_set _ _ _ _) ?_
  have := heap_setCell_same w2 w.heap.size 0 _ _ (.string nm) h.blk
  rw [this]
  simp [encI]
theorem ResS.mode (h : ResS w w2 g A c l s (encI x) 50) (m : Nat) : ResS w (w2.setCell ⟨w.heap.size, 1, none⟩ (.int .u8 (m : Int))) g A c l s (encI (x.1, m, x.2.2)) 50 := by
  refine h.set (grown_set _ _ _ _) ?_
  have := heap_setCell_same w2 w.heap.size 1 _ _ (.int .u8 (m : Int)) h.blk
  rw [this]
  simp [encI]
theorem ResS.size (h : ResS w w2 g A c l s (encI x) 50) (z : Nat) : ResS w (w2.setCell ⟨w.heap.size, 2, none⟩ (.int .u64 (z : Int))) g A c l s (encI (x.1, x.2.1, z, x.2.2.2)) 50 := by
  refine h.set (grown_set _ _ _ _) ?_
  have := heap_setCell_same w2 w.heap.size 2 _ _ (.int .u64 (z : Int)) h.blk
  rw [this]
  simp [encI]
theorem ResS.key (h : ResS w w2 g A c l s (encI x) 50) (k : Key32) : ResS w (w2.setCells w.heap.size 3 (encK k).toArray.toList) g A c l s (encI (x.1, x.2.1, x.2.2.1, k)) 50 := by
  refine h.set (grown_setCells _ _ _ _) ?_
  have hb : w2.heap[w.heap.size]? = some (.cells ([Value.string x.1, .int .u8 (x.2.1 : Int), .int .u64 (x.2.2.1 : Int)] ++ u8s x.2.2.2.1 ++ []).toArray 50 (0, 0)) := by
    rw [List.append_nil]
    exact h.blk
  have := setCells_block w.heap.size 50 (encK k) (u8s x.2.2.2.1) _ [] w2 (by simp [encK, u8s, k.2, x.2.2.2.2]) hb
  rw [List.append_nil] at this
  exact this
theorem ResS.cell {cs : List Value} {t : TypeId} (h : ResS w w2 g A c l s cs t) {j : Nat} {v : Value} (hv : cs[j]? = some v) : w2.cell? ⟨w.heap.size, j, none⟩ = some v := by
  rw [cell_of_row _ _ _ _ _ _ h.blk]
  simpa using hv
theorem ResS.fz {cs : List Value} {t : TypeId} (h : ResS w w2 g A c l s cs t) (j : Nat) : w2.frozen? ⟨w.heap.size, j, none⟩ = false := by simp [World.frozen?, h.blk]
theorem ResS.ther (h : ResS w w2 g A c l s (encI x) 50) : w2.there w.heap.size 3 32 := fun j hj => by
  have hl : j < (u8s x.2.2.2.1).length := by rw [u8s_length, x.2.2.2.2]; exact hj
  refine ⟨?_, h.fz _⟩
  rw [h.cell (encI_key x j _ (List.getElem?_eq_getElem hl))]
  rfl
end

set_option maxRecDepth 20000 in
set_option maxHeartbeats 4000000 in
theorem item_any {w : World} {g c : Nat} {A : Option Addr} {l : List Nat} {s : DSt} (h : DecS w g A c l s) :
    Calls Tryd.prog 84 #[.pointer (some ⟨g, 0, none⟩)] w (OnePost encI w g A c l (itemM l s)) := by
  have hz := zeroI
  have hi35 : (Tryd.prog.info? 50).map (·.size) = some 35 := by kernel_rfl
  have hi35' := Lib.hid hi35
  have hi32 : (Tryd.prog.info? 28).map (·.size) = some 32 := by kernel_rfl
  have hi32' := Lib.hid hi32
  have h35' := Lib.hid (fun x : ItemT => show (encI x).toArray.size = 35 by simp [encI_length])
  have h32' := Lib.hid (fun x : Key32 => show (encK x).toArray.size = 32 by simp [encK_length])
  have honk' := Lib.hid (fun x : Key32 => show (encK x).toArray.all (·.oneCell') = true from all_oneCell_toArray (encK_one x))
  have hone' := Lib.hid (fun x : ItemT => show (encI x).toArray.all (·.oneCell') = true from all_oneCell_toArray (encI_one x))
  have hs0 : Hid (ResS w (w.alloc (.cells (encI (⟨#[]⟩, 0, 0, zK)).toArray 50)) g A c l s (encI (⟨#[]⟩, 0, 0, zK)) 50) := Lib.hid (ResS.start h (by decide) (by decide))
  obtain ⟨RR, hRR⟩ : ∃ R, Hid (∀ _ : Unit, itemM l s = R) := ⟨_, Lib.hid fun _ => rfl⟩
  rw [hRR.out ()]
  obtain ⟨tx, s1, ht⟩ : ∃ x s1, Hid (textM l 64 s = (x, s1)) := ⟨_, _, Lib.hid rfl⟩
  obtain ⟨m, s2, hm⟩ : ∃ x s', Hid (fixM l 1 s1 = (x, s')) := ⟨_, _, Lib.hid rfl⟩
  obtain ⟨z, s3, hv⟩ : ∃ z s', Hid (varM l 18446744073709551615 s2 = (z, s')) := ⟨_, _, Lib.hid rfl⟩
  obtain ⟨k, s4, hk⟩ : ∃ x s', Hid (keyM l s3 = (x, s')) := ⟨_, _, Lib.hid rfl⟩
  have hfin : Hid (itemM l s = ((strB tx, m, z, k), s4)) := Lib.hid (by unfold itemM; simp only [ht.out, hm.out, hv.out, hk.out])
  obtain ⟨nm, hnm⟩ : ∃ n, Hid (∀ _ : Unit, strB tx = n) := ⟨_, Lib.hid fun _ => rfl⟩
  have htc := Lib.hid (textd_any hs0.out.dec 64 (by decide))
  rw [ht.out] at htc
  clear h hi35 hi32
  go_enter Tryd.func84, Tryd.ntmps84
  go_wp2_with fail
  refine htc.out.mono ?_
  rintro e w2 ⟨rfl, d2, g2⟩
  have hs2 := Lib.hid (hs0.out.call d2 g2)
  simp only [hnm.out ()]
  have x0 := hs2.out.cell (j := 0) rfl
  have f0 := hs2.out.fz 0
  have hs2b := Lib.hid (hs2.out.name nm)
  have hmc := takeuint8_any hs2b.out.dec
  rw [hm.out] at hmc
  have hmc' := Lib.hid hmc
  clear d2 g2 htc hmc
  go_wp2_with fail
  refine hmc'.out.mono ?_
  rintro e w3 ⟨rfl, d3, g3⟩
  have hs3 := Lib.hid (hs2b.out.call d3 g3)
  have x1 := hs3.out.cell (j := 1) rfl
  have f1 := hs3.out.fz 1
  have hs3b := Lib.hid (hs3.out.mode m)
  have hvc := vard_any hs3b.out.dec 18446744073709551615 (by decide)
  rw [hv.out] at hvc
  have hvc' := Lib.hid hvc
  clear d3 g3 hmc' hvc x0 f0
  go_wp2_with fail
  refine hvc'.out.mono ?_
  rintro e w4 ⟨rfl, d4, g4⟩
  have hs4 := Lib.hid (hs3b.out.call d4 g4)
  have x2 := hs4.out.cell (j := 2) rfl
  have f2 := hs4.out.fz 2
  have hs4b := Lib.hid (hs4.out.size z)
  have hkc := keyd_any hs4b.out.dec
  rw [hk.out] at hkc
  have hkc' := Lib.hid hkc
  clear d4 g4 hvc' hkc x1 f1
  go_wp2_with fail
  refine hkc'.out.mono ?_
  rintro e w5 ⟨rfl, d5, g5⟩
  have hs5 := Lib.hid (hs4b.out.call d5 g5)
  have hth := Lib.hid (by have := hs5.out.ther; rwa [← h32'.out k] at this)
  have hs5b := Lib.hid (hs5.out.key k)
  clear d5 g5 hkc' x2 f2
  go_wp2_with (first
    | (refine wpList_store_mid rfl 28 _ _ rfl w.heap.size 3 (encK k).toArray rfl rfl hth.out (by rw [h32'.out]; exact hi32'.out) (honk'.out _) ?_
       generalize w5.setCells w.heap.size 3 (encK k).toArray.toList = w6 at hs5b ⊢)
    | (refine wpList_load_row rfl 50 _ rfl w.heap.size rfl 50 _ (0, 0) _ hs5b.out.blk Tryd.underlying50 rfl (by rw [h35'.out]; exact hi35'.out) ?_)
    | (refine wpList_store_row rfl 50 _ _ rfl w.heap.size (encI (nm, m, z, k)).toArray rfl rfl 50 _ hs5b.out.blk (by rw [h35'.out]; exact hi35'.out) rfl (hone'.out _) ?_))
  have hres := setRow_heap w6 w.heap.size _ (encI (nm, m, z, k)).toArray 50 _ hs5b.out.blk
  have hs6 := hs5b.out.set (grown_setRow w6 _ _) hres
  refine bodyPost_ret (results_cell_row rfl _ _ w.heap.size 50 _ (0, 0) _ rfl hres Tryd.underlying50 rfl (by rw [h35'.out]; exact hi35'.out)) rfl ?_
  rw [← hRR.out (), hfin.out, hnm.out ()]
  exact ⟨rfl, hs6.dec, hs6.gr⟩
end Go.Proofs.YtkjndgapejbgcaaDoor

/- Copied: an object with lists of its own. -/
import Derived.Test.YtkjndgapejbgcaaDoorPkD6

namespace Go.Proofs.YtkjndgapejbgcaaDoor
open Go.RowKit
set_option linter.unusedSimpArgs false

set_option maxRecDepth 100000 in
set_option maxHeartbeats 4000000 in
theorem copied_any (w : World) (o : ObjT) (p : Lay) (ha : ObjIn w w.heap.size o p) (hf : Fit o) :
    Calls Tryd.prog 15 #[.agg (ocells o p).toArray] w fun e w' => (∃ q, e = .returned (.agg (ocells o q).toArray) ∧ LentK w' w.heap.size o q 4) ∧ Below w.heap.size w w' := by
  have hz := zeroO
  have hi39 : (Tryd.prog.info? 31).map (·.size) = some 39 := by kernel_rfl
  have hi39' := Lib.hid hi39
  have h39 : ∀ q, (ocells o q).toArray.size = 39 := fun q => by simp [ocells_length]
  have h39' := Lib.hid h39
  have hone' := Lib.hid (fun q : Lay => show (ocells o q).toArray.all (·.oneCell') = true from all_oneCell_toArray (ocells_one o q))
  have hz39 : (ocells oZ pZ).toArray.size = 39 := by simp [ocells_length]
  have hz39' := Lib.hid hz39
  have bP := buildP; have bI := buildI; have bK := buildK
  have sP := bslP; have sI := bslI; have sK := bslK
  obtain ⟨nd, hnd⟩ : ∃ n, Hid (∀ _ : Unit, o.data.length = n) := ⟨_, Lib.hid fun _ => rfl⟩
  obtain ⟨np, hnp⟩ : ∃ n, Hid (∀ _ : Unit, o.parts.length = n) := ⟨_, Lib.hid fun _ => rfl⟩
  obtain ⟨ni, hni⟩ : ∃ n, Hid (∀ _ : Unit, o.items.length = n) := ⟨_, Lib.hid fun _ => rfl⟩
  obtain ⟨nk, hnk⟩ : ∃ n, Hid (∀ _ : Unit, o.parents.length = n) := ⟨_, Lib.hid fun _ => rfl⟩
  have ld : nd ≤ 140737488355328 := by rw [← hnd.out ()]; exact hf.d
  have lp : np * 40 ≤ 140737488355328 := by rw [← hnp.out ()]; exact hf.ps
  have li : ni * 64 ≤ 140737488355328 := by rw [← hni.out ()]; exact hf.xs
  have lk : nk * 32 ≤ 140737488355328 := by rw [← hnk.out ()]; exact hf.ks
  have ha' := Lib.hid ha
  have hS0 : CSt w ((w.alloc (.cells (ocells o p).toArray 31)).alloc (.cells (ocells oZ pZ).toArray 31)) o p 0 := CSt.start
  have hsz2 : ((w.alloc (.cells (ocells o p).toArray 31)).alloc (.cells (ocells oZ pZ).toArray 31)).heap.size = w.heap.size + 2 := by simp
  have hsz2' := Lib.hid hsz2
  have c1 := hS0.blk.c1
  rw [hnd.out ()] at c1
  have hS0' := Lib.hid hS0
  clear ha hf hi39 h39 hz39 hS0 hsz2
  go_enter Tryd.func15, Tryd.ntmps15
  go_wp2_with (first
    | (go_at_call 18
       have hsp := spare_any _ o.data p.Ad p.cd (by exact (ha'.out.below hS0'.out.bel).d.mono (by rw [hsz2'.out]; omega)) (by rw [hnd.out ()]; exact ld)
       rw [hnd.out (), hsz2'.out] at hsp
       refine hsp.mono ?_
       rintro e w1 ⟨⟨ga, cd, rfl, o1⟩, b1⟩
       rw [← hnd.out ()] at o1
       have hS1 := Lib.hid (hS0'.out.setD b1 (hnd.out ()).symm o1)
       have hk1 := hS0'.out.blk.below b1 (by omega)
       have d1 := hk1.c1; have d2 := hk1.c2; have z1 := hk1.fz 1
       rw [hnd.out ()] at d1
       rw [hnp.out ()] at d2
       clear hsp o1 b1 hk1 hS0' c1
       skip)
    | (at_builtin
       refine wpList_appm elP v1 2 (flat encP [mkP, mkP]).toArray (by simp [flat_length encP_length]) rfl _ _ rfl rfl o1'.out rfl (by intro u hu; exact flat_one encP_one _ u (by simpa using hu)) (by unfold maxLen; omega) (by omega) hl1.out (np + 2) rfl (flat encP (o.parts ++ [mkP, mkP])) (by rw [flat_append]) ?_
       intro A1b y1 u1 q1 at1 b1
       obtain ⟨g1, rfl⟩ := q1.head (by omega)
       have hS1b := (hS1a.out.app at1 b1 hd1a.out).1
       rw [← hnp.out ()] at q1
       have hS1c := Lib.hid (hS1b.setP (hnp.out ()).symm q1)
       have hle := q1.le
       rw [hnp.out ()] at hle
       have e1 := hS1b.blk.c2; have e2 := hS1b.blk.c3; have z1 := hS1b.blk.fz 2
       rw [hnp.out ()] at e1
       rw [hni.out ()] at e2
       have hsl : ∀ W : World, (Instr.slice 25 (.slice (some ⟨g1, 0, none⟩) (np + 2) y1) none (some (.int .i64 (np : Int))) none).run Tryd.prog W = .ok (.slice (some ⟨g1, 0, none⟩) np y1) W := fun W => by
         have hs : (sizeOf (Tryd.prog.elem 25)).run Tryd.prog W = .ok 33 W := by kernel_rfl
         rw [run_slice_h W 25 _ (np + 2) y1 (by rw [Tryd.underlying25]; kernel_rfl) .i64 (np : Int) (by omega) (by omega), hs]
         simp only [Result.andThen, sliced, Int.toNat_natCast, Nat.zero_mul, Nat.sub_zero]
         rw [if_neg (by omega)]
         simp [Addr.add_lit]
       clear at1 b1 q1 hS1b hS1a hd1a o1' hl1
       skip)
    | (at_builtin
       refine wpList_app elP _ rfl _ _ rfl rfl (Own.nil _ (w.heap.size + 2) _ _) rfl (m := np) (g := fun j => (flat encP o.parts)[j]?.getD undef) (B2 := w.heap.size) (Row.at (ha'.out.below hS1.out.bel).ps (hnp.out ())) (by have := getD_one encP_one encP_length o.parts; rw [hnp.out ()] at this; exact this) (by unfold maxLen; omega) (by omega) hS1.out.le np (by omega) (flat encP o.parts) (by rw [List.nil_append, ← hnp.out ()]; exact range_flat encP_length _) ?_
       intro A1 x1 v1 o1 at1 b1
       have hS1a := Lib.hid (hS1.out.app at1 b1 (DisK.none _ _)).1
       have hd1a := Lib.hid (hS1.out.app at1 b1 (DisK.none _ _)).2
       have o1' := Lib.hid o1
       have hl1 := Lib.hid hS1a.out.le
       clear at1 b1 o1 hS1 d1 d2 z1
       skip)
    | (at_builtin
       refine wpList_appm elI v2 2 (flat encI [mkI, mkI]).toArray (by simp [flat_length encI_length]) rfl _ _ rfl rfl o2'.out rfl (by intro u hu; exact flat_one encI_one _ u (by simpa using hu)) (by unfold maxLen; omega) (by omega) hl2.out (ni + 2) rfl (flat encI (o.items ++ [mkI, mkI])) (by rw [flat_append]) ?_
       intro A2b y2 u2 q2 at2 b2
       obtain ⟨g2, rfl⟩ := q2.head (by omega)
       have hS2b := (hS2a.out.app at2 b2 hd2a.out).1
       rw [← hni.out ()] at q2
       have hS2c := Lib.hid (hS2b.setI (hni.out ()).symm q2)
       have hle := q2.le
       rw [hni.out ()] at hle
       have e1 := hS2b.blk.c3; have e2 := hS2b.blk.c36; have z1 := hS2b.blk.fz 3
       rw [hni.out ()] at e1
       rw [hnk.out ()] at e2
       have hsl : ∀ W : World, (Instr.slice 26 (.slice (some ⟨g2, 0, none⟩) (ni + 2) y2) none (some (.int .i64 (ni : Int))) none).run Tryd.prog W = .ok (.slice (some ⟨g2, 0, none⟩) ni y2) W := fun W => by
         have hs : (sizeOf (Tryd.prog.elem 26)).run Tryd.prog W = .ok 35 W := by kernel_rfl
         rw [run_slice_h W 26 _ (ni + 2) y2 (by rw [Tryd.underlying26]; kernel_rfl) .i64 (ni : Int) (by omega) (by omega), hs]
         simp only [Result.andThen, sliced, Int.toNat_natCast, Nat.zero_mul, Nat.sub_zero]
         rw [if_neg (by omega)]
         simp [Addr.add_lit]
       clear at2 b2 q2 hS2b hS2a hd2a o2' hl2
       skip)
    | (at_builtin
       refine wpList_app elI _ rfl _ _ rfl rfl (Own.nil _ (w.heap.size + 2) _ _) rfl (m := ni) (g := fun j => (flat encI o.items)[j]?.getD undef) (B2 := w.heap.size) (Row.at (ha'.out.below hS1c.out.bel).xs (hni.out ())) (by have := getD_one encI_one encI_length o.items; rw [hni.out ()] at this; exact this) (by unfold maxLen; omega) (by omega) hS1c.out.le ni (by omega) (flat encI o.items) (by rw [List.nil_append, ← hni.out ()]; exact range_flat encI_length _) ?_
       intro A2 x2 v2 o2 at2 b2
       have hS2a := Lib.hid (hS1c.out.app at2 b2 (DisK.none _ _)).1
       have hd2a := Lib.hid (hS1c.out.app at2 b2 (DisK.none _ _)).2
       have o2' := Lib.hid o2
       have hl2 := Lib.hid hS2a.out.le
       clear at2 b2 o2 hS1c e1 e2 z1 hsl hle
       skip)
    | (at_builtin
       refine wpList_appm elK v3 2 (flat encK [mkK, mkK]).toArray (by simp [flat_length encK_length]) rfl _ _ rfl rfl o3'.out rfl (by intro u hu; exact flat_one encK_one _ u (by simpa using hu)) (by unfold maxLen; omega) (by omega) hl3.out (nk + 2) rfl (flat encK (o.parents ++ [mkK, mkK])) (by rw [flat_append]) ?_
       intro A3b y3 u3 q3 at3 b3
       obtain ⟨g3, rfl⟩ := q3.head (by omega)
       have hS3b := (hS3a.out.app at3 b3 hd3a.out).1
       rw [← hnk.out ()] at q3
       have hS3c := Lib.hid (hS3b.setK (hnk.out ()).symm q3)
       have hle := q3.le
       rw [hnk.out ()] at hle
       have e1 := hS3b.blk.c36; have e2 := hS3b.blk.c37; have z1 := hS3b.blk.fz 36
       rw [hnk.out ()] at e1
       skip
       have hsl : ∀ W : World, (Instr.slice 29 (.slice (some ⟨g3, 0, none⟩) (nk + 2) y3) none (some (.int .i64 (nk : Int))) none).run Tryd.prog W = .ok (.slice (some ⟨g3, 0, none⟩) nk y3) W := fun W => by
         have hs : (sizeOf (Tryd.prog.elem 29)).run Tryd.prog W = .ok 32 W := by kernel_rfl
         rw [run_slice_h W 29 _ (nk + 2) y3 (by rw [Tryd.underlying29]; kernel_rfl) .i64 (nk : Int) (by omega) (by omega), hs]
         simp only [Result.andThen, sliced, Int.toNat_natCast, Nat.zero_mul, Nat.sub_zero]
         rw [if_neg (by omega)]
         simp [Addr.add_lit]
       clear at3 b3 q3 hS3b hS3a hd3a o3' hl3
       skip)
    | (at_builtin
       refine wpList_app elK _ rfl _ _ rfl rfl (Own.nil _ (w.heap.size + 2) _ _) rfl (m := nk) (g := fun j => (flat encK o.parents)[j]?.getD undef) (B2 := w.heap.size) (Row.at (ha'.out.below hS2c.out.bel).ks (hnk.out ())) (by have := getD_one encK_one encK_length o.parents; rw [hnk.out ()] at this; exact this) (by unfold maxLen; omega) (by omega) hS2c.out.le nk (by omega) (flat encK o.parents) (by rw [List.nil_append, ← hnk.out ()]; exact range_flat encK_length _) ?_
       intro A3 x3 v3 o3 at3 b3
       have hS3a := Lib.hid (hS2c.out.app at3 b3 (DisK.none _ _)).1
       have hd3a := Lib.hid (hS2c.out.app at3 b3 (DisK.none _ _)).2
       have o3' := Lib.hid o3
       have hl3 := Lib.hid hS3a.out.le
       clear at3 b3 o3 hS2c e1 e2 z1 hsl hle
       skip)
    | (refine wpList_load_row rfl 31 _ rfl w.heap.size rfl 31 _ (0, 0) _ hS3c.out.blk Tryd.underlying31 rfl (by rw [h39'.out]; exact hi39'.out) ?_)
    | (refine wpList_store_row rfl 31 _ _ rfl (w.heap.size + 1) _ rfl rfl 31 _ hS3c.out.res (by rw [h39'.out]; exact hi39'.out) (by rw [h39'.out, hz39'.out]) (hone'.out _) ?_))
  have hres := setRow_heap _ (w.heap.size + 1) _ (ocells o { p with Ad := (some ⟨ga, 0, none⟩), cd := cd, Ap := (some ⟨g1, 0, none⟩), cp := y1, Ai := (some ⟨g2, 0, none⟩), ci := y2, Ak := (some ⟨g3, 0, none⟩), ck := y3 }).toArray 31 _ hS3c.out.res
  refine bodyPost_ret (results_cell_row rfl _ _ (w.heap.size + 1) 31 _ (0, 0) _ rfl hres Tryd.underlying31 rfl (by rw [h39'.out]; exact hi39'.out)) rfl ⟨⟨_, rfl, ?_⟩, ?_⟩
  · exact (hS3c.out.own.setRow (by omega) _).base (by omega)
  · exact setRow_below hS3c.out.bel (by omega) _
end Go.Proofs.YtkjndgapejbgcaaDoor

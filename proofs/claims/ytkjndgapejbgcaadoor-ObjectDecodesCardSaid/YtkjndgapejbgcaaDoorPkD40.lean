/- The document's read: kind 3. The document's read: kind 4. -/
import Derived.Test.YtkjndgapejbgcaaDoorPkD39

namespace Go.Proofs.YtkjndgapejbgcaaDoor
open Go.RowKit
set_option linter.unusedSimpArgs false
set_option linter.unusedVariables false

theorem buildRO3 (w : World) : (Instr.build 31 #[(0, .int .u8 3)]).run Tryd.prog w = .ok (.agg (ocells { oZ with kind := 3 } pZ).toArray) w := run_build w _ _ _ (by kernel_rfl)
theorem buildItemL (nm : ByteArray) (m z : Nat) (a0 a1 a2 a3 a4 a5 a6 a7 a8 a9 a10 a11 a12 a13 a14 a15 a16 a17 a18 a19 a20 a21 a22 a23 a24 a25 a26 a27 a28 a29 a30 a31 : Nat) : Tryd.prog.built 50 [(0, .string nm), (1, .int .u8 (m : Int)), (2, .int .u64 (z : Int)), (3, .agg (u8s [a0, a1, a2, a3, a4, a5, a6, a7, a8, a9, a10, a11, a12, a13, a14, a15, a16, a17, a18, a19, a20, a21, a22, a23, a24, a25, a26, a27, a28, a29, a30, a31]).toArray)] = some ([Value.string nm, .int .u8 (m : Int), .int .u64 (z : Int)] ++ u8s [a0, a1, a2, a3, a4, a5, a6, a7, a8, a9, a10, a11, a12, a13, a14, a15, a16, a17, a18, a19, a20, a21, a22, a23, a24, a25, a26, a27, a28, a29, a30, a31]).toArray := by kernel_rfl
theorem buildItem (nm : ByteArray) (m z : Nat) (x : Key32) (w : World) : (Instr.build 50 #[(0, .string nm), (1, .int .u8 (m : Int)), (2, .int .u64 (z : Int)), (3, .agg (encK x).toArray)]).run Tryd.prog w = .ok (.agg (encI (nm, m, z, x)).toArray) w := by
  refine run_build w _ _ _ ?_
  obtain ⟨l, hl⟩ := x
  match l, hl with
  | [a0, a1, a2, a3, a4, a5, a6, a7, a8, a9, a10, a11, a12, a13, a14, a15, a16, a17, a18, a19, a20, a21, a22, a23, a24, a25, a26, a27, a28, a29, a30, a31], _ => exact buildItemL nm m z a0 a1 a2 a3 a4 a5 a6 a7 a8 a9 a10 a11 a12 a13 a14 a15 a16 a17 a18 a19 a20 a21 a22 a23 a24 a25 a26 a27 a28 a29 a30 a31
set_option maxRecDepth 100000 in
set_option maxHeartbeats 8000000 in
theorem rread_3 {w : World} {g c : Nat} {A : Option Addr} {l : List Nat} {s : DSt} (h : RDecS w g A c l s) (hl : l.length ≤ 8192) (s1 : DSt) (hK : fixM l 1 s = (3, s1)) :
    Calls Tryd.prog 52 #[.pointer (some ⟨g, 0, none⟩)] w (RReadPost w g A c l (rreadM l s)) := by
  have hz := zeroO
  have hi39 : (Tryd.prog.info? 31).map (·.size) = some 39 := by kernel_rfl
  have hi39' := Lib.hid hi39
  have h39' := Lib.hid (fun (x : ObjT) (q : Lay) => show (ocells x q).toArray.size = 39 by simp [ocells_length])
  have hone' := Lib.hid (fun (x : ObjT) (q : Lay) => show (ocells x q).toArray.all (·.oneCell') = true from all_oneCell_toArray (ocells_one x q))
  have hN0 : Hid ((w.alloc (.cells (ocells oZ pZ).toArray 31)).heap[w.heap.size]? = some (.cells (ocells oZ pZ).toArray 31 (0, 0))) := Lib.hid (heap_alloc_new w _)
  have hBz : Below w.heap.size w (w.alloc (.cells (ocells oZ pZ).toArray 31)) := (Below.refl _ _).alloc (Nat.le_refl _) _
  have hg0 := Lib.hid (grown_below' (r := some g) hBz)
  have hsz0 : Hid ((w.alloc (.cells (ocells oZ pZ).toArray 31)).heap.size = w.heap.size + 1) := Lib.hid (by simp)
  have hgl := Lib.hid h.gl
  have hab := Lib.hid h.ab
  have hfx := fixr_any (h.keep hBz) 1 (by decide) (by omega)
  rw [hK] at hfx
  have hfx' : Hid (Calls Tryd.prog 90 #[.pointer (some ⟨g, 0, none⟩), .int .i64 1] (w.alloc (.cells (ocells oZ pZ).toArray 31)) fun e w' => e = .returned (.int .u64 3) ∧ RDecS w' g A c l s1 ∧ (w.alloc (.cells (ocells oZ pZ).toArray 31)).grownBy w' (some g)) := Lib.hid hfx
  have hl' := Lib.hid hl
  obtain ⟨RR, hRR⟩ : ∃ R, Hid (∀ _ : Unit, rreadM l s = R) := ⟨_, Lib.hid fun _ => rfl⟩
  rw [hRR.out ()]
  have hK' := Lib.hid hK
  clear h hfx hBz hi39 hK hl
  obtain ⟨n, s2, hv⟩ : ∃ n s', Hid (varM l 128 s1 = (n, s')) := ⟨_, _, Lib.hid rfl⟩
  have hn128 : n ≤ 128 := by have := varM_most l 128 s1; rw [hv.out] at this; exact this
  have hfin : Hid (rreadM l s = ({ oZ with kind := 3, items := (loopM (itemM l) n s2).1 }, (loopM (itemM l) n s2).2)) := Lib.hid (by
    unfold rreadM
    rw [hK'.out]
    simp [hv.out])
  obtain ⟨LR, hLR⟩ : ∃ R, Hid (∀ _ : Unit, loopM (itemM l) n s2 = R) := ⟨_, Lib.hid fun _ => rfl⟩
  go_enter Tryd.func52, Tryd.ntmps52
  go_wp2_with (first
    | (refine wpList_built rfl 31 _ #[(0, .int .u8 3)] rfl (by rw [List.map_toArray]; rfl) _ (buildRO3 _) ?_)
    | (go_at_call 90
       refine hfx'.out.mono ?_
       rintro e w1 ⟨rfl, d1, g1⟩
       have G1 := Lib.hid (hg0.out.trans g1)
       have hr := Lib.hid (rr_start (K := 3) d1 (hg0.out.trans g1) hgl.out hab.out)
       have hs1 := Lib.hid (show w.heap.size + 1 ≤ w1.heap.size by have := g1.size; rw [hsz0.out] at this; exact this)
       have hS1 := Lib.hid ((g1.block w.heap.size (by rw [hsz0.out]; omega) (fun e => by have := hgl.out; injection e with e; omega)).trans hN0.out)
       have hN1 := Lib.hid (heap_alloc_new w1 (.cells (ocells oZ pZ).toArray 31))
       clear d1 g1)
    | (refine wpList_store_row rfl 31 _ _ rfl w1.heap.size (ocells { oZ with kind := 3 } pZ).toArray rfl rfl 31 _ hN1.out (by rw [h39'.out]; exact hi39'.out) (by rw [h39'.out, h39'.out]) (hone'.out _ _) ?_
       have hbk := Lib.hid (wbK_below w1 3)
       change wpList _ _ _ _ _ (wbK w1 3)
       generalize wbK w1 3 = wb at hr hbk ⊢
       have x0 : wb.cell? ⟨w1.heap.size, 0, none⟩ = some (.int .u8 3) := hr.out.ob.c0
       have hS2 := Lib.hid ((hbk.out.block w.heap.size (by have := hs1.out; omega)).trans hS1.out))
    | (go_at_call 93
       have hvc := rvard_any hr.out.dec 128 (by decide)
       rw [hv.out] at hvc
       refine hvc.mono ?_
       rintro e w2 ⟨rfl, d2, g2⟩
       have hr2 := Lib.hid (hr.out.call d2 g2)
       clear d2 g2 hvc))
  go_loopw [9] (fun iv wr => ∃ (i : Nat) (xs : List ItemT) (A1 : Option Addr) (c1 : Nat) (s3 : DSt), i ≤ n ∧ iv = .int .u64 (i : Int) ∧ Hid (xs.length = i) ∧ Hid (RRdS wb wr g w1.heap.size A c l s3 { oZ with kind := 3, items := xs } { pZ with Ai := A1, ci := c1 }) ∧ Hid (Own wr wb.heap.size 50 35 A1 xs.length c1 (flat encI xs)) ∧ Hid ((xs ++ (loopM (itemM l) (n - i) s3).1, (loopM (itemM l) (n - i) s3).2) = LR)) (fun iv _ => n - (intOf iv).toNat)
  case atStart => exact ⟨0, [], none, 0, s2, Nat.zero_le _, rfl, Lib.hid rfl, hr2, Lib.hid (Own.nil _ _ _ _), Lib.hid (by rw [← hLR.out ()]; simp)⟩
  case round =>
    clear hr2 x0
    obtain ⟨i, xs, A1, c1, s3, hin, rfl, hxl, hR, ho, hL⟩ := hrel
    have c2 := hR.out.dec.c2
    by_cases hlt : i < n
    · have e1 : (i : Int) < (n : Int) := by omega
      cases s3 with
      | none =>
        have hL2 : Hid ((xs, none) = LR) := Lib.hid (by have := hL.out; rw [loopM_none] at this; simpa using this)
        clear hL
        go_wp2_with (first
          | (refine wpList_load_row rfl 31 _ rfl w1.heap.size rfl 31 _ (0, 0) _ hR.out.ob Tryd.underlying31 rfl (by rw [h39'.out]; exact hi39'.out) ?_)
          | (refine wpList_store_row rfl 31 _ _ rfl w.heap.size (ocells _ _).toArray rfl rfl 31 _ (rr_res hR.out hS2.out hgl.out hs1.out hbk.out) (by rw [h39'.out]; exact hi39'.out) (by rw [h39'.out, h39'.out]) (hone'.out _ _) ?_))
        have hres := setRow_heap wr w.heap.size _ (ocells { oZ with kind := 3, items := xs } { pZ with Ai := A1, ci := c1 }).toArray 31 _ (rr_res hR.out hS2.out hgl.out hs1.out hbk.out)
        have he := rr_end hR.out G1.out hab.out hgl.out hbk.out rfl hs1.out ⟨Own.nil _ _ _ _, Own.nil _ _ _ _, ho.out, Own.nil _ _ _ _⟩ (ocells { oZ with kind := 3, items := xs } { pZ with Ai := A1, ci := c1 }).toArray
        refine bodyPost_ret (results_cell_row rfl _ _ w.heap.size 31 _ (0, 0) _ rfl hres Tryd.underlying31 rfl (by rw [h39'.out]; exact hi39'.out)) rfl ?_
        rw [← hRR.out (), hfin.out, hLR.out (), ← hL2.out]
        exact ⟨{ pZ with Ai := A1, ci := c1 }, rfl, he.1, he.2.1, he.2.2⟩
      | some k2 =>
        obtain ⟨tx, s4, htx⟩ : ∃ x s', Hid (textM l 64 (some k2) = (x, s')) := ⟨_, _, Lib.hid rfl⟩
        obtain ⟨m, s5, hm2⟩ : ∃ x s', Hid (fixM l 1 s4 = (x, s')) := ⟨_, _, Lib.hid rfl⟩
        obtain ⟨z, s6, hz2⟩ : ∃ z s', Hid (varM l 18446744073709551615 s5 = (z, s')) := ⟨_, _, Lib.hid rfl⟩
        obtain ⟨x, s7, hx⟩ : ∃ x s', Hid (keyM l s6 = (x, s')) := ⟨_, _, Lib.hid rfl⟩
        obtain ⟨nm, hnm⟩ : ∃ n, Hid (∀ _ : Unit, strB tx = n) := ⟨_, Lib.hid fun _ => rfl⟩
        have hone : Hid (itemM l (some k2) = ((nm, m, z, x), s7)) := Lib.hid (by unfold itemM; simp only [htx.out, hm2.out, hz2.out, hx.out, hnm.out ()])
        have hL2 : Hid (((xs ++ [(nm, m, z, x)]) ++ (loopM (itemM l) (n - (i + 1)) s7).1, (loopM (itemM l) (n - (i + 1)) s7).2) = LR) := Lib.hid (by
          have := hL.out
          rw [show n - i = (n - (i + 1)) + 1 by omega] at this
          simp only [loopM, hone.out] at this
          rw [List.append_assoc]
          exact this)
        have hm256 : m < 256 := by have := fixM_lt hR.out.dec.lt 1 s4; rw [hm2.out] at this; simpa using this
        have wm : IntKind.u8.wrap (m : Int) = (m : Int) := by rw [IntKind.wrap_u8]; omega
        have htc := textr_any hR.out.dec 64 (by decide) (by have := hl'.out; omega)
        rw [htx.out] at htc
        have htc' := Lib.hid htc
        clear hL htc hm256
        have hzk := zeroKey
        have hi32 : Hid ((Tryd.prog.info? 28).map (·.size) = some 32) := Lib.hid (by kernel_rfl)
        have h32' := Lib.hid (fun x : Key32 => show (encK x).toArray.size = 32 by simp [encK_length])
        have honk' := Lib.hid (fun x : Key32 => show (encK x).toArray.all (·.oneCell') = true from all_oneCell_toArray (encK_one x))
        have wi : IntKind.u64.wrap ((i : Int) + 1) = (i : Int) + 1 := by rw [IntKind.wrap_u64]; omega
        have hbl := builtI (nm, m, z, x)
        go_wp2_with (first
          | (go_at_call 95
             refine htc'.out.mono ?_
             rintro e wt ⟨rfl, dt, gt⟩
             have hRt := Lib.hid (hR.out.call dt gt)
             have ot := Lib.hid (ho.out.gk gt hR.out.gl)
             have hmc := fixr_any dt 1 (by decide) (by have := hl'.out; omega)
             rw [hm2.out] at hmc
             have hmc' := Lib.hid hmc
             simp only [hnm.out ()]
             clear dt gt hmc)
          | (go_at_call 90
             refine hmc'.out.mono ?_
             rintro e wm ⟨rfl, dm, gm⟩
             have hRm := Lib.hid (hRt.out.call dm gm)
             have om := Lib.hid (ot.out.gk gm hR.out.gl)
             have hvc := rvard_any dm 18446744073709551615 (by decide)
             rw [hz2.out] at hvc
             have hvc' := Lib.hid hvc
             clear dm gm hvc)
          | (go_at_call 93
             refine hvc'.out.mono ?_
             rintro e wv ⟨rfl, dv, gv⟩
             have hRv := Lib.hid (hRm.out.call dv gv)
             have ov := Lib.hid (om.out.gk gv hR.out.gl)
             have hkc := keyr_any dv (by have := hl'.out; omega)
             rw [hx.out] at hkc
             have hkc' := Lib.hid hkc
             clear dv gv hkc)
          | (go_at_call 94
             refine hkc'.out.mono ?_
             rintro e w2 ⟨rfl, d2, g2⟩
             have hR2 := Lib.hid (hRv.out.call d2 g2)
             have o2 := Lib.hid (ov.out.gk g2 hR.out.gl)
             have hk0 := Lib.hid (heap_alloc_new w2 (.cells (encK zK).toArray 28))
             clear d2 g2)
          | (refine wpList_store_row rfl 28 _ _ rfl w2.heap.size (encK x).toArray rfl rfl 28 _ hk0.out (by rw [h32'.out]; exact hi32.out) (by rw [h32'.out, h32'.out]) (honk'.out _) ?_
             change wpList _ _ _ _ _ (wkK w2 x)
             have hR3 := Lib.hid (hR2.out.below ((wkK_below w2 x).mono hR2.out.gr.size))
             have o3 := Lib.hid (o2.out.below (wkK_below w2 x) (fun j hj => (o2.out.lt j hj).2))
             have hk3 := Lib.hid (wkK_blk w2 x)
             have hks := Lib.hid (wkK_below w2 x).size
             generalize wkK w2 x = wk at hR3 o3 hk3 hks ⊢
             have x3 := hR3.out.ob.c3)
          | (refine wpList_load_row rfl 28 _ rfl w2.heap.size rfl 28 _ (0, 0) _ hk3.out Tryd.underlying28 rfl (by rw [h32'.out]; exact hi32.out) ?_)
          | (refine wpList_built rfl 50 _ #[(0, .string nm), (1, .int .u8 (m : Int)), (2, .int .u64 (z : Int)), (3, .agg (encK x).toArray)] rfl (by rw [List.map_toArray]; rfl) _ (buildItem nm m z x _) ?_)
          | (refine Great.wpList_buildSliceTo rfl 26 50 1 _ rfl _ rfl _ rfl Tryd.underlying26 (encI (nm, m, z, x)).toArray (by rw [List.map_toArray]; exact builtI (nm, m, z, x)) ?_)
          | (at_builtin; refine wpList_app1 elI _ (encI (nm, m, z, x)).toArray (by simp [encI_length]) rfl _ _ rfl rfl o3.out rfl (by intro u hu; exact encI_one _ u (by simpa using hu)) (by unfold maxLen; have := hxl.out; omega) (by have := hxl.out; omega) hR3.out.gr.size (xs.length + 1) rfl (flat encI (xs ++ [(nm, m, z, x)])) (by rw [flat_append]; simp [flat]) ?_
             intro A4 c4 w4 o4 at4 b4
             have hR4 := Lib.hid (hR3.out.below b4)
             have o4' := Lib.hid (o4.setFar (p := ⟨w1.heap.size, 3, none⟩) hR.out.hl (.slice A4 (xs.length + 1) c4))
             have y2 := hR4.out.ob.c3
             have z2 := hR4.out.ob.fz 3
             have hR5 := Lib.hid (hR4.out.set (grown_set _ _ _ _) (hR4.out.ob.putI (xs ++ [(nm, m, z, x)]) A4 c4 (xs.length + 1) (by simp)))
             clear o4 at4 b4))
        refine ⟨⟨i + 1, xs ++ [(nm, m, z, x)], A4, c4, s7, by omega, rfl, Lib.hid (by rw [List.length_append, hxl.out]; rfl), hR5, Lib.hid ?_, hL2⟩, by simp only [intOf]; omega⟩
        rw [show (xs ++ [(nm, m, z, x)]).length = xs.length + 1 by simp]
        exact o4'.out
    · obtain rfl : n = i := by omega
      have hL2 : Hid ((xs, s3) = LR) := Lib.hid (by have := hL.out; rw [Nat.sub_self] at this; simpa [loopM] using this)
      clear hL
      go_wp2_with (first
        | (refine wpList_load_row rfl 31 _ rfl w1.heap.size rfl 31 _ (0, 0) _ hR.out.ob Tryd.underlying31 rfl (by rw [h39'.out]; exact hi39'.out) ?_)
        | (refine wpList_store_row rfl 31 _ _ rfl w.heap.size (ocells _ _).toArray rfl rfl 31 _ (rr_res hR.out hS2.out hgl.out hs1.out hbk.out) (by rw [h39'.out]; exact hi39'.out) (by rw [h39'.out, h39'.out]) (hone'.out _ _) ?_))
      have hres := setRow_heap wr w.heap.size _ (ocells { oZ with kind := 3, items := xs } { pZ with Ai := A1, ci := c1 }).toArray 31 _ (rr_res hR.out hS2.out hgl.out hs1.out hbk.out)
      have he := rr_end hR.out G1.out hab.out hgl.out hbk.out rfl hs1.out ⟨Own.nil _ _ _ _, Own.nil _ _ _ _, ho.out, Own.nil _ _ _ _⟩ (ocells { oZ with kind := 3, items := xs } { pZ with Ai := A1, ci := c1 }).toArray
      refine bodyPost_ret (results_cell_row rfl _ _ w.heap.size 31 _ (0, 0) _ rfl hres Tryd.underlying31 rfl (by rw [h39'.out]; exact hi39'.out)) rfl ?_
      rw [← hRR.out (), hfin.out, hLR.out (), ← hL2.out]
      exact ⟨{ pZ with Ai := A1, ci := c1 }, rfl, he.1, he.2.1, he.2.2⟩
end Go.Proofs.YtkjndgapejbgcaaDoor

namespace Go.Proofs.YtkjndgapejbgcaaDoor
open Go.RowKit
set_option linter.unusedSimpArgs false
set_option linter.unusedVariables false

theorem buildRO4 (w : World) : (Instr.build 31 #[(0, .int .u8 4)]).run Tryd.prog w = .ok (.agg (ocells { oZ with kind := 4 } pZ).toArray) w := run_build w _ _ _ (by kernel_rfl)
set_option maxRecDepth 100000 in
set_option maxHeartbeats 8000000 in
theorem rread_4 {w : World} {g c : Nat} {A : Option Addr} {l : List Nat} {s : DSt} (h : RDecS w g A c l s) (hl : l.length ≤ 8192) (s1 : DSt) (hK : fixM l 1 s = (4, s1)) :
    Calls Tryd.prog 52 #[.pointer (some ⟨g, 0, none⟩)] w (RReadPost w g A c l (rreadM l s)) := by
  have hz := zeroO
  have hi39 : (Tryd.prog.info? 31).map (·.size) = some 39 := by kernel_rfl
  have hi39' := Lib.hid hi39
  have h39' := Lib.hid (fun (x : ObjT) (q : Lay) => show (ocells x q).toArray.size = 39 by simp [ocells_length])
  have hone' := Lib.hid (fun (x : ObjT) (q : Lay) => show (ocells x q).toArray.all (·.oneCell') = true from all_oneCell_toArray (ocells_one x q))
  have hN0 : Hid ((w.alloc (.cells (ocells oZ pZ).toArray 31)).heap[w.heap.size]? = some (.cells (ocells oZ pZ).toArray 31 (0, 0))) := Lib.hid (heap_alloc_new w _)
  have hBz : Below w.heap.size w (w.alloc (.cells (ocells oZ pZ).toArray 31)) := (Below.refl _ _).alloc (Nat.le_refl _) _
  have hg0 := Lib.hid (grown_below' (r := some g) hBz)
  have hsz0 : Hid ((w.alloc (.cells (ocells oZ pZ).toArray 31)).heap.size = w.heap.size + 1) := Lib.hid (by simp)
  have hgl := Lib.hid h.gl
  have hab := Lib.hid h.ab
  have hfx := fixr_any (h.keep hBz) 1 (by decide) (by omega)
  rw [hK] at hfx
  have hfx' : Hid (Calls Tryd.prog 90 #[.pointer (some ⟨g, 0, none⟩), .int .i64 1] (w.alloc (.cells (ocells oZ pZ).toArray 31)) fun e w' => e = .returned (.int .u64 4) ∧ RDecS w' g A c l s1 ∧ (w.alloc (.cells (ocells oZ pZ).toArray 31)).grownBy w' (some g)) := Lib.hid hfx
  have hl' := Lib.hid hl
  obtain ⟨RR, hRR⟩ : ∃ R, Hid (∀ _ : Unit, rreadM l s = R) := ⟨_, Lib.hid fun _ => rfl⟩
  rw [hRR.out ()]
  have hK' := Lib.hid hK
  clear h hfx hBz hi39 hK hl
  obtain ⟨t, s2, ht⟩ : ∃ x s', Hid (keyM l s1 = (x, s')) := ⟨_, _, Lib.hid rfl⟩
  obtain ⟨n, s3, hv⟩ : ∃ n s', Hid (varM l 128 s2 = (n, s')) := ⟨_, _, Lib.hid rfl⟩
  have hn128 : n ≤ 128 := by have := varM_most l 128 s2; rw [hv.out] at this; exact this
  obtain ⟨LR, hLR⟩ : ∃ R, Hid (∀ _ : Unit, loopM (keyM l) n s3 = R) := ⟨_, Lib.hid fun _ => rfl⟩
  have hfin : Hid (∀ (ks : List Key32) (sA : DSt) (m : Nat) (sB : DSt) (x : List Nat) (sC : DSt), (Unit → (ks, sA) = LR) → fixM l 8 sA = (m, sB) → textM l 1024 sB = (x, sC) → rreadM l s = ({ oZ with kind := 4, tree := t, parents := ks, time := signed64 m, note := strB x }, sC)) := Lib.hid (by
    intro ks sA m sB x sC h1 h2 h3
    have h4 : loopM (keyM l) n s3 = (ks, sA) := (hLR.out ()).trans (h1 ()).symm
    unfold rreadM
    rw [hK'.out]
    simp [ht.out, hv.out, h4, h2, h3])
  have hi32 : Hid ((Tryd.prog.info? 28).map (·.size) = some 32) := Lib.hid (by kernel_rfl)
  have h32' := Lib.hid (fun x : Key32 => show (encK x).toArray.size = 32 by simp [encK_length])
  have honk' := Lib.hid (fun x : Key32 => show (encK x).toArray.all (·.oneCell') = true from all_oneCell_toArray (encK_one x))
  go_enter Tryd.func52, Tryd.ntmps52
  go_wp2_with (first
    | (refine wpList_built rfl 31 _ #[(0, .int .u8 4)] rfl (by rw [List.map_toArray]; rfl) _ (buildRO4 _) ?_)
    | (go_at_call 90
       refine hfx'.out.mono ?_
       rintro e w1 ⟨rfl, d1, g1⟩
       have G1 := Lib.hid (hg0.out.trans g1)
       have hr := Lib.hid (rr_start (K := 4) d1 (hg0.out.trans g1) hgl.out hab.out)
       have hs1 := Lib.hid (show w.heap.size + 1 ≤ w1.heap.size by have := g1.size; rw [hsz0.out] at this; exact this)
       have hS1 := Lib.hid ((g1.block w.heap.size (by rw [hsz0.out]; omega) (fun e => by have := hgl.out; injection e with e; omega)).trans hN0.out)
       have hN1 := Lib.hid (heap_alloc_new w1 (.cells (ocells oZ pZ).toArray 31))
       clear d1 g1)
    | (refine wpList_store_row rfl 31 _ _ rfl w1.heap.size (ocells { oZ with kind := 4 } pZ).toArray rfl rfl 31 _ hN1.out (by rw [h39'.out]; exact hi39'.out) (by rw [h39'.out, h39'.out]) (hone'.out _ _) ?_
       have hbk := Lib.hid (wbK_below w1 4)
       change wpList _ _ _ _ _ (wbK w1 4)
       generalize wbK w1 4 = wb at hr hbk ⊢
       have x0 : wb.cell? ⟨w1.heap.size, 0, none⟩ = some (.int .u8 4) := hr.out.ob.c0
       have hS2 := Lib.hid ((hbk.out.block w.heap.size (by have := hs1.out; omega)).trans hS1.out))
    | (go_at_call 94
       have hkc := keyr_any hr.out.dec (by have := hl'.out; omega)
       rw [ht.out] at hkc
       refine hkc.mono ?_
       rintro e w2 ⟨rfl, d2, g2⟩
       have hr2 := Lib.hid (hr.out.call d2 g2)
       have hth := Lib.hid (by have := hr2.out.ob.ther; rwa [← h32'.out t] at this)
       have hr3 := Lib.hid (hr2.out.set (grown_setCells w1.heap.size (encK t).toArray.toList 4 _) (hr2.out.ob.putT t))
       clear d2 g2 hkc)
    | (refine wpList_store_mid rfl 28 _ _ rfl w1.heap.size 4 (encK t).toArray rfl rfl hth.out (by rw [h32'.out]; exact hi32.out) (honk'.out _) ?_
       generalize w2.setCells w1.heap.size 4 (encK t).toArray.toList = w3 at hr3 ⊢)
    | (go_at_call 93
       have hvc := rvard_any hr3.out.dec 128 (by decide)
       rw [hv.out] at hvc
       refine hvc.mono ?_
       rintro e w4 ⟨rfl, d4, g4⟩
       have hr4 := Lib.hid (hr3.out.call d4 g4)
       clear d4 g4 hvc))
  go_loopw [15] (fun iv wr => ∃ (i : Nat) (xs : List Key32) (A1 : Option Addr) (c1 : Nat) (s5 : DSt), i ≤ n ∧ iv = .int .u64 (i : Int) ∧ Hid (xs.length = i) ∧ Hid (RRdS wb wr g w1.heap.size A c l s5 { oZ with kind := 4, tree := t, parents := xs } { pZ with Ak := A1, ck := c1 }) ∧ Hid (Own wr wb.heap.size 28 32 A1 xs.length c1 (flat encK xs)) ∧ Hid ((xs ++ (loopM (keyM l) (n - i) s5).1, (loopM (keyM l) (n - i) s5).2) = LR)) (fun iv _ => n - (intOf iv).toNat)
  case atStart => exact ⟨0, [], none, 0, s3, Nat.zero_le _, rfl, Lib.hid rfl, hr4, Lib.hid (Own.nil _ _ _ _), Lib.hid (by rw [← hLR.out ()]; simp)⟩
  case round =>
    clear hr3 hr2 hr4 hth x0
    obtain ⟨i, xs, A1, c1, s5, hin, rfl, hxl, hR, ho, hL⟩ := hrel
    have hkd := Lib.hid hin
    have c2 := hR.out.dec.c2
    by_cases hlt : i < n
    · have e1 : (i : Int) < (n : Int) := by omega
      cases s5 with
      | none =>
        have hL2 : Hid ((xs, none) = LR) := Lib.hid (by have := hL.out; rw [loopM_none] at this; simpa using this)
        clear hL
        obtain ⟨m, sB, hm⟩ : ∃ x s', Hid (fixM l 8 (none : DSt) = (x, s')) := ⟨_, _, Lib.hid rfl⟩
        obtain ⟨nb, sC, hnb⟩ : ∃ x s', Hid (textM l 1024 sB = (x, s')) := ⟨_, _, Lib.hid rfl⟩
        obtain ⟨tm, htm⟩ : ∃ x, Hid (∀ _ : Unit, signed64 m = x) := ⟨_, Lib.hid fun _ => rfl⟩
        obtain ⟨nt, hnt⟩ : ∃ x, Hid (∀ _ : Unit, strB nb = x) := ⟨_, Lib.hid fun _ => rfl⟩
        have wm : IntKind.i64.wrap (m : Int) = tm := by rw [← htm.out (), IntKind.wrap_i64]; unfold signed64 wrap64; rfl
        have hfx2 := fixr_any hR.out.dec 8 (by decide) (by have := hl'.out; omega)
        rw [hm.out] at hfx2
        have hfx2' := Lib.hid hfx2
        have hfin2 := Lib.hid (hfin.out _ _ _ _ _ _ (fun _ => hL2.out) hm.out hnb.out)
        clear hfx2 hkd
        go_wp2_with (first
          | (go_at_call 90
             refine hfx2'.out.mono ?_
             rintro e w6 ⟨rfl, d6, g6⟩
             have hR6 := Lib.hid (hR.out.call d6 g6)
             have o6 := Lib.hid ((ho.out.gk g6 hR.out.gl).setFar (p := ⟨w1.heap.size, 37, none⟩) hR.out.hl (.int .i64 tm))
             have x37 := hR6.out.ob.c37
             have f37 := hR6.out.ob.fz 37
             have hR7 := Lib.hid (hR6.out.set (grown_set _ _ _ _) (hR6.out.ob.putM tm))
             have hxc := textr_any hR7.out.dec 1024 (by decide) (by have := hl'.out; omega)
             rw [hnb.out] at hxc
             have hxc' := Lib.hid hxc
             clear d6 g6 hxc)
          | (go_at_call 95
             refine hxc'.out.mono ?_
             rintro e w8 ⟨rfl, d8, g8⟩
             simp only [hnt.out ()]
             have hR8 := Lib.hid (hR7.out.call d8 g8)
             have o8 := Lib.hid ((o6.out.gk g8 hR.out.gl).setFar (p := ⟨w1.heap.size, 38, none⟩) hR.out.hl (.string nt))
             have x38 := hR8.out.ob.c38
             have f38 := hR8.out.ob.fz 38
             have hR9 := Lib.hid (hR8.out.set (grown_set _ _ _ _) (hR8.out.ob.putN nt))
             clear d8 g8 hxc' x37)
          | (refine wpList_load_row rfl 31 _ rfl w1.heap.size rfl 31 _ (0, 0) _ hR9.out.ob Tryd.underlying31 rfl (by rw [h39'.out]; exact hi39'.out) ?_)
          | (refine wpList_store_row rfl 31 _ _ rfl w.heap.size (ocells _ _).toArray rfl rfl 31 _ (rr_res hR9.out hS2.out hgl.out hs1.out hbk.out) (by rw [h39'.out]; exact hi39'.out) (by rw [h39'.out, h39'.out]) (hone'.out _ _) ?_))
        have hres := setRow_heap (w8.setCell ⟨w1.heap.size, 38, none⟩ (.string nt)) w.heap.size _ (ocells { oZ with kind := 4, tree := t, parents := xs, time := tm, note := nt } { pZ with Ak := A1, ck := c1 }).toArray 31 _ (rr_res hR9.out hS2.out hgl.out hs1.out hbk.out)
        have he := rr_end hR9.out G1.out hab.out hgl.out hbk.out rfl hs1.out ⟨Own.nil _ _ _ _, Own.nil _ _ _ _, Own.nil _ _ _ _, o8.out⟩ (ocells { oZ with kind := 4, tree := t, parents := xs, time := tm, note := nt } { pZ with Ak := A1, ck := c1 }).toArray
        refine bodyPost_ret (results_cell_row rfl _ _ w.heap.size 31 _ (0, 0) _ rfl hres Tryd.underlying31 rfl (by rw [h39'.out]; exact hi39'.out)) rfl ?_
        rw [← hRR.out (), hfin2.out, htm.out (), hnt.out ()]
        exact ⟨{ pZ with Ak := A1, ck := c1 }, rfl, he.1, he.2.1, he.2.2⟩
      | some k2 =>
        obtain ⟨x, s6, hx⟩ : ∃ x s', Hid (keyM l (some k2) = (x, s')) := ⟨_, _, Lib.hid rfl⟩
        have hL2 : Hid (((xs ++ [x]) ++ (loopM (keyM l) (n - (i + 1)) s6).1, (loopM (keyM l) (n - (i + 1)) s6).2) = LR) := Lib.hid (by
          have := hL.out
          rw [show n - i = (n - (i + 1)) + 1 by omega] at this
          simp only [loopM, hx.out] at this
          rw [List.append_assoc]
          exact this)
        have hkc := keyr_any hR.out.dec (by have := hl'.out; omega)
        rw [hx.out] at hkc
        have hkc' := Lib.hid hkc
        have hzk := zeroKey
        have wi : IntKind.u64.wrap ((i : Int) + 1) = (i : Int) + 1 := by rw [IntKind.wrap_u64]; omega
        have hbl := builtK x
        clear hL hkc
        go_wp2_with (first
          | (go_at_call 94
             refine hkc'.out.mono ?_
             rintro e w2 ⟨rfl, d2, g2⟩
             have hR2 := Lib.hid (hR.out.call d2 g2)
             have o2 := Lib.hid (ho.out.gk g2 hR.out.gl)
             have hk0 := Lib.hid (heap_alloc_new w2 (.cells (encK zK).toArray 28))
             clear d2 g2)
          | (refine wpList_store_row rfl 28 _ _ rfl w2.heap.size (encK x).toArray rfl rfl 28 _ hk0.out (by rw [h32'.out]; exact hi32.out) (by rw [h32'.out, h32'.out]) (honk'.out _) ?_
             change wpList _ _ _ _ _ (wkK w2 x)
             have hR3 := Lib.hid (hR2.out.below ((wkK_below w2 x).mono hR2.out.gr.size))
             have o3 := Lib.hid (o2.out.below (wkK_below w2 x) (fun j hj => (o2.out.lt j hj).2))
             have hk3 := Lib.hid (wkK_blk w2 x)
             have hks := Lib.hid (wkK_below w2 x).size
             generalize wkK w2 x = wk at hR3 o3 hk3 hks ⊢
             have x36 := hR3.out.ob.c36)
          | (refine wpList_load_row rfl 28 _ rfl w2.heap.size rfl 28 _ (0, 0) _ hk3.out Tryd.underlying28 rfl (by rw [h32'.out]; exact hi32.out) ?_)
          | (refine Great.wpList_buildSliceTo rfl 29 28 1 _ rfl _ rfl _ rfl Tryd.underlying29 (encK x).toArray (by rw [List.map_toArray]; exact builtK x) ?_)
          | (at_builtin; refine wpList_app1 elK _ (encK x).toArray (by simp [encK_length]) rfl _ _ rfl rfl o3.out rfl (by intro u hu; exact encK_one _ u (by simpa using hu)) (by unfold maxLen; have := hxl.out; omega) (by have := hxl.out; omega) hR3.out.gr.size (xs.length + 1) rfl (flat encK (xs ++ [x])) (by rw [flat_append]; simp [flat]) ?_
             intro A4 c4 w4 o4 at4 b4
             have hR4 := Lib.hid (hR3.out.below b4)
             have o4' := Lib.hid (o4.setFar (p := ⟨w1.heap.size, 36, none⟩) hR.out.hl (.slice A4 (xs.length + 1) c4))
             have y36 := hR4.out.ob.c36
             have z36 := hR4.out.ob.fz 36
             have hR5 := Lib.hid (hR4.out.set (grown_set _ _ _ _) (hR4.out.ob.putK (xs ++ [x]) A4 c4 (xs.length + 1) (by simp)))
             clear o4 at4 b4))
        refine ⟨⟨i + 1, xs ++ [x], A4, c4, s6, by omega, rfl, Lib.hid (by rw [List.length_append, hxl.out]; rfl), hR5, Lib.hid ?_, hL2⟩, by simp only [intOf]; omega⟩
        rw [show (xs ++ [x]).length = xs.length + 1 by simp]
        exact o4'.out
    · obtain rfl : n = i := by omega
      have hL2 : Hid ((xs, s5) = LR) := Lib.hid (by have := hL.out; rw [Nat.sub_self] at this; simpa [loopM] using this)
      clear hL
      obtain ⟨m, sB, hm⟩ : ∃ x s', Hid (fixM l 8 s5 = (x, s')) := ⟨_, _, Lib.hid rfl⟩
      obtain ⟨nb, sC, hnb⟩ : ∃ x s', Hid (textM l 1024 sB = (x, s')) := ⟨_, _, Lib.hid rfl⟩
      obtain ⟨tm, htm⟩ : ∃ x, Hid (∀ _ : Unit, signed64 m = x) := ⟨_, Lib.hid fun _ => rfl⟩
      obtain ⟨nt, hnt⟩ : ∃ x, Hid (∀ _ : Unit, strB nb = x) := ⟨_, Lib.hid fun _ => rfl⟩
      have wm : IntKind.i64.wrap (m : Int) = tm := by rw [← htm.out (), IntKind.wrap_i64]; unfold signed64 wrap64; rfl
      have hfx2 := fixr_any hR.out.dec 8 (by decide) (by have := hl'.out; omega)
      rw [hm.out] at hfx2
      have hfx2' := Lib.hid hfx2
      have hfin2 := Lib.hid (hfin.out _ _ _ _ _ _ (fun _ => hL2.out) hm.out hnb.out)
      clear hfx2 hkd
      go_wp2_with (first
        | (go_at_call 90
           refine hfx2'.out.mono ?_
           rintro e w6 ⟨rfl, d6, g6⟩
           have hR6 := Lib.hid (hR.out.call d6 g6)
           have o6 := Lib.hid ((ho.out.gk g6 hR.out.gl).setFar (p := ⟨w1.heap.size, 37, none⟩) hR.out.hl (.int .i64 tm))
           have x37 := hR6.out.ob.c37
           have f37 := hR6.out.ob.fz 37
           have hR7 := Lib.hid (hR6.out.set (grown_set _ _ _ _) (hR6.out.ob.putM tm))
           have hxc := textr_any hR7.out.dec 1024 (by decide) (by have := hl'.out; omega)
           rw [hnb.out] at hxc
           have hxc' := Lib.hid hxc
           clear d6 g6 hxc)
        | (go_at_call 95
           refine hxc'.out.mono ?_
           rintro e w8 ⟨rfl, d8, g8⟩
           simp only [hnt.out ()]
           have hR8 := Lib.hid (hR7.out.call d8 g8)
           have o8 := Lib.hid ((o6.out.gk g8 hR.out.gl).setFar (p := ⟨w1.heap.size, 38, none⟩) hR.out.hl (.string nt))
           have x38 := hR8.out.ob.c38
           have f38 := hR8.out.ob.fz 38
           have hR9 := Lib.hid (hR8.out.set (grown_set _ _ _ _) (hR8.out.ob.putN nt))
           clear d8 g8 hxc' x37)
        | (refine wpList_load_row rfl 31 _ rfl w1.heap.size rfl 31 _ (0, 0) _ hR9.out.ob Tryd.underlying31 rfl (by rw [h39'.out]; exact hi39'.out) ?_)
        | (refine wpList_store_row rfl 31 _ _ rfl w.heap.size (ocells _ _).toArray rfl rfl 31 _ (rr_res hR9.out hS2.out hgl.out hs1.out hbk.out) (by rw [h39'.out]; exact hi39'.out) (by rw [h39'.out, h39'.out]) (hone'.out _ _) ?_))
      have hres := setRow_heap (w8.setCell ⟨w1.heap.size, 38, none⟩ (.string nt)) w.heap.size _ (ocells { oZ with kind := 4, tree := t, parents := xs, time := tm, note := nt } { pZ with Ak := A1, ck := c1 }).toArray 31 _ (rr_res hR9.out hS2.out hgl.out hs1.out hbk.out)
      have he := rr_end hR9.out G1.out hab.out hgl.out hbk.out rfl hs1.out ⟨Own.nil _ _ _ _, Own.nil _ _ _ _, Own.nil _ _ _ _, o8.out⟩ (ocells { oZ with kind := 4, tree := t, parents := xs, time := tm, note := nt } { pZ with Ak := A1, ck := c1 }).toArray
      refine bodyPost_ret (results_cell_row rfl _ _ w.heap.size 31 _ (0, 0) _ rfl hres Tryd.underlying31 rfl (by rw [h39'.out]; exact hi39'.out)) rfl ?_
      rw [← hRR.out (), hfin2.out, htm.out (), hnt.out ()]
      exact ⟨{ pZ with Ak := A1, ck := c1 }, rfl, he.1, he.2.1, he.2.2⟩
end Go.Proofs.YtkjndgapejbgcaaDoor

/- The document's read: no kind, and a blob. The document's read: kind 1. The document's read: kind 2. -/
import Derived.Test.YtkjndgapejbgcaaDoorPkD38

namespace Go.Proofs.YtkjndgapejbgcaaDoor
open Go.RowKit
set_option linter.unusedSimpArgs false
set_option linter.unusedVariables false

theorem buildRO (K : Nat) (w : World) : (Instr.build 31 #[(0, .int .u8 (K : Int))]).run Tryd.prog w = .ok (.agg (ocells { oZ with kind := K } pZ).toArray) w := run_build w _ _ _ (by kernel_rfl)
def RReadPost (w : World) (g : Nat) (A : Option Addr) (c : Nat) (l : List Nat) (r : ObjT × DSt) (e : Ending) (w' : World) : Prop :=
  ∃ p, e = .returned (.agg (ocells r.1 p).toArray) ∧ RDecS w' g A c l r.2 ∧ w.grownBy w' (some g) ∧ OOwn w' w.heap.size r.1 p
/-- The object's block, filled by the kind; the result's block S stands by. -/
def wbK (w1 : World) (K : Nat) : World := (w1.alloc (.cells (ocells oZ pZ).toArray 31)).setRow w1.heap.size (ocells { oZ with kind := K } pZ).toArray
theorem wbK_below (w1 : World) (K : Nat) : Below w1.heap.size w1 (wbK w1 K) := ((Below.refl _ _).alloc (Nat.le_refl _) _).trans (grown_below (grown_setRow _ _ _) (by simp) (fun k e => by injection e with e; omega))
theorem rr_start {w w1 : World} {g c K : Nat} {A : Option Addr} {l : List Nat} {s1 : DSt} (hd : RDecS w1 g A c l s1) (hg : w.grownBy w1 (some g)) (hgl : g < w.heap.size) (hab : ∀ j, blockOf A = some j → j < w.heap.size) :
    RRdS (wbK w1 K) (wbK w1 K) g w1.heap.size A c l s1 { oZ with kind := K } pZ := by
  have hs := hg.size
  refine RRdS.start (hd.keep (wbK_below w1 K)) ?_ (by omega) (fun j hj => by have := hab j hj; have := (wbK_below w1 K).size; omega)
  exact setRow_heap (w1.alloc (.cells (ocells oZ pZ).toArray 31)) w1.heap.size _ (ocells { oZ with kind := K } pZ).toArray 31 _ (heap_alloc_new w1 _)
def wkK (w2 : World) (x : Key32) : World := (w2.alloc (.cells (encK zK).toArray 28)).setRow w2.heap.size (encK x).toArray
theorem wkK_below (w2 : World) (x : Key32) : Below w2.heap.size w2 (wkK w2 x) := ((Below.refl _ _).alloc (Nat.le_refl _) _).trans (grown_below (grown_setRow _ _ _) (by simp) (fun k e => by injection e with e; omega))
theorem wkK_blk (w2 : World) (x : Key32) : (wkK w2 x).heap[w2.heap.size]? = some (.cells (encK x).toArray 28 (0, 0)) := setRow_heap (w2.alloc (.cells (encK zK).toArray 28)) w2.heap.size _ (encK x).toArray 28 _ (heap_alloc_new w2 _)
/-- The end: what the object's block holds goes into the result's block. -/
theorem rr_end {w w1 wb w2 : World} {g c h : Nat} {A : Option Addr} {l : List Nat} {s : DSt} {o : ObjT} {p : Lay} (hr : RRdS wb w2 g h A c l s o p) (hg : w.grownBy w1 (some g)) (hab : ∀ j, blockOf A = some j → j < w.heap.size)
    (hgl : g < w.heap.size) (hb : Below w1.heap.size w1 wb) (hh : h = w1.heap.size) (hsz : w.heap.size + 1 ≤ w1.heap.size) (ho : OOwn w2 wb.heap.size o p) (cs : Array Value) :
    RDecS (w2.setRow w.heap.size cs) g A c l s ∧ w.grownBy (w2.setRow w.heap.size cs) (some g) ∧ OOwn (w2.setRow w.heap.size cs) w.heap.size o p := by
  have hs1 := hb.size
  have hgr : w.grownBy w2 (some g) := ⟨hr.gr.os.trans (hb.os.trans hg.os), hr.gr.tape.trans (hb.tape.trans hg.tape), hr.gr.output.trans (hb.output.trans hg.output), by have := hr.gr.size; omega,
    fun k hk hne => (hr.gr.block k (by omega) (fun e => hne (by rw [e])) (by omega)).trans ((hb.block k (by omega)).trans (hg.block k hk hne))⟩
  have hd2 := hr.dec.grown (grown_setRow w2 w.heap.size cs) (fun e => by
    injection e with e
    omega) (fun N hN => by injection hN with hN; subst hN; exact fun e => by have := hab _ e; omega)
  refine ⟨hd2, grown_new hgr (Nat.le_refl _) (grown_setRow w2 _ _), ?_⟩
  exact ⟨(ho.d.rowFar (by omega) cs).base (by omega), (ho.ps.rowFar (by omega) cs).base (by omega), (ho.xs.rowFar (by omega) cs).base (by omega), (ho.ks.rowFar (by omega) cs).base (by omega)⟩
/-- The result's block stands by. -/
theorem rr_res {w w1 wb w2 : World} {g c : Nat} {A : Option Addr} {l : List Nat} {s : DSt} {o : ObjT} {p : Lay} (hr : RRdS wb w2 g w1.heap.size A c l s o p) {ob : Obj} (hS : wb.heap[w.heap.size]? = some ob) (hgl : g < w.heap.size) (hsz : w.heap.size + 1 ≤ w1.heap.size) (hb : Below w1.heap.size w1 wb) :
    w2.heap[w.heap.size]? = some ob := (hr.gr.block w.heap.size (by have := hb.size; omega) (by omega) (by omega)).trans hS
set_option maxRecDepth 100000 in
set_option maxHeartbeats 4000000 in
theorem rread_other {w : World} {g c : Nat} {A : Option Addr} {l : List Nat} {s : DSt} (h : RDecS w g A c l s) (hl : l.length ≤ 8192) (K : Nat) (s1 : DSt) (hK : fixM l 1 s = (K, s1)) (hK4 : K = 0 ∨ 4 < K) :
    Calls Tryd.prog 52 #[.pointer (some ⟨g, 0, none⟩)] w (RReadPost w g A c l (rreadM l s)) := by
  have hz := zeroO
  have hi39 : (Tryd.prog.info? 31).map (·.size) = some 39 := by kernel_rfl
  have hi39' := Lib.hid hi39
  have h39' := Lib.hid (fun (x : ObjT) (q : Lay) => show (ocells x q).toArray.size = 39 by simp [ocells_length])
  have hone' := Lib.hid (fun (x : ObjT) (q : Lay) => show (ocells x q).toArray.all (·.oneCell') = true from all_oneCell_toArray (ocells_one x q))
  have hN0 : Hid ((w.alloc (.cells (ocells oZ pZ).toArray 31)).heap[w.heap.size]? = some (.cells (ocells oZ pZ).toArray 31 (0, 0))) := Lib.hid (heap_alloc_new w _)
  have hBz : Below w.heap.size w (w.alloc (.cells (ocells oZ pZ).toArray 31)) := (Below.refl _ _).alloc (Nat.le_refl _) _
  have hg0 := Lib.hid (grown_below' (r := some g) hBz)
  have hsz0 : Hid ((w.alloc (.cells (ocells oZ pZ).toArray 31)).heap.size = w.heap.size + 1) := Lib.hid (by simp)
  have hgl := Lib.hid h.gl
  have hab := Lib.hid h.ab
  have hfx := fixr_any (h.keep hBz) 1 (by decide) (by omega)
  rw [hK] at hfx
  have hfx' := Lib.hid hfx
  have hK256 : K < 256 := by have := fixM_lt h.lt 1 s; rw [hK] at this; simpa using this
  have wK : IntKind.u8.wrap (K : Int) = (K : Int) := by rw [IntKind.wrap_u8]; omega
  have k1 : ((K : Int) == 1) = false := by rw [beq_eq_false_iff_ne]; omega
  have k2 : ((K : Int) == 2) = false := by rw [beq_eq_false_iff_ne]; omega
  have k3 : ((K : Int) == 3) = false := by rw [beq_eq_false_iff_ne]; omega
  have k4 : ((K : Int) == 4) = false := by rw [beq_eq_false_iff_ne]; omega
  have hfin : Hid (rreadM l s = ({ oZ with kind := K }, s1)) := Lib.hid (by
    unfold rreadM
    rw [hK]
    simp only
    rw [if_neg (by omega), if_neg (by omega), if_neg (by omega), if_neg (by omega)])
  obtain ⟨RR, hRR⟩ : ∃ R, Hid (∀ _ : Unit, rreadM l s = R) := ⟨_, Lib.hid fun _ => rfl⟩
  rw [hRR.out ()]
  clear h hfx hBz hi39 hK hK4
  go_enter Tryd.func52, Tryd.ntmps52
  go_wp2_with (first
    | (refine wpList_built rfl 31 _ #[(0, .int .u8 (K : Int))] rfl (by rw [List.map_toArray]; rfl) _ (buildRO K _) ?_)
    | (go_at_call 90
       refine hfx'.out.mono ?_
       rintro e w1 ⟨rfl, d1, g1⟩
       have g1' := Lib.hid g1
       have G1 := Lib.hid (hg0.out.trans g1)
       have hr := Lib.hid (rr_start (K := K) d1 (hg0.out.trans g1) hgl.out hab.out)
       have hs1 := Lib.hid (show w.heap.size + 1 ≤ w1.heap.size by have := g1.size; rw [hsz0.out] at this; exact this)
       have hS1 := Lib.hid ((g1.block w.heap.size (by rw [hsz0.out]; omega) (fun e => by have := hgl.out; injection e with e; omega)).trans hN0.out)
       have hN1 := Lib.hid (heap_alloc_new w1 (.cells (ocells oZ pZ).toArray 31))
       clear d1 g1)
    | (refine wpList_store_row rfl 31 _ _ rfl w1.heap.size (ocells { oZ with kind := K } pZ).toArray rfl rfl 31 _ hN1.out (by rw [h39'.out]; exact hi39'.out) (by rw [h39'.out, h39'.out]) (hone'.out _ _) ?_
       have x0 := hr.out.ob.c0
       have hS := Lib.hid (hr.out.gr)
       have hbk := Lib.hid (wbK_below w1 K)
       change wpList _ _ _ _ _ (wbK w1 K)
       generalize wbK w1 K = wb at hr x0 hS hbk ⊢
       have hS2 := Lib.hid ((hbk.out.block w.heap.size (by have := hs1.out; omega)).trans hS1.out))
    | (refine wpList_load_row rfl 31 _ rfl w1.heap.size rfl 31 _ (0, 0) _ hr.out.ob Tryd.underlying31 rfl (by rw [h39'.out]; exact hi39'.out) ?_)
    | (refine wpList_store_row rfl 31 _ _ rfl w.heap.size (ocells { oZ with kind := K } pZ).toArray rfl rfl 31 _ hS2.out (by rw [h39'.out]; exact hi39'.out) (by rw [h39'.out, h39'.out]) (hone'.out _ _) ?_))
  have hres := setRow_heap wb w.heap.size _ (ocells { oZ with kind := K } pZ).toArray 31 _ hS2.out
  have he := rr_end hr.out G1.out hab.out hgl.out hbk.out rfl hs1.out (OOwn.zero _ _ K) (ocells { oZ with kind := K } pZ).toArray
  refine bodyPost_ret (results_cell_row rfl _ _ w.heap.size 31 _ (0, 0) _ rfl hres Tryd.underlying31 rfl (by rw [h39'.out]; exact hi39'.out)) rfl ?_
  rw [← hRR.out (), hfin.out]
  exact ⟨pZ, rfl, he.1, he.2.1, he.2.2⟩
end Go.Proofs.YtkjndgapejbgcaaDoor

namespace Go.Proofs.YtkjndgapejbgcaaDoor
open Go.RowKit
set_option linter.unusedSimpArgs false
set_option linter.unusedVariables false

theorem buildRO1 (w : World) : (Instr.build 31 #[(0, .int .u8 1)]).run Tryd.prog w = .ok (.agg (ocells { oZ with kind := 1 } pZ).toArray) w := run_build w _ _ _ (by kernel_rfl)
set_option maxRecDepth 100000 in
set_option maxHeartbeats 8000000 in
theorem rread_1 {w : World} {g c : Nat} {A : Option Addr} {l : List Nat} {s : DSt} (h : RDecS w g A c l s) (hl : l.length ≤ 8192) (s1 : DSt) (hK : fixM l 1 s = (1, s1)) :
    Calls Tryd.prog 52 #[.pointer (some ⟨g, 0, none⟩)] w (RReadPost w g A c l (rreadM l s)) := by
  have hz := zeroO
  have hi39 : (Tryd.prog.info? 31).map (·.size) = some 39 := by kernel_rfl
  have hi39' := Lib.hid hi39
  have h39' := Lib.hid (fun (x : ObjT) (q : Lay) => show (ocells x q).toArray.size = 39 by simp [ocells_length])
  have hone' := Lib.hid (fun (x : ObjT) (q : Lay) => show (ocells x q).toArray.all (·.oneCell') = true from all_oneCell_toArray (ocells_one x q))
  have hN0 : Hid ((w.alloc (.cells (ocells oZ pZ).toArray 31)).heap[w.heap.size]? = some (.cells (ocells oZ pZ).toArray 31 (0, 0))) := Lib.hid (heap_alloc_new w _)
  have hBz : Below w.heap.size w (w.alloc (.cells (ocells oZ pZ).toArray 31)) := (Below.refl _ _).alloc (Nat.le_refl _) _
  have hg0 := Lib.hid (grown_below' (r := some g) hBz)
  have hsz0 : Hid ((w.alloc (.cells (ocells oZ pZ).toArray 31)).heap.size = w.heap.size + 1) := Lib.hid (by simp)
  have hgl := Lib.hid h.gl
  have hab := Lib.hid h.ab
  have hfx := fixr_any (h.keep hBz) 1 (by decide) (by omega)
  rw [hK] at hfx
  have hfx' : Hid (Calls Tryd.prog 90 #[.pointer (some ⟨g, 0, none⟩), .int .i64 1] (w.alloc (.cells (ocells oZ pZ).toArray 31)) fun e w' => e = .returned (.int .u64 1) ∧ RDecS w' g A c l s1 ∧ (w.alloc (.cells (ocells oZ pZ).toArray 31)).grownBy w' (some g)) := Lib.hid hfx
  have hl' := Lib.hid hl
  obtain ⟨RR, hRR⟩ : ∃ R, Hid (∀ _ : Unit, rreadM l s = R) := ⟨_, Lib.hid fun _ => rfl⟩
  rw [hRR.out ()]
  have hK' := Lib.hid hK
  clear h hfx hBz hi39 hK hl
  obtain ⟨n, hn⟩ : ∃ n, Hid (∀ _ : Unit, leftM l.length s1 = n) := ⟨_, Lib.hid fun _ => rfl⟩
  obtain ⟨x, s2, hx⟩ : ∃ x s', Hid (rawM l n s1 = (x, s')) := ⟨_, _, Lib.hid rfl⟩
  have hnb : Hid (n ≤ 8192) := Lib.hid (by have := leftM_le l.length s1; have := hl'.out; rw [← hn.out ()]; omega)
  have hfin : Hid (rreadM l s = ({ oZ with kind := 1, data := x }, s2)) := Lib.hid (by
    unfold rreadM
    rw [hK'.out]
    simp only [if_true]
    rw [hn.out (), hx.out])
  go_enter Tryd.func52, Tryd.ntmps52
  go_wp2_with (first
    | (refine wpList_built rfl 31 _ #[(0, .int .u8 1)] rfl (by rw [List.map_toArray]; rfl) _ (buildRO1 _) ?_)
    | (go_at_call 90
       refine hfx'.out.mono ?_
       rintro e w1 ⟨rfl, d1, g1⟩
       have G1 := Lib.hid (hg0.out.trans g1)
       have hr := Lib.hid (rr_start (K := 1) d1 (hg0.out.trans g1) hgl.out hab.out)
       have hs1 := Lib.hid (show w.heap.size + 1 ≤ w1.heap.size by have := g1.size; rw [hsz0.out] at this; exact this)
       have hS1 := Lib.hid ((g1.block w.heap.size (by rw [hsz0.out]; omega) (fun e => by have := hgl.out; injection e with e; omega)).trans hN0.out)
       have hN1 := Lib.hid (heap_alloc_new w1 (.cells (ocells oZ pZ).toArray 31))
       clear d1 g1)
    | (refine wpList_store_row rfl 31 _ _ rfl w1.heap.size (ocells { oZ with kind := 1 } pZ).toArray rfl rfl 31 _ hN1.out (by rw [h39'.out]; exact hi39'.out) (by rw [h39'.out, h39'.out]) (hone'.out _ _) ?_
       have hbk := Lib.hid (wbK_below w1 1)
       change wpList _ _ _ _ _ (wbK w1 1)
       generalize wbK w1 1 = wb at hr hbk ⊢
       have x0 : wb.cell? ⟨w1.heap.size, 0, none⟩ = some (.int .u8 1) := hr.out.ob.c0
       have hS2 := Lib.hid ((hbk.out.block w.heap.size (by have := hs1.out; omega)).trans hS1.out))
    | (go_at_call 92
       have hlf := rleft_any hr.out.dec
       rw [hn.out ()] at hlf
       refine hlf.mono ?_
       rintro e w' ⟨rfl, q, rfl⟩
       clear hlf)
    | (go_at_call 91
       have hrw := rawr_any (hr.out.drewN q).dec n (by have := hnb.out; omega) (by have := hl'.out; omega)
       rw [hx.out] at hrw
       refine hrw.mono ?_
       rintro e w2 ⟨⟨A2, c2, rfl, o2⟩, d2, g2⟩
       have hr2 := Lib.hid ((hr.out.drewN q).call d2 g2)
       have o2' := Lib.hid ((o2.setFar (p := ⟨w1.heap.size, 1, none⟩) (by have := hr.out.hl; have := hr.out.gr.size; exact hr.out.hl) (.slice A2 x.length c2)))
       have x1 := hr2.out.ob.c1
       have f1 := hr2.out.ob.fz 1
       have hr3 := Lib.hid (hr2.out.set (grown_set _ _ _ _) (hr2.out.ob.putD x A2 c2 _ rfl))
       clear o2 d2 g2 hrw)
    | (refine wpList_load_row rfl 31 _ rfl w1.heap.size rfl 31 _ (0, 0) _ hr3.out.ob Tryd.underlying31 rfl (by rw [h39'.out]; exact hi39'.out) ?_)
    | (refine wpList_store_row rfl 31 _ _ rfl w.heap.size (ocells _ _).toArray rfl rfl 31 _ (rr_res hr3.out hS2.out hgl.out hs1.out hbk.out) (by rw [h39'.out]; exact hi39'.out) (by rw [h39'.out, h39'.out]) (hone'.out _ _) ?_))
  have hres := setRow_heap (w2.setCell ⟨w1.heap.size, 1, none⟩ (.slice A2 x.length c2)) w.heap.size _ (ocells { oZ with kind := 1, data := x } { pZ with Ad := A2, cd := c2 }).toArray 31 _ (rr_res hr3.out hS2.out hgl.out hs1.out hbk.out)
  have he := rr_end hr3.out G1.out hab.out hgl.out hbk.out rfl hs1.out ⟨o2'.out, Own.nil _ _ _ _, Own.nil _ _ _ _, Own.nil _ _ _ _⟩ (ocells { oZ with kind := 1, data := x } { pZ with Ad := A2, cd := c2 }).toArray
  refine bodyPost_ret (results_cell_row rfl _ _ w.heap.size 31 _ (0, 0) _ rfl hres Tryd.underlying31 rfl (by rw [h39'.out]; exact hi39'.out)) rfl ?_
  rw [← hRR.out (), hfin.out]
  exact ⟨{ pZ with Ad := A2, cd := c2 }, rfl, he.1, he.2.1, he.2.2⟩
end Go.Proofs.YtkjndgapejbgcaaDoor

namespace Go.Proofs.YtkjndgapejbgcaaDoor
open Go.RowKit
set_option linter.unusedSimpArgs false
set_option linter.unusedVariables false

theorem buildRO2 (w : World) : (Instr.build 31 #[(0, .int .u8 2)]).run Tryd.prog w = .ok (.agg (ocells { oZ with kind := 2 } pZ).toArray) w := run_build w _ _ _ (by kernel_rfl)
set_option maxRecDepth 100000 in
set_option maxHeartbeats 8000000 in
theorem rread_2 {w : World} {g c : Nat} {A : Option Addr} {l : List Nat} {s : DSt} (h : RDecS w g A c l s) (hl : l.length ≤ 8192) (s1 : DSt) (hK : fixM l 1 s = (2, s1)) :
    Calls Tryd.prog 52 #[.pointer (some ⟨g, 0, none⟩)] w (RReadPost w g A c l (rreadM l s)) := by
  have hz := zeroO
  have hi39 : (Tryd.prog.info? 31).map (·.size) = some 39 := by kernel_rfl
  have hi39' := Lib.hid hi39
  have h39' := Lib.hid (fun (x : ObjT) (q : Lay) => show (ocells x q).toArray.size = 39 by simp [ocells_length])
  have hone' := Lib.hid (fun (x : ObjT) (q : Lay) => show (ocells x q).toArray.all (·.oneCell') = true from all_oneCell_toArray (ocells_one x q))
  have hN0 : Hid ((w.alloc (.cells (ocells oZ pZ).toArray 31)).heap[w.heap.size]? = some (.cells (ocells oZ pZ).toArray 31 (0, 0))) := Lib.hid (heap_alloc_new w _)
  have hBz : Below w.heap.size w (w.alloc (.cells (ocells oZ pZ).toArray 31)) := (Below.refl _ _).alloc (Nat.le_refl _) _
  have hg0 := Lib.hid (grown_below' (r := some g) hBz)
  have hsz0 : Hid ((w.alloc (.cells (ocells oZ pZ).toArray 31)).heap.size = w.heap.size + 1) := Lib.hid (by simp)
  have hgl := Lib.hid h.gl
  have hab := Lib.hid h.ab
  have hfx := fixr_any (h.keep hBz) 1 (by decide) (by omega)
  rw [hK] at hfx
  have hfx' : Hid (Calls Tryd.prog 90 #[.pointer (some ⟨g, 0, none⟩), .int .i64 1] (w.alloc (.cells (ocells oZ pZ).toArray 31)) fun e w' => e = .returned (.int .u64 2) ∧ RDecS w' g A c l s1 ∧ (w.alloc (.cells (ocells oZ pZ).toArray 31)).grownBy w' (some g)) := Lib.hid hfx
  have hl' := Lib.hid hl
  obtain ⟨RR, hRR⟩ : ∃ R, Hid (∀ _ : Unit, rreadM l s = R) := ⟨_, Lib.hid fun _ => rfl⟩
  rw [hRR.out ()]
  have hK' := Lib.hid hK
  clear h hfx hBz hi39 hK hl
  obtain ⟨n, s2, hv⟩ : ∃ n s', Hid (varM l 128 s1 = (n, s')) := ⟨_, _, Lib.hid rfl⟩
  have hn128 : n ≤ 128 := by have := varM_most l 128 s1; rw [hv.out] at this; exact this
  have hfin : Hid (rreadM l s = ({ oZ with kind := 2, parts := (loopM (partM l) n s2).1 }, (loopM (partM l) n s2).2)) := Lib.hid (by
    unfold rreadM
    rw [hK'.out]
    simp [hv.out])
  obtain ⟨LR, hLR⟩ : ∃ R, Hid (∀ _ : Unit, loopM (partM l) n s2 = R) := ⟨_, Lib.hid fun _ => rfl⟩
  go_enter Tryd.func52, Tryd.ntmps52
  go_wp2_with (first
    | (refine wpList_built rfl 31 _ #[(0, .int .u8 2)] rfl (by rw [List.map_toArray]; rfl) _ (buildRO2 _) ?_)
    | (go_at_call 90
       refine hfx'.out.mono ?_
       rintro e w1 ⟨rfl, d1, g1⟩
       have G1 := Lib.hid (hg0.out.trans g1)
       have hr := Lib.hid (rr_start (K := 2) d1 (hg0.out.trans g1) hgl.out hab.out)
       have hs1 := Lib.hid (show w.heap.size + 1 ≤ w1.heap.size by have := g1.size; rw [hsz0.out] at this; exact this)
       have hS1 := Lib.hid ((g1.block w.heap.size (by rw [hsz0.out]; omega) (fun e => by have := hgl.out; injection e with e; omega)).trans hN0.out)
       have hN1 := Lib.hid (heap_alloc_new w1 (.cells (ocells oZ pZ).toArray 31))
       clear d1 g1)
    | (refine wpList_store_row rfl 31 _ _ rfl w1.heap.size (ocells { oZ with kind := 2 } pZ).toArray rfl rfl 31 _ hN1.out (by rw [h39'.out]; exact hi39'.out) (by rw [h39'.out, h39'.out]) (hone'.out _ _) ?_
       have hbk := Lib.hid (wbK_below w1 2)
       change wpList _ _ _ _ _ (wbK w1 2)
       generalize wbK w1 2 = wb at hr hbk ⊢
       have x0 : wb.cell? ⟨w1.heap.size, 0, none⟩ = some (.int .u8 2) := hr.out.ob.c0
       have hS2 := Lib.hid ((hbk.out.block w.heap.size (by have := hs1.out; omega)).trans hS1.out))
    | (go_at_call 93
       have hvc := rvard_any hr.out.dec 128 (by decide)
       rw [hv.out] at hvc
       refine hvc.mono ?_
       rintro e w2 ⟨rfl, d2, g2⟩
       have hr2 := Lib.hid (hr.out.call d2 g2)
       clear d2 g2 hvc))
  go_loopw [5] (fun iv wr => ∃ (i : Nat) (xs : List PartT) (A1 : Option Addr) (c1 : Nat) (s3 : DSt), i ≤ n ∧ iv = .int .u64 (i : Int) ∧ Hid (xs.length = i) ∧ Hid (RRdS wb wr g w1.heap.size A c l s3 { oZ with kind := 2, parts := xs } { pZ with Ap := A1, cp := c1 }) ∧ Hid (Own wr wb.heap.size 47 33 A1 xs.length c1 (flat encP xs)) ∧ Hid ((xs ++ (loopM (partM l) (n - i) s3).1, (loopM (partM l) (n - i) s3).2) = LR)) (fun iv _ => n - (intOf iv).toNat)
  case atStart => exact ⟨0, [], none, 0, s2, Nat.zero_le _, rfl, Lib.hid rfl, hr2, Lib.hid (Own.nil _ _ _ _), Lib.hid (by rw [← hLR.out ()]; simp)⟩
  case round =>
    clear hr2 x0
    obtain ⟨i, xs, A1, c1, s3, hin, rfl, hxl, hR, ho, hL⟩ := hrel
    have c2 := hR.out.dec.c2
    by_cases hlt : i < n
    · have e1 : (i : Int) < (n : Int) := by omega
      cases s3 with
      | none =>
        have hL2 : Hid ((xs, none) = LR) := Lib.hid (by have := hL.out; rw [loopM_none] at this; simpa using this)
        clear hL
        go_wp2_with (first
          | (refine wpList_load_row rfl 31 _ rfl w1.heap.size rfl 31 _ (0, 0) _ hR.out.ob Tryd.underlying31 rfl (by rw [h39'.out]; exact hi39'.out) ?_)
          | (refine wpList_store_row rfl 31 _ _ rfl w.heap.size (ocells _ _).toArray rfl rfl 31 _ (rr_res hR.out hS2.out hgl.out hs1.out hbk.out) (by rw [h39'.out]; exact hi39'.out) (by rw [h39'.out, h39'.out]) (hone'.out _ _) ?_))
        have hres := setRow_heap wr w.heap.size _ (ocells { oZ with kind := 2, parts := xs } { pZ with Ap := A1, cp := c1 }).toArray 31 _ (rr_res hR.out hS2.out hgl.out hs1.out hbk.out)
        have he := rr_end hR.out G1.out hab.out hgl.out hbk.out rfl hs1.out ⟨Own.nil _ _ _ _, ho.out, Own.nil _ _ _ _, Own.nil _ _ _ _⟩ (ocells { oZ with kind := 2, parts := xs } { pZ with Ap := A1, cp := c1 }).toArray
        refine bodyPost_ret (results_cell_row rfl _ _ w.heap.size 31 _ (0, 0) _ rfl hres Tryd.underlying31 rfl (by rw [h39'.out]; exact hi39'.out)) rfl ?_
        rw [← hRR.out (), hfin.out, hLR.out (), ← hL2.out]
        exact ⟨{ pZ with Ap := A1, cp := c1 }, rfl, he.1, he.2.1, he.2.2⟩
      | some k2 =>
        obtain ⟨x, s4, hx⟩ : ∃ x s', Hid (keyM l (some k2) = (x, s')) := ⟨_, _, Lib.hid rfl⟩
        obtain ⟨z, s5, hz2⟩ : ∃ z s', Hid (varM l 9223372036854775807 s4 = (z, s')) := ⟨_, _, Lib.hid rfl⟩
        have hone : Hid (partM l (some k2) = ((x, z), s5)) := Lib.hid (by unfold partM; rw [hx.out]; simp only; rw [hz2.out])
        have hL2 : Hid (((xs ++ [(x, z)]) ++ (loopM (partM l) (n - (i + 1)) s5).1, (loopM (partM l) (n - (i + 1)) s5).2) = LR) := Lib.hid (by
          have := hL.out
          rw [show n - i = (n - (i + 1)) + 1 by omega] at this
          simp only [loopM, hone.out] at this
          rw [List.append_assoc]
          exact this)
        have hkc := keyr_any hR.out.dec (by have := hl'.out; omega)
        rw [hx.out] at hkc
        have hkc' := Lib.hid hkc
        have hzk := zeroKey
        have hi32 : Hid ((Tryd.prog.info? 28).map (·.size) = some 32) := Lib.hid (by kernel_rfl)
        have h32' := Lib.hid (fun x : Key32 => show (encK x).toArray.size = 32 by simp [encK_length])
        have honk' := Lib.hid (fun x : Key32 => show (encK x).toArray.all (·.oneCell') = true from all_oneCell_toArray (encK_one x))
        have wi : IntKind.u64.wrap ((i : Int) + 1) = (i : Int) + 1 := by rw [IntKind.wrap_u64]; omega
        have hbl := builtP (x, z)
        clear hL hkc
        go_wp2_with (first
          | (go_at_call 94
             refine hkc'.out.mono ?_
             rintro e w2 ⟨rfl, d2, g2⟩
             have hR2 := Lib.hid (hR.out.call d2 g2)
             have o2 := Lib.hid (ho.out.gk g2 hR.out.gl)
             have hk0 := Lib.hid (heap_alloc_new w2 (.cells (encK zK).toArray 28))
             clear d2 g2)
          | (refine wpList_store_row rfl 28 _ _ rfl w2.heap.size (encK x).toArray rfl rfl 28 _ hk0.out (by rw [h32'.out]; exact hi32.out) (by rw [h32'.out, h32'.out]) (honk'.out _) ?_
             change wpList _ _ _ _ _ (wkK w2 x)
             have hRk := Lib.hid (hR2.out.below ((wkK_below w2 x).mono hR2.out.gr.size))
             have ok := Lib.hid (o2.below (wkK_below w2 x) (fun j hj => (o2.lt j hj).2))
             have hkb := Lib.hid (wkK_blk w2 x)
             have hks := Lib.hid (wkK_below w2 x).size
             have hvc := rvard_any hRk.out.dec 9223372036854775807 (by decide)
             rw [hz2.out] at hvc
             have hvc' := Lib.hid hvc
             clear hvc
             generalize wkK w2 x = wk at hRk ok hkb hks hvc' ⊢)
          | (go_at_call 93
             refine hvc'.out.mono ?_
             rintro e w3 ⟨rfl, d3, g3⟩
             have hR3 := Lib.hid (hRk.out.call d3 g3)
             have o3 := Lib.hid (ok.out.gk g3 hR.out.gl)
             have hk3 := Lib.hid ((g3.block w2.heap.size (lt_of_block hkb.out) (fun e => by have := hR2.out.dec.gl; injection e with e; omega)).trans hkb.out)
             have x2 := hR3.out.ob.c2
             clear d3 g3)
          | (refine wpList_load_row rfl 28 _ rfl w2.heap.size rfl 28 _ (0, 0) _ hk3.out Tryd.underlying28 rfl (by rw [h32'.out]; exact hi32.out) ?_)
          | (refine wpList_built rfl 47 _ #[(0, .agg (encK x).toArray), (1, .int .u64 (z : Int))] rfl (by rw [List.map_toArray]; rfl) _ (buildPart x z _) ?_)
          | (refine Great.wpList_buildSliceTo rfl 25 47 1 _ rfl _ rfl _ rfl Tryd.underlying25 (encP (x, z)).toArray (by rw [List.map_toArray]; exact builtP (x, z)) ?_)
          | (at_builtin; refine wpList_app1 elP _ (encP (x, z)).toArray (by simp [encP_length]) rfl _ _ rfl rfl o3.out rfl (by intro u hu; exact encP_one _ u (by simpa using hu)) (by unfold maxLen; have := hxl.out; omega) (by have := hxl.out; omega) hR3.out.gr.size (xs.length + 1) rfl (flat encP (xs ++ [(x, z)])) (by rw [flat_append]; simp [flat]) ?_
             intro A4 c4 w4 o4 at4 b4
             have hR4 := Lib.hid (hR3.out.below b4)
             have o4' := Lib.hid (o4.setFar (p := ⟨w1.heap.size, 2, none⟩) hR.out.hl (.slice A4 (xs.length + 1) c4))
             have y2 := hR4.out.ob.c2
             have z2 := hR4.out.ob.fz 2
             have hR5 := Lib.hid (hR4.out.set (grown_set _ _ _ _) (hR4.out.ob.putP (xs ++ [(x, z)]) A4 c4 (xs.length + 1) (by simp)))
             clear o4 at4 b4))
        refine ⟨⟨i + 1, xs ++ [(x, z)], A4, c4, s5, by omega, rfl, Lib.hid (by rw [List.length_append, hxl.out]; rfl), hR5, Lib.hid ?_, hL2⟩, by simp only [intOf]; omega⟩
        rw [show (xs ++ [(x, z)]).length = xs.length + 1 by simp]
        exact o4'.out
    · obtain rfl : n = i := by omega
      have hL2 : Hid ((xs, s3) = LR) := Lib.hid (by have := hL.out; rw [Nat.sub_self] at this; simpa [loopM] using this)
      clear hL
      go_wp2_with (first
        | (refine wpList_load_row rfl 31 _ rfl w1.heap.size rfl 31 _ (0, 0) _ hR.out.ob Tryd.underlying31 rfl (by rw [h39'.out]; exact hi39'.out) ?_)
        | (refine wpList_store_row rfl 31 _ _ rfl w.heap.size (ocells _ _).toArray rfl rfl 31 _ (rr_res hR.out hS2.out hgl.out hs1.out hbk.out) (by rw [h39'.out]; exact hi39'.out) (by rw [h39'.out, h39'.out]) (hone'.out _ _) ?_))
      have hres := setRow_heap wr w.heap.size _ (ocells { oZ with kind := 2, parts := xs } { pZ with Ap := A1, cp := c1 }).toArray 31 _ (rr_res hR.out hS2.out hgl.out hs1.out hbk.out)
      have he := rr_end hR.out G1.out hab.out hgl.out hbk.out rfl hs1.out ⟨Own.nil _ _ _ _, ho.out, Own.nil _ _ _ _, Own.nil _ _ _ _⟩ (ocells { oZ with kind := 2, parts := xs } { pZ with Ap := A1, cp := c1 }).toArray
      refine bodyPost_ret (results_cell_row rfl _ _ w.heap.size 31 _ (0, 0) _ rfl hres Tryd.underlying31 rfl (by rw [h39'.out]; exact hi39'.out)) rfl ?_
      rw [← hRR.out (), hfin.out, hLR.out (), ← hL2.out]
      exact ⟨{ pZ with Ap := A1, cp := c1 }, rfl, he.1, he.2.1, he.2.2⟩
end Go.Proofs.YtkjndgapejbgcaaDoor

/- The document's decoder: Text. The document's decoder: Fixed. The document's decoder: Key. The document's decoder: Open. What the document's read makes of bytes: plain words. The document's reader: what stands while it runs. -/
import Derived.Test.YtkjndgapejbgcaaDoorPkD37
import Derived.Test.YtkjndgapejbgcaaDoorPkD25

namespace Go.Proofs.YtkjndgapejbgcaaDoor
open Go.RowKit
set_option linter.unusedSimpArgs false
set_option linter.unusedVariables false

def RTextPost (w : World) (g : Nat) (A : Option Addr) (c : Nat) (l : List Nat) (r : List Nat × DSt) (e : Ending) (w' : World) : Prop :=
  e = .returned (.string (strB r.1)) ∧ RDecS w' g A c l r.2 ∧ w.grownBy w' (some g)
set_option maxRecDepth 20000 in
set_option maxHeartbeats 4000000 in
theorem textr_any {w : World} {g c : Nat} {A : Option Addr} {l : List Nat} {s : DSt} (h : RDecS w g A c l s) (most : Nat) (hm : most < 4611686018427387904) (hl : l.length ≤ 70368744177664) :
    Calls Tryd.prog 95 #[.pointer (some ⟨g, 0, none⟩), .int .i64 (most : Int)] w (RTextPost w g A c l (textM l most s)) := by
  have hvd := Lib.hid (rvard_any h most (by omega))
  have hml := varM_most l most s
  have hlt := Lib.hid h.lt
  have c2 := h.c2
  cases s with
  | none =>
    have h' := Lib.hid h
    clear h hvd hml
    go_enter Tryd.func95, Tryd.ntmps95
    go_wp2_with fail
    go_ret
    exact ⟨rfl, h'.out, grown_drewN w 0 _⟩
  | some k =>
    obtain ⟨x0, y0, h⟩ := h
    have hkl := Lib.hid h.le
    have c1 := h.c1
    have hmx : IntKind.u64.wrap (most : Int) = (most : Int) := by rw [IntKind.wrap_u64]; omega
    have hmx2 : decide ((most : Int) < 0) = false := by simp
    obtain ⟨n, s1, hv⟩ : ∃ n s1, Hid (varM l most (some k) = (n, s1)) := ⟨_, _, Lib.hid rfl⟩
    rw [hv.out] at hvd hml
    simp only at hml
    have htx : Hid (textM l most (some k) = rawM l n s1) := Lib.hid (by unfold textM; rw [hv.out])
    obtain ⟨RR, hRR⟩ : ∃ R, Hid (∀ _ : Unit, rawM l n s1 = R) := ⟨_, Lib.hid fun _ => rfl⟩
    rw [htx.out, hRR.out ()]
    have hwn : IntKind.i64.wrap (n : Int) = (n : Int) := IntWalk.i64_in _ (by omega)
    have hn61 : Hid (n ≤ 4611686018427387904) := Lib.hid (by omega)
    clear h
    go_enter Tryd.func95, Tryd.ntmps95
    go_wp2_with fail
    refine hvd.out.mono ?_
    rintro e w2 ⟨rfl, h2, g2⟩
    have h2' := Lib.hid h2
    have g2' := Lib.hid g2
    have c2 := h2.c2
    have hrw := Lib.hid (rawr_any h2 n hn61.out hl)
    clear h2 g2 hvd c1 hl
    cases s1 with
    | none =>
      go_wp2_with fail
      go_ret
      rw [← hRR.out ()]
      exact ⟨rfl, h2'.out, g2'.out⟩
    | some k1 =>
      by_cases hn : n ≤ l.length - k1
      · have hr : Hid (rawM l n (some k1) = ((l.drop k1).take n, some (k1 + n))) := Lib.hid (by simp [rawM, hn])
        obtain ⟨x, hx⟩ : ∃ x, Hid (∀ _ : Unit, (l.drop k1).take n = x) := ⟨_, Lib.hid fun _ => rfl⟩
        have hxl : Hid (x.length = n) := Lib.hid (by rw [← hx.out (), List.length_take, List.length_drop]; omega)
        have hx256 : Hid (∀ y ∈ x, y < 256) := Lib.hid fun y hy => hlt.out y (by rw [← hx.out ()] at hy; exact List.mem_of_mem_drop (List.mem_of_mem_take hy))
        rw [hr.out, hx.out ()] at hrw
        clear hn
        go_wp2_with fail
        refine hrw.out.mono ?_
        rintro e w3 ⟨⟨A2, cc, rfl, ho⟩, h3, g3⟩
        have c2 := h3.c2
        have hcv := conv_bytes w3 x A2 cc _ ho.byt hx256.out
        rw [hxl.out] at hcv
        simp only [hxl.out]
        have h3' := Lib.hid h3
        have g3' := Lib.hid (g2'.out.trans g3)
        clear ho h3 g3
        go_wp2_with fail
        go_ret
        rw [← hRR.out (), hr.out, hx.out ()]
        exact ⟨rfl, h3'.out, g3'.out⟩
      · have hr : Hid (rawM l n (some k1) = ([], none)) := Lib.hid (by simp [rawM, hn])
        rw [hr.out] at hrw
        clear hn
        go_wp2_with fail
        refine hrw.out.mono ?_
        rintro e w3 ⟨⟨A2, cc, rfl, ho⟩, h3, g3⟩
        have c2 := h3.c2
        obtain ⟨k3, x3, y3, h3, hy3⟩ := h3
        have f1 := h3.fz 1
        have c1 := h3.c1
        have hs1 := h3.set 1 (.int .i64 (k : Int)) (k' := k) (st' := true) (x' := x3) (y' := y3) hkl.out rfl
        have f3 := h3.fz 3
        have c3 := h3.c3
        have hs2 := hs1.1.set 3 (.int .i64 (k : Int)) (k' := k) (st' := true) (x' := (k : Int)) (y' := y3) hkl.out rfl
        have hh := Lib.hid (show _ ∧ _ from ⟨hs2.1, ((g2'.out.trans g3).trans hs1.2).trans hs2.2⟩)
        have hy3' := Lib.hid hy3
        clear ho h3 g3 hs1 hs2 hy3
        go_wp2_with fail
        go_ret
        rw [← hRR.out (), hr.out]
        exact ⟨rfl, ⟨_, _, _, hh.out.1, hy3'.out⟩, hh.out.2⟩
end Go.Proofs.YtkjndgapejbgcaaDoor

namespace Go.Proofs.YtkjndgapejbgcaaDoor
open Go.RowKit
set_option linter.unusedSimpArgs false
set_option linter.unusedVariables false

theorem leN_drop {x : List Nat} {j y : Nat} (h : x[j]? = some y) : leN (x.drop j) = y + 256 * leN (x.drop (j + 1)) := by
  have hj := (List.getElem?_eq_some_iff.1 h).1
  have he := (List.getElem?_eq_some_iff.1 h).2
  rw [List.drop_eq_getElem_cons hj, he]
  rfl
set_option maxRecDepth 20000 in
set_option maxHeartbeats 4000000 in
theorem fixr_any {w : World} {g c : Nat} {A : Option Addr} {l : List Nat} {s : DSt} (h : RDecS w g A c l s) (n : Nat) (hn8 : n ≤ 8) (hl : l.length ≤ 70368744177664) :
    Calls Tryd.prog 90 #[.pointer (some ⟨g, 0, none⟩), .int .i64 (n : Int)] w (RVarPost w g A c l (fixM l n s)) := by
  have hrw := Lib.hid (rawr_any h n (by omega) hl)
  obtain ⟨RR, hRR⟩ : ∃ R, Hid (∀ _ : Unit, fixM l n s = R) := ⟨_, Lib.hid fun _ => rfl⟩
  rw [hRR.out ()]
  have hx256 := Lib.hid (rawM_lt h.lt n s)
  have hxn := Lib.hid (rawM_length l n s)
  obtain ⟨x, s1, hr⟩ : ∃ x s1, Hid (rawM l n s = (x, s1)) := ⟨_, _, Lib.hid rfl⟩
  have hfx : Hid (fixM l n s = (leN x, s1)) := Lib.hid (by unfold fixM; rw [hr.out])
  rw [hr.out] at hrw hx256 hxn
  simp only at hx256 hxn
  obtain ⟨N, hN⟩ : ∃ N, Hid (∀ _ : Unit, x.length = N) := ⟨_, Lib.hid fun _ => rfl⟩
  have hN8 : N ≤ 8 := by have := hxn.out; rw [hN.out ()] at this; omega
  have wN : IntKind.i64.wrap ((N : Int) - 1) = (N : Int) - 1 := IntWalk.i64_in _ (by omega)
  clear h hl hxn hn8
  go_enter Tryd.func90, Tryd.ntmps90
  go_wp2_with fail
  refine hrw.out.mono ?_
  rintro e w2 ⟨⟨A2, cc, rfl, ho⟩, h2, g2⟩
  simp only [hN.out ()] at ho ⊢
  have ho' := Lib.hid ho
  have h2' := Lib.hid h2
  have g2' := Lib.hid g2
  clear ho h2 g2 hrw
  go_wp2_with fail
  go_loopw [6, 7] (fun vv iv wr => ∃ (j v q : Nat) (I : Int), j ≤ N ∧ vv = .int .u64 (v : Int) ∧ iv = .int .i64 I ∧ Hid (I = (j : Int) - 1) ∧ Hid (v = leN (x.drop j)) ∧ Hid (wr = w2.drewN q)) (fun _ iv _ => (intOf iv + 1).toNat)
  case atStart => exact ⟨N, 0, 0, (N : Int) - 1, Nat.le_refl _, rfl, rfl, Lib.hid rfl, Lib.hid (by rw [List.drop_eq_nil_of_le (by rw [hN.out ()]; exact Nat.le_refl _)]; rfl), Lib.hid rfl⟩
  case round =>
    obtain ⟨j, v, q, I, hj, rfl, rfl, hI, hv, hq⟩ := hrel
    obtain rfl := hq.out
    clear hq
    rcases j with _ | j
    · obtain rfl : I = -1 := by have := hI.out; simpa using this
      clear hI
      go_wp2_with fail
      go_ret
      rw [← hRR.out (), hfx.out]
      have hvv := hv.out
      rw [List.drop_zero] at hvv
      refine ⟨by rw [hvv]; rfl, h2'.out.grown (grown_drewN w2 _ none) (by simp) (by simp), g2'.out.trans (grown_drewN w2 _ _)⟩
    · obtain rfl : I = (j : Int) := by have := hI.out; omega
      clear hI
      obtain ⟨y, hy⟩ : ∃ y, Hid (x[j]? = some y) := ⟨x[j]'(by rw [hN.out ()]; omega), Lib.hid (List.getElem?_eq_getElem _)⟩
      have hy256 : y < 256 := hx256.out y (List.mem_of_getElem? hy.out)
      obtain ⟨b2, hA2⟩ := ho'.out.head (by omega)
      have hcel : w2.cell? ⟨b2, j, none⟩ = some (.int .u8 (y : Int)) := by
        have ho2 := ho'.out
        rw [hA2] at ho2
        rw [ho2.cell j (by omega), u8s_get _ _ (by rw [hN.out ()]; omega), hy.out]
        rfl
      subst hA2
      have hlt : v < 256 ^ (N - (j + 1)) := by
        have := leN_lt (x.drop (j + 1)) (fun z hz => hx256.out z (List.mem_of_mem_drop hz))
        rw [List.length_drop, hN.out ()] at this
        rw [hv.out]
        exact this
      have hp : 256 ^ (N - (j + 1)) ≤ 256 ^ 7 := Nat.pow_le_pow_right (by decide) (by omega)
      have hp7 : (256 : Nat) ^ 7 = 72057594037927936 := by decide
      have hvb : v < 72057594037927936 := by omega
      clear hlt hp hp7
      have e1 : (j : Int) < (N : Int) := by omega
      have e2 : (0 : Int) ≤ (j : Int) := by omega
      have wj : IntKind.i64.wrap ((j : Int) - 1) = (j : Int) - 1 := IntWalk.i64_in _ (by omega)
      have wm : IntKind.u64.wrap ((v : Int) * 256) = (v : Int) * 256 := by rw [IntKind.wrap_u64]; omega
      have wy : IntKind.u64.wrap (y : Int) = (y : Int) := by rw [IntKind.wrap_u64]; omega
      have wa : IntKind.u64.wrap ((v : Int) * 256 + (y : Int)) = (v : Int) * 256 + (y : Int) := by rw [IntKind.wrap_u64]; omega
      go_wp2_with fail
      refine ⟨⟨j, v * 256 + y, q, (j : Int) - 1, by omega, rfl, rfl, Lib.hid rfl, Lib.hid ?_, Lib.hid rfl⟩, ?_⟩
      · rw [leN_drop hy.out, hv.out]
        omega
      · simp only [intOf]
        omega
end Go.Proofs.YtkjndgapejbgcaaDoor

namespace Go.Proofs.YtkjndgapejbgcaaDoor
open Go.RowKit
set_option linter.unusedSimpArgs false
set_option linter.unusedVariables false

def padK (x : List Nat) (k : Nat) : List Nat := x.take k ++ zeros (32 - k)
theorem padK_length (x : List Nat) {k : Nat} (h : k ≤ 32) (h2 : k ≤ x.length) : (padK x k).length = 32 := by
  simp [padK, zeros]; omega
theorem padK_set {x : List Nat} {k y : Nat} (hk : k < 32) (h : x[k]? = some y) : (u8s (padK x k)).toArray.setIfInBounds k (.int .u8 (y : Int)) = (u8s (padK x (k + 1))).toArray := by
  have hj := (List.getElem?_eq_some_iff.1 h).1
  have he := (List.getElem?_eq_some_iff.1 h).2
  rw [List.setIfInBounds_toArray]
  congr 1
  unfold padK zeros
  obtain ⟨m, hm⟩ : ∃ m, 32 - k = m + 1 := ⟨31 - k, by omega⟩
  rw [hm, show 32 - (k + 1) = m by omega, List.replicate_succ, List.take_succ_eq_append_getElem hj, he]
  unfold u8s
  have hmin : min k x.length = k := by omega
  rw [List.map_append, List.set_append_right _ _ (by rw [List.length_map, List.length_take, hmin]; exact Nat.le_refl _), List.length_map, List.length_take, hmin, Nat.sub_self]
  simp
def RKeyPost (w : World) (g : Nat) (A : Option Addr) (c : Nat) (l : List Nat) (r : Key32 × DSt) (e : Ending) (w' : World) : Prop :=
  e = .returned (.agg (encK r.1).toArray) ∧ RDecS w' g A c l r.2 ∧ w.grownBy w' (some g)
set_option maxRecDepth 20000 in
set_option maxHeartbeats 4000000 in
theorem keyr_any {w : World} {g c : Nat} {A : Option Addr} {l : List Nat} {s : DSt} (h : RDecS w g A c l s) (hl : l.length ≤ 70368744177664) :
    Calls Tryd.prog 94 #[.pointer (some ⟨g, 0, none⟩)] w (RKeyPost w g A c l (keyM l s)) := by
  have hzk := zeroKey
  have hi32 : (Tryd.prog.info? 28).map (·.size) = some 32 := by kernel_rfl
  have hi32' := Lib.hid hi32
  have h32' := Lib.hid (fun x : Key32 => show (encK x).toArray.size = 32 by simp [encK_length])
  have hl32 := Lib.hid (fun x : Key32 => encK_length x)
  have honk' := Lib.hid (fun x : Key32 => show (encK x).toArray.all (·.oneCell') = true from all_oneCell_toArray (encK_one x))
  have hgl := Lib.hid h.gl
  have hab := Lib.hid h.ab
  have hb : Below w.heap.size w ((w.alloc (.cells (encK zK).toArray 28)).alloc (.cells (encK zK).toArray 28)) := ((Below.refl _ _).alloc (Nat.le_refl _) _).alloc (by simp) _
  have h1 := Lib.hid (h.keep hb)
  have hw1 := Lib.hid (grown_below' (r := some g) hb)
  have hK1 : Hid (((w.alloc (.cells (encK zK).toArray 28)).alloc (.cells (encK zK).toArray 28)).heap[w.heap.size]? = some (.cells (encK zK).toArray 28 (0, 0))) := Lib.hid (heap_alloc2_old w _ _)
  have hK2 : Hid (((w.alloc (.cells (encK zK).toArray 28)).alloc (.cells (encK zK).toArray 28)).heap[w.heap.size + 1]? = some (.cells (encK zK).toArray 28 (0, 0))) := Lib.hid (heap_alloc2_new w _ _)
  have hs1 : Hid (((w.alloc (.cells (encK zK).toArray 28)).alloc (.cells (encK zK).toArray 28)).heap.size = w.heap.size + 2) := Lib.hid (by simp)
  obtain ⟨x, s1, hr⟩ : ∃ x s1, Hid (rawM l 32 s = (x, s1)) := ⟨_, _, Lib.hid rfl⟩
  have hkm : Hid (keyM l s = if h : x.length = 32 then (⟨x, h⟩, s1) else (zK, s1)) := Lib.hid (by
    have : ∀ (r : List Nat × DSt), r = (x, s1) → (if h : r.1.length = 32 then ((⟨r.1, h⟩ : Key32), r.2) else (zK, r.2)) = if h : x.length = 32 then (⟨x, h⟩, s1) else (zK, s1) := fun r hr => by subst hr; rfl
    exact this _ hr.out)
  have hxl : Hid (x.length = 32 ∨ x = []) := Lib.hid (by
    have h0 := hr.out
    unfold rawM at h0
    split at h0
    · simp only [Prod.mk.injEq] at h0; exact .inr h0.1.symm
    · split at h0
      · simp only [Prod.mk.injEq] at h0
        left
        rw [← h0.1, List.length_take, List.length_drop]
        omega
      · simp only [Prod.mk.injEq] at h0; exact .inr h0.1.symm)
  obtain ⟨RR, hRR⟩ : ∃ R, Hid (∀ _ : Unit, keyM l s = R) := ⟨_, Lib.hid fun _ => rfl⟩
  rw [hRR.out ()]
  obtain ⟨N, hN⟩ : ∃ N, Hid (∀ _ : Unit, x.length = N) := ⟨_, Lib.hid fun _ => rfl⟩
  have hN32 : N ≤ 32 := by
    have h2 := hN.out ()
    rcases hxl.out with h0 | h0
    · omega
    · rw [h0] at h2
      simp at h2
      omega
  have hX : Hid ((padK x N).length = 32) := Lib.hid (padK_length x hN32 (by rw [hN.out ()]; exact Nat.le_refl _))
  have hfin : Hid (keyM l s = (⟨padK x N, hX.out⟩, s1)) := Lib.hid (by
    rw [hkm.out]
    have h2 := hN.out ()
    rcases hxl.out with h0 | h0
    · rw [dif_pos h0]
      congr 1
      apply Subtype.ext
      simp only [padK]
      rw [← h2, h0, List.take_of_length_le (by omega)]
      simp [zeros]
    · subst h0
      rw [dif_neg (by decide)]
      congr 1
      apply Subtype.ext
      simp [padK, zK, ← h2])
  have hx256 := Lib.hid (rawM_lt h.lt 32 s)
  rw [hr.out] at hx256
  simp only at hx256
  clear h hb hi32
  have hA0 : Hid (∀ j, w.heap.size ≤ j → blockOf A ≠ some j) := Lib.hid fun j hj e => by have := hab.out _ e; omega
  go_enter Tryd.func94, Tryd.ntmps94
  go_wp2_with fail
  have hrw := Lib.hid (rawr_any h1.out 32 (by decide) hl)
  rw [hr.out] at hrw
  generalize ((w.alloc (.cells (encK zK).toArray 28)).alloc (.cells (encK zK).toArray 28)) = w1 at h1 hw1 hK1 hK2 hs1 hrw ⊢
  refine hrw.out.mono ?_
  rintro e w2 ⟨⟨A2, cc, rfl, ho⟩, h2, g2⟩
  simp only [hN.out ()] at ho ⊢
  have ho' := Lib.hid ho
  have h2' := Lib.hid h2
  have g2' := Lib.hid (hw1.out.trans g2)
  have hgS : g < w.heap.size := hgl.out
  have k1 := Lib.hid ((g2.block w.heap.size (by rw [hs1.out]; omega) (fun e => by injection e with e; omega)).trans hK1.out)
  have k2 := Lib.hid ((g2.block (w.heap.size + 1) (by rw [hs1.out]; omega) (fun e => by injection e with e; omega)).trans hK2.out)
  have hs2 : Hid (w.heap.size + 2 ≤ w2.heap.size) := Lib.hid (by have := g2.size; rw [hs1.out] at this; exact this)
  rw [hs1.out] at ho'
  clear ho h2 g2 hrw
  go_wp2_with fail
  go_loopw [5] (fun iv wr => ∃ k : Nat, k ≤ N ∧ iv = .int .i64 (k : Int) ∧ Hid (wr.heap[w.heap.size + 1]? = some (.cells (u8s (padK x k)).toArray 28 (0, 0)) ∧ w2.grownBy wr (some (w.heap.size + 1)))) (fun iv _ => N - (intOf iv).toNat)
  case atStart => exact ⟨0, Nat.zero_le _, rfl, Lib.hid ⟨k2.out, grown_drewN w2 0 _⟩⟩
  case round =>
    obtain ⟨k, hk, rfl, hR⟩ := hrel
    by_cases hlt : k < N
    · obtain ⟨y, hy⟩ : ∃ y, Hid (x[k]? = some y) := ⟨x[k]'(by rw [hN.out ()]; omega), Lib.hid (List.getElem?_eq_getElem _)⟩
      obtain ⟨b2, hA2⟩ := ho'.out.head (by omega)
      have hlb := ho'.out.lt b2 (by rw [hA2]; rfl)
      have hcel : wr.cell? ⟨b2, k, none⟩ = some (.int .u8 (y : Int)) := by
        have ho2 := ho'.out
        rw [hA2] at ho2
        have h0 : w2.cell? ⟨b2, k, none⟩ = some (.int .u8 (y : Int)) := by
          rw [ho2.cell k (by omega), u8s_get _ _ (by rw [hN.out ()]; omega), hy.out]
          rfl
        exact (World.cell?_of_block (hR.out.2.block b2 hlb.2 (fun e => by injection e with e; omega))).trans h0
      subst hA2
      have hpl := padK_length x (k := k) (by omega) (by rw [hN.out ()]; omega)
      have q2 : wr.cell? ⟨w.heap.size + 1, k, none⟩ = some (.int .u8 (((padK x k)[k]?.getD 0 : Nat) : Int)) := by
        rw [cell_of_row _ _ _ _ _ _ hR.out.1, List.getElem?_toArray]
        exact u8s_get _ k (by rw [hpl]; omega)
      obtain ⟨z, hz⟩ : ∃ z : Nat, Hid (∀ _ : Unit, (padK x k)[k]?.getD 0 = z) := ⟨_, Lib.hid fun _ => rfl⟩
      rw [hz.out ()] at q2
      have qf : wr.frozen? ⟨w.heap.size + 1, k, none⟩ = false := by simp [World.frozen?, hR.out.1]
      have hset := Lib.hid (padK_set (x := x) (k := k) (by omega) hy.out)
      have e1 : (k : Int) < (N : Int) := by omega
      have e2 : (0 : Int) ≤ (k : Int) := by omega
      have e3 : (k : Int) < 32 := by omega
      have wk : IntKind.i64.wrap ((k : Int) + 1) = (k : Int) + 1 := IntWalk.i64_in _ (by omega)
      clear hpl hlb
      go_wp2_with fail
      refine ⟨⟨k + 1, by omega, rfl, Lib.hid ⟨?_, hR.out.2.trans (grown_set _ _ _ _)⟩⟩, by simp only [intOf]; omega⟩
      rw [heap_setCell_same wr (w.heap.size + 1) k _ _ _ hR.out.1, hset.out]
    · obtain rfl : N = k := by omega
      have hS := hR.out.2
      have m1 := Lib.hid hR.out.1
      have m0 := Lib.hid ((hS.block w.heap.size (by have := hs2.out; omega) (fun e => by injection e with e; omega)).trans k1.out)
      have hpl := Lib.hid (show (u8s (padK x N)).length = 32 by have := hl32.out ⟨padK x N, hX.out⟩; exact this)
      have hps := Lib.hid (show (u8s (padK x N)).toArray.size = 32 by have := h32'.out ⟨padK x N, hX.out⟩; exact this)
      have hpo := Lib.hid (show (u8s (padK x N)).toArray.all (·.oneCell') = true from honk'.out ⟨padK x N, hX.out⟩)
      go_wp2_with (first
        | (refine wpList_load_row rfl 28 _ rfl (w.heap.size + 1) rfl 28 _ (0, 0) _ m1.out Tryd.underlying28 rfl (by rw [hps.out]; exact hi32'.out) ?_)
        | (refine wpList_store_row rfl 28 _ _ rfl w.heap.size (u8s (padK x N)).toArray rfl rfl 28 _ m0.out (by rw [hps.out]; exact hi32'.out) (by rw [hps.out, h32'.out]) hpo.out ?_))
      have hres := setRow_heap wr w.heap.size _ (u8s (padK x N)).toArray 28 _ m0.out
      refine bodyPost_ret (results_cell_row rfl _ _ w.heap.size 28 _ (0, 0) _ rfl hres Tryd.underlying28 rfl (by rw [hps.out]; exact hi32'.out)) rfl ?_
      rw [← hRR.out (), hfin.out]
      have hd1 := h2'.out.grown hS (fun e => by injection e with e; omega) (fun N hN => by injection hN with hN; subst hN; exact hA0.out _ (by omega))
      have hd2 := hd1.grown (grown_setRow wr w.heap.size (u8s (padK x N)).toArray) (fun e => by injection e with e; omega) (fun N hN => by injection hN with hN; subst hN; exact hA0.out _ (Nat.le_refl _))
      exact ⟨rfl, hd2, grown_new (grown_new g2'.out (by omega) hS) (Nat.le_refl _) (grown_setRow wr w.heap.size _)⟩
end Go.Proofs.YtkjndgapejbgcaaDoor

namespace Go.Proofs.YtkjndgapejbgcaaDoor
open Go.RowKit
set_option linter.unusedSimpArgs false
set_option linter.unusedVariables false

theorem buildRD (w : World) : (Instr.build 116 #[]).run Tryd.prog w = .ok (.agg #[.slice none 0 0, .int .i64 0, .bool false, .int .i64 0, .int .i64 0]) w := run_build w _ _ _ (by kernel_rfl)
def ROpenPost (w : World) (l : List Nat) (e : Ending) (w' : World) : Prop := (∃ g A c, e = .returned (.pointer (some ⟨g, 0, none⟩)) ∧ w.heap.size ≤ g ∧ RDecS w' g A c l (some 0) ∧ (∀ j, blockOf A = some j → w.heap.size ≤ j)) ∧ Below w.heap.size w w'
set_option maxHeartbeats 2000000 in
theorem ropen_any (w : World) (A0 : Option Addr) (l : List Nat) (n c : Nat) (hn : l.length = n) (hb : Byt w w.heap.size A0 l) (hs : n ≤ 70368744177664) (h256 : ∀ x ∈ l, x < 256) :
    Calls Tryd.prog 51 #[.slice A0 n c] w (ROpenPost w l) := by
  have hn' := Lib.hid hn
  have hb' := Lib.hid hb
  have h256' := Lib.hid h256
  have hs' := Lib.hid hs
  have hbd := Lib.hid buildRD
  have hN : Hid ((w.alloc (.cells #[.slice none 0 0, .int .i64 0, .bool false, .int .i64 0, .int .i64 0] 116)).heap[w.heap.size]? = some (.cells #[.slice none 0 0, .int .i64 0, .bool false, .int .i64 0, .int .i64 0] 116 (0, 0))) := Lib.hid (heap_alloc_new w _)
  have hba : Hid (Below w.heap.size w (w.alloc (.cells #[.slice none 0 0, .int .i64 0, .bool false, .int .i64 0, .int .i64 0] 116))) := Lib.hid ((Below.refl _ _).alloc (Nat.le_refl _) _)
  have hsz : Hid ((w.alloc (.cells #[.slice none 0 0, .int .i64 0, .bool false, .int .i64 0, .int .i64 0] 116)).heap.size = w.heap.size + 1) := Lib.hid (by simp)
  clear hn hb h256 hs
  go_enter Tryd.func51, Tryd.ntmps51
  go_wp2_with (first
    | (refine wpList_built rfl 116 _ #[] rfl (by simp) _ (hbd.out _) ?_)
    | (at_builtin
       refine wpList_appB elB _ rfl (.tmp 10) (.tmp 11) rfl rfl (show Own _ (w.heap.size + 1) _ 1 none 0 0 (u8s []) from Own.nil _ _ _ _) rfl hn'.out (hb'.out.below hba.out) (by have := hs'.out; omega) (by rw [hsz.out]; exact Nat.le_refl _) n (by omega) ?_
       intro A5 c5 w5 o5 _ hb5
       rw [List.nil_append] at o5
       have o6 := Lib.hid o5
       have hb6 := Lib.hid hb5
       have hN5 := Lib.hid ((hb5.block w.heap.size (by omega)).trans hN.out)
       clear o5 hb5
       have c0 : w5.cell? ⟨w.heap.size, 0, none⟩ = some (.slice none 0 0) := cell_of_row _ _ _ _ _ _ hN5.out
       have f0 : w5.frozen? ⟨w.heap.size, 0, none⟩ = false := by simp [World.frozen?, hN5.out]))
  go_ret
  have hs5 : w.heap.size + 1 ≤ w5.heap.size := by have := hb6.out.size; rw [hsz.out] at this; exact this
  have hset := heap_setCell_same w5 w.heap.size 0 _ _ (.slice A5 n c5) hN5.out
  have hgs := grown_set w5 w.heap.size 0 (.slice A5 n c5)
  have hlt := o6.out.lt
  refine ⟨⟨w.heap.size, A5, c5, rfl, Nat.le_refl _, ⟨0, 0, ?_, ?_, ?_, Nat.zero_le _, ?_, h256'.out, ?_⟩, fun j hj => by have := (hlt j hj).1; omega⟩, (hba.out.trans (hb6.out.mono (by omega))).trans (grown_below hgs (by omega) (fun k e => by injection e with e; omega))⟩
  · rw [hset, hn'.out]
    rfl
  · exact o6.out.byt.far hgs (fun e => by have := (hlt _ e).1; omega)
  · exact fun e => by have := (hlt _ e).1; omega
  · rw [hn'.out]
    exact ⟨o6.out.le.1, by have := hs'.out; omega⟩
  · intro j hj
    have := (hlt j hj).2
    simpa using this
end Go.Proofs.YtkjndgapejbgcaaDoor

namespace Go.Proofs.YtkjndgapejbgcaaDoor
open Go.RowKit

/-- What the document's read makes of bytes. -/
def rreadM (l : List Nat) (s : DSt) : ObjT × DSt :=
  let k := fixM l 1 s
  if k.1 = 1 then ({ oZ with kind := 1, data := (rawM l (leftM l.length k.2) k.2).1 }, (rawM l (leftM l.length k.2) k.2).2)
  else if k.1 = 2 then
    let n := varM l 128 k.2
    ({ oZ with kind := 2, parts := (loopM (partM l) n.1 n.2).1 }, (loopM (partM l) n.1 n.2).2)
  else if k.1 = 3 then
    let n := varM l 128 k.2
    ({ oZ with kind := 3, items := (loopM (itemM l) n.1 n.2).1 }, (loopM (itemM l) n.1 n.2).2)
  else if k.1 = 4 then
    let t := keyM l k.2
    let n := varM l 128 t.2
    let ks := loopM (keyM l) n.1 n.2
    let m := fixM l 8 ks.2
    let x := textM l 1024 m.2
    ({ oZ with kind := 4, tree := t.1, parents := ks.1, time := signed64 m.1, note := strB x.1 }, x.2)
  else ({ oZ with kind := k.1 }, k.2)
end Go.Proofs.YtkjndgapejbgcaaDoor

namespace Go.Proofs.YtkjndgapejbgcaaDoor
open Go.RowKit
set_option linter.unusedSimpArgs false
set_option linter.unusedVariables false

theorem RDecB.keepB {w w' : World} {g c k : Nat} {A : Option Addr} {l : List Nat} {st : Bool} {x y : Int} (h : RDecB w g A c l k st x y) {B : Nat} (hb : Below B w w') (hg : g < B) (hA : ∀ j, blockOf A = some j → j < B) : RDecB w' g A c l k st x y := by
  refine ⟨(hb.block g hg).trans h.blk, fun hn => ?_, h.off, h.le, h.cap, h.lt, fun j hj => Nat.lt_of_lt_of_le (h.ab j hj) hb.size⟩
  obtain ⟨b, off, e, hlt, hc⟩ := h.byt hn
  have hbB : b < B := hA b (by rw [e]; rfl)
  exact ⟨b, off, e, Nat.lt_of_lt_of_le hlt hb.size, fun j hj => (World.cell?_of_block (hb.block b hbB)).trans (hc j hj)⟩
theorem RDecS.keepB {w w' : World} {g c : Nat} {A : Option Addr} {l : List Nat} {s : DSt} (h : RDecS w g A c l s) {B : Nat} (hb : Below B w w') (hg : g < B) (hA : ∀ j, blockOf A = some j → j < B) : RDecS w' g A c l s := by
  cases s with
  | some k => obtain ⟨x, y, h⟩ := h; exact ⟨x, y, h.keepB hb hg hA⟩
  | none => obtain ⟨k, x, y, h, hy⟩ := h; exact ⟨k, x, y, h.keepB hb hg hA, hy⟩

structure RRdS (w w2 : World) (g h : Nat) (A : Option Addr) (c : Nat) (l : List Nat) (s : DSt) (o : ObjT) (p : Lay) : Prop where
  dec : RDecS w2 g A c l s
  gr : Gr2 w w2 g h
  ob : OBlk w2 h o p
  ne : g ≠ h
  hA : ∀ j, blockOf A = some j → j < w.heap.size ∧ j ≠ h
  gl : g < w.heap.size
  hl : h < w.heap.size
section
variable {w w2 w3 : World} {g h c : Nat} {A : Option Addr} {l : List Nat} {s s' : DSt} {o o' : ObjT} {p p' : Lay}
theorem RRdS.start (hd : RDecS w g A c l s) (ho : OBlk w h o p) (ne : g ≠ h) (hA : ∀ j, blockOf A = some j → j < w.heap.size ∧ j ≠ h) : RRdS w w g h A c l s o p :=
  ⟨hd, ⟨rfl, rfl, rfl, Nat.le_refl _, fun _ _ _ _ => rfl⟩, ho, ne, hA, hd.gl, lt_of_block ho⟩
theorem RRdS.call (hr : RRdS w w2 g h A c l s o p) (hd : RDecS w3 g A c l s') (hg : w2.grownBy w3 (some g)) : RRdS w w3 g h A c l s' o p :=
  ⟨hd, ⟨hg.os.trans hr.gr.os, hg.tape.trans hr.gr.tape, hg.output.trans hr.gr.output, Nat.le_trans hr.gr.size hg.size, fun k hk h1 h2 => (hg.block k (Nat.lt_of_lt_of_le hk hr.gr.size) (fun e => h1 (by injection e))).trans (hr.gr.block k hk h1 h2)⟩,
   (hg.block h (lt_of_block hr.ob) (fun e => hr.ne (by injection e with e; exact e.symm))).trans hr.ob, hr.ne, hr.hA, hr.gl, hr.hl⟩
theorem RRdS.set (hr : RRdS w w2 g h A c l s o p) (hg : w2.grownBy w3 (some h)) (ho : OBlk w3 h o' p') : RRdS w w3 g h A c l s o' p' :=
  ⟨hr.dec.grown hg (fun e => by injection e with e; exact hr.ne e.symm) (fun N hN => by injection hN with hN; subst hN; exact fun e => (hr.hA _ e).2 rfl),
   ⟨hg.os.trans hr.gr.os, hg.tape.trans hr.gr.tape, hg.output.trans hr.gr.output, Nat.le_trans hr.gr.size hg.size, fun k hk h1 h2 => (hg.block k (Nat.lt_of_lt_of_le hk hr.gr.size) (fun e => h2 (by injection e))).trans (hr.gr.block k hk h1 h2)⟩,
   ho, hr.ne, hr.hA, hr.gl, hr.hl⟩
theorem RRdS.below (hr : RRdS w w2 g h A c l s o p) (hb : Below w.heap.size w2 w3) : RRdS w w3 g h A c l s o p :=
  ⟨hr.dec.keepB hb hr.gl (fun j hj => (hr.hA j hj).1), ⟨hb.os.trans hr.gr.os, hb.tape.trans hr.gr.tape, hb.output.trans hr.gr.output, Nat.le_trans hr.gr.size hb.size, fun k hk h1 h2 => (hb.block k hk).trans (hr.gr.block k hk h1 h2)⟩,
   (hb.block h hr.hl).trans hr.ob, hr.ne, hr.hA, hr.gl, hr.hl⟩
theorem RRdS.drewN (hr : RRdS w w2 g h A c l s o p) (n : Nat) : RRdS w (w2.drewN n) g h A c l s o p := hr.below (below_drewN (Below.refl _ _) n)
end
end Go.Proofs.YtkjndgapejbgcaaDoor

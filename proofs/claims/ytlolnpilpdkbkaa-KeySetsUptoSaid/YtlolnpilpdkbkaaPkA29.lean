/- Short, at a set that may be nil. (Printed by tools/gensko.py out of KyM.) -/
import Derived.Test.YtlolnpilpdkbkaaPkA25

namespace Go.Proofs.Ytlolnpilpdkbkaa
open Go.RowKit Go.Maps Go.Shelf
set_option linter.unusedSimpArgs false
set_option linter.unusedVariables false
attribute [local go_sem] Oper.semAt_some

set_option maxRecDepth 100000 in
set_option maxHeartbeats 4000000 in
theorem shortO_any (w : World) (o : Option (Nat × Nat)) (ks : List (List Nat)) (h : SetO w o ks) (hl : ks.length ≤ 4194304) (x : List Nat) (hx : IsK x) :
    Calls Try.prog 18 #[pv o, .agg (u8s x).toArray] w (ShortP w x ks) := by
  have hi32 : Hid ((Try.prog.info? 25).map (·.size) = some 32) := Lib.hid (by kernel_rfl)
  have hxs : Hid ((u8s x).toArray.size = 32) := Lib.hid (by simp [u8s, hx.1])
  have hz := zeroKy
  have hzs : Hid ((u8s (zeros 32)).toArray.size = 32) := Lib.hid (by simp [u8s, zeros])
  obtain ⟨w1, hw1⟩ : ∃ w1, w.alloc (.cells (u8s x).toArray 25) = w1 := ⟨_, rfl⟩
  have hB1 : Hid (Below w.heap.size w w1) := Lib.hid (by rw [← hw1]; exact (Below.refl _ _).alloc (Nat.le_refl _) _)
  have hk1 : Hid (w1.heap[w.heap.size]? = some (.cells (u8s x).toArray 25 (0, 0))) := Lib.hid (by rw [← hw1]; exact heap_alloc_new w _)
  have hr := Lib.hid h.rise
  have hset := Lib.hid h
  have hH := Lib.hid (hasO_any w1 o ks (h.below hB1.out) x hx)
  have hx' := Lib.hid hx
  have hw1' := Lib.hid hw1
  clear h hw1 hx
  by_cases hmem : ¬ x ∈ ks
  · have hH2 : Hid (Calls Try.prog 16 #[pv o, .agg (u8s x).toArray] w1 fun e w' => e = .returned (.bool false) ∧ Below w1.heap.size w1 w') := Lib.hid (by
      have := hH.out
      rwa [decide_eq_false hmem] at this)
    have hres : Hid (∀ w', Below w.heap.size w w' → ShortP w x ks (.returned (.tuple #[.string ⟨#[]⟩, .int .i64 31])) w') := Lib.hid fun w' hb => ⟨by rw [if_neg hmem], hb⟩
    clear hH hmem
    go_enter Try.func18, Try.ntmps18
    go_wp2_with (first
      | (rw [hw1'.out])
      | (refine wpList_load_row rfl 25 _ rfl w.heap.size rfl 25 (u8s x).toArray (0, 0) _ hk1.out Try.underlying25 rfl (by rw [hxs.out]; exact hi32.out) ?_)
      | (go_at_call 16; refine hH2.out.mono ?_; rintro e wh ⟨rfl, hbh⟩; have hbh' := Lib.hid hbh; clear hbh hH2))
    go_ret2
    exact hres.out _ (hB1.out.trans (hbh'.out.mono hB1.out.size))
  have hmem := Classical.not_not.1 hmem
  have hH2 : Hid (Calls Try.prog 16 #[pv o, .agg (u8s x).toArray] w1 fun e w' => e = .returned (.bool true) ∧ Below w1.heap.size w1 w') := Lib.hid (by
    have := hH.out
    rwa [decide_eq_true hmem] at this)
  obtain ⟨own, hown⟩ : ∃ own : ByteArray, (⟨(hexL x).toArray⟩ : ByteArray) = own := ⟨_, rfl⟩
  have hHx : Hid (∀ W, Calls Try.prog 7 #[.agg (u8s x).toArray] W fun e w' => e = .returned (.string own) ∧ Below W.heap.size W w') := Lib.hid fun W => by
    rw [← hown]
    exact hex_any x W hx'.out.1 hx'.out.2
  have hq : ∀ (g : Nat) (w : World), (binOp .eql 64 (.func (.func 53) #[] #[.pointer (some ⟨g, 0, none⟩)]) .nilFunc).run Try.prog w = .ok (.bool false) w := fun _ _ => by kernel_rfl
  have hown' := Lib.hid hown
  have hmem' := Lib.hid hmem
  clear hH hmem hown
  refine calls_marks Try.func18 rfl ?_
  simp only [Try.ntmps18, List.size_toArray, List.length_cons, List.length_nil, Nat.reduceAdd, Nat.reduceSub, Array.replicate_succ, Array.replicate_zero, List.push_toArray, List.append_toArray, List.nil_append, List.cons_append]
  go_wp2_with (first
    | (rw [hw1'.out])
    | (refine wpList_load_row rfl 25 _ rfl w.heap.size rfl 25 (u8s x).toArray (0, 0) _ hk1.out Try.underlying25 rfl (by rw [hxs.out]; exact hi32.out) ?_)
    | (refine wpList_load_row rfl 25 _ rfl w.heap.size rfl 25 (u8s x).toArray (0, 0) _ hkh.out Try.underlying25 rfl (by rw [hxs.out]; exact hi32.out) ?_)
    | (go_at_call 16; refine hH2.out.mono ?_; rintro e wh ⟨rfl, hbh⟩
       have hbh' := Lib.hid (hB1.out.trans (hbh.mono hB1.out.size))
       have hkh := Lib.hid ((hbh.block _ (Array.getElem?_eq_some_iff.1 hk1.out).1).trans hk1.out)
       clear hbh hH2)
    | (go_at_call 7; refine (hHx.out _).mono ?_; rintro e wx ⟨rfl, hbx⟩
       have hbx' := Lib.hid (hbh'.out.trans (hbx.mono hbh'.out.size))
       have hkx := Lib.hid ((hbx.block _ (Array.getElem?_eq_some_iff.1 hkh.out).1).trans hkh.out)
       clear hbx)
    | (obtain ⟨w5, hw5⟩ : ∃ w5, wx.alloc (.cells #[.string own] 9) = w5 := ⟨_, rfl⟩
       obtain ⟨w6, hw6⟩ : ∃ w6, w5.alloc (.cells #[.int .i64 4] 3) = w6 := ⟨_, rfl⟩
       have hg7 : wx.heap.size + 1 = w5.heap.size := by rw [← hw5]; simp
       have hB5 : Hid (Below w.heap.size w w5) := Lib.hid (by rw [← hw5]; exact hbx'.out.alloc hbx'.out.size _)
       have hB6 : Hid (Below w5.heap.size w5 w6) := Lib.hid (by rw [← hw6]; exact (Below.refl _ _).alloc (Nat.le_refl _) _)
       have hk5 : Hid (w5.heap[w.heap.size]? = some (.cells (u8s x).toArray 25 (0, 0))) := Lib.hid (by rw [← hw5, heap_alloc_old _ _ (Array.getElem?_eq_some_iff.1 hkx.out).1]; exact hkx.out)
       have ho5 : Hid (w5.heap[wx.heap.size]? = some (.cells #[.string own] 9 (0, 0))) := Lib.hid (by rw [← hw5]; exact heap_alloc_new wx _)
       have hI0 : Hid (ShI w5 w5.heap.size 4 w6) := Lib.hid (by
         have hx : w6.heap[w5.heap.size]? = some (.cells #[.int .i64 4] 3 (0, 0)) := by rw [← hw6]; exact heap_alloc_new w5 _
         exact ⟨by simp [World.cell?, hx], by simp [World.frozen?, hx], (Array.getElem?_eq_some_iff.1 hx).1, Nat.le_refl _, hB6.out⟩)
       have hA := Lib.hid (allO_any w6 o ks ((hset.out.below hB5.out).below hB6.out) (by omega))
       rw [hw5, hw6, hg7]
       clear hw5 hw6 hg7
       go_at_call 26; refine hA.out.mono ?_; rintro e va ⟨gI, AI, cI, rfl, hat, hbl, hlg, hlA⟩
       have hat' := Lib.hid hat; have hbl' := Lib.hid hbl; have hlg' := Lib.hid hlg; have hlA' := Lib.hid hlA; clear hat hbl hlg hlA))
  have hI1 : Hid (ShI w5 w5.heap.size 4 va) := Lib.hid (hI0.out.keep hbl'.out)
  have hszD : Hid (w5.heap.size ≤ va.heap.size) := Lib.hid hI1.out.2.2.2.2.size
  have hgw : Hid (w5.heap.size < w6.heap.size) := Lib.hid hI0.out.2.2.1
  clear hkh hbh' hkx hbx' hk1 hB1 hA hI0 hw1'
  generalize wx.heap.size = g6 at ho5 ⊢
  refine wp_rangeFunc (gf := 53) (lb := #[.pointer (some ⟨gI, 0, none⟩)]) rfl (enters_of Try.func53 (by kernel_rfl) rfl) (encs := fun x : List Nat => #[Value.agg (u8s x).toArray]) (fun _ => rfl) (G := KyG ks) (fun h => h.2)
    (allK_seq va gI cI AI ks (fun j => j = gI ∨ blockOf AI = some j) hat'.out hr.out (by omega) (Or.inl rfl) (fun j hj => Or.inr hj) (fun j hj => by rcases hj with rfl | hj; exact hat'.out.lts.1; exact hat'.out.lts.2 j hj)) (Mid.refl _ _) (fun j hj => by rcases hj with rfl | hj; exact hat'.out.lts.1; exact hat'.out.lts.2 j hj)
    (fun pre W => ShI w5 w5.heap.size (shortN x pre) W) (fun _ _ _ => False) ?_ (fun _ _ _ _ h _ => h) ?_ hI1.out ?_ ?_ (fun _ _ _ _ _ _ h _ => h.elim)
  · rintro pre W W' h hp
    exact h.puts hp hszD.out
  · rintro pre W W' h hb
    exact h.keep hb
  · rintro lp pre y W0 W1 hlp hw0 hlt ⟨hpre, hbel⟩
    have hym : y ∈ ks := hpre.subset (by simp)
    have hyk : IsK y := hr.out.ok y hym
    have hyk' := Lib.hid hyk
    have hprek : Hid (∀ z ∈ pre, IsK z) := Lib.hid fun z hz => hr.out.ok z (hpre.subset (by simp [hz]))
    have hw1 := Lib.hid (hw0.keep hbel)
    have hys : Hid ((u8s y).toArray.size = 32) := Lib.hid (by simp [u8s, hyk.1])
    have hkn := key_new W1 y
    have hkc := Lib.hid hkn.1
    have hbn := Lib.hid hkn.2
    have hw2 := Lib.hid (hw1.out.keep hbn.out)
    have hok1 : Hid (∀ j, (j = gI ∨ blockOf AI = some j) → j < W1.heap.size ∧ j ≠ w5.heap.size ∧ j < va.heap.size) := Lib.hid fun j hj => by
      have h1 : j < va.heap.size ∧ w6.heap.size ≤ j := by
        rcases hj with rfl | hj
        · exact ⟨hat'.out.lts.1, hlg'.out⟩
        · exact ⟨hat'.out.lts.2 j hj, hlA'.out j hj⟩
      have h2 := hbel.size
      have h3 := hgw.out
      exact ⟨by omega, by omega, by omega⟩
    clear hym hyk hkn hw0 hpre hbel hlt
    gi_wp2_with (refine wpListIn_store_row (by rfl) 25 _ _ rfl W1.heap.size (u8s y).toArray rfl rfl 25 _ (heap_alloc_new W1 _) (by rw [hys.out]; exact hi32.out) (by rw [hys.out, hzs.out]) (all_oneCell_toArray u8s_one) ?_)
    obtain ⟨W2, hW2⟩ : ∃ W2, (W1.alloc (.cells (u8s (zeros 32)).toArray 25)).setRow W1.heap.size (u8s y).toArray = W2 := ⟨_, rfl⟩
    rw [hW2] at hkc hbn hw2 ⊢
    clear hW2
    refine ⟨keepsFrom_below hbn.out, fun W3 hp => ?_⟩
    have hw3 := Lib.hid (hw2.out.puts hp hszD.out)
    have hk3 := Lib.hid (hp.cells _ _ _ _ hkc.out)
    have m3 : Hid (Mid (fun j => j = gI ∨ blockOf AI = some j) W1 W3) := Lib.hid ((Mid.of_below hbn.out (fun j hj => (hok1.out j hj).1)).trans (Mid.of_below hp.bel (fun j hj => by rcases hj with rfl | hj; exact hat'.out.lts.1; exact hat'.out.lts.2 j hj)))
    have hb53 : Hid (Below w5.heap.size w5 W3) := Lib.hid hw3.out.2.2.2.2
    have hkx3 : Hid (W3.heap[w.heap.size]? = some (.cells (u8s x).toArray 25 (0, 0))) := Lib.hid ((hb53.out.block _ (Array.getElem?_eq_some_iff.1 hk5.out).1).trans hk5.out)
    have ho3 : Hid (W3.heap[g6]? = some (.cells #[.string own] 9 (0, 0))) := Lib.hid ((hb53.out.block _ (Array.getElem?_eq_some_iff.1 ho5.out).1).trans ho5.out)
    clear hp hw2 hw1 hbn hkc
    obtain ⟨gk, hgk⟩ : ∃ gk, W1.heap.size = gk := ⟨_, rfl⟩
    rw [hgk] at hk3 ⊢
    clear hgk
    have hqe : Hid (∀ W, (binOp .eql 25 (.agg (u8s y).toArray) (.agg (u8s x).toArray)).run Try.prog W = .ok (.bool (decide (y = x))) W) := Lib.hid fun W => eqK hyk'.out.1 hx'.out.1 W
    by_cases hyx : y = x
    · have hqe2 : ∀ W, (binOp .eql 25 (.agg (u8s y).toArray) (.agg (u8s x).toArray)).run Try.prog W = .ok (.bool true) W := fun W => by
        rw [hqe.out W, decide_eq_true hyx]
      have hsn : Hid (shortN x (pre ++ [y]) = shortN x pre) := Lib.hid (by rw [shortN_snoc, if_pos hyx])
      clear hqe hyx
      gi_wp2_with (first
        | (refine wpListIn_load_row (by rfl) 25 _ rfl gk rfl 25 (u8s y).toArray (0, 0) _ hk3.out Try.underlying25 rfl (by rw [hys.out]; exact hi32.out) ?_)
        | (refine wpListIn_load_row (by rfl) 25 _ rfl w.heap.size rfl 25 (u8s x).toArray (0, 0) _ hkx3.out Try.underlying25 rfl (by rw [hxs.out]; exact hi32.out) ?_))
      exact ⟨keepsFrom_below (Below.refl _ _), m3.out, by show ShI _ _ (shortN _ _) _; rw [hsn.out]; exact hw3.out⟩
    · have hqe2 : ∀ W, (binOp .eql 25 (.agg (u8s y).toArray) (.agg (u8s x).toArray)).run Try.prog W = .ok (.bool false) W := fun W => by
        rw [hqe.out W, decide_eq_false hyx]
      obtain ⟨N, hN⟩ : ∃ N, shortN x pre = N := ⟨_, rfl⟩
      obtain ⟨d, hd⟩ : ∃ d, cpl (hexL y) (hexL x) = d := ⟨_, rfl⟩
      have hN4 : Hid (N ≤ 64) := Lib.hid (by rw [← hN]; exact shortN_le hx'.out hprek.out)
      have hsn : Hid (shortN x (pre ++ [y]) = max N (d + 1)) := Lib.hid (by rw [shortN_snoc, if_neg hyx, hN, hd])
      have hle : (hexL y).length = (hexL x).length := by rw [hexL_length, hexL_length, hyk'.out.1, hx'.out.1]
      have hne : hexL y ≠ hexL x := fun e => hyx (hexL_inj hyk'.out.2 hx'.out.2 e)
      have hd64 : Hid (d < 64) := Lib.hid (by
        have := cpl_lt hle hne
        rw [hexL_length, hyk'.out.1, hd] at this
        exact this)
      rw [hN] at hw3
      obtain ⟨oth, hoth⟩ : ∃ oth : ByteArray, (⟨(hexL y).toArray⟩ : ByteArray) = oth := ⟨_, rfl⟩
      have hHy : Hid (Calls Try.prog 7 #[.agg (u8s y).toArray] W3 fun e w' => e = .returned (.string oth) ∧ Below W3.heap.size W3 w') := Lib.hid (by
        rw [← hoth]
        exact hex_any y W3 hyk'.out.1 hyk'.out.2)
      have hsz1 : Hid (oth.size = 64) := Lib.hid (by rw [← hoth, Lib.size_eq]; simp [hexL_length, hyk'.out.1])
      have hsz2 : Hid (own.size = 64) := Lib.hid (by rw [← hown'.out, Lib.size_eq]; simp [hexL_length, hx'.out.1])
      have hsame : Hid (∀ k (h1 : k < oth.size) (h2 : k < own.size), k < d → oth[k] = own[k]) := Lib.hid fun k h1 h2 hk => by
        obtain ⟨c, e1, e2⟩ := cpl_get (a := hexL y) (b := hexL x) (i := k) (by omega)
        have e3 := at_get h1
        have e4 := at_get h2
        have o1 : oth.data.toList = hexL y := by rw [← hoth]
        have o2 : own.data.toList = hexL x := by rw [← hown'.out]
        rw [o1, e1] at e3
        rw [o2, e2] at e4
        exact (Option.some.inj e3).symm.trans (Option.some.inj e4)
      have hdiff : Hid (∀ (h1 : d < oth.size) (h2 : d < own.size), oth[d] ≠ own[d]) := Lib.hid fun h1 h2 => by
        obtain ⟨c, c', e1, e2, e5⟩ := cpl_ne hle hne
        rw [hd] at e1 e2
        have e3 := at_get h1
        have e4 := at_get h2
        have o1 : oth.data.toList = hexL y := by rw [← hoth]
        have o2 : own.data.toList = hexL x := by rw [← hown'.out]
        rw [o1, e1] at e3
        rw [o2, e2] at e4
        rw [← Option.some.inj e3, ← Option.some.inj e4]
        exact e5
      clear hqe hyx hN hd hle hne hoth
      gi_wp2_with (first
        | (refine wpListIn_load_row (by rfl) 25 _ rfl gk rfl 25 (u8s y).toArray (0, 0) _ hk3.out Try.underlying25 rfl (by rw [hys.out]; exact hi32.out) ?_)
        | (refine wpListIn_load_row (by rfl) 25 _ rfl w.heap.size rfl 25 (u8s x).toArray (0, 0) _ hkx3.out Try.underlying25 rfl (by rw [hxs.out]; exact hi32.out) ?_)
        | (refine ⟨trivial, rfl, ?_⟩; refine (callsIn_wide.2 hHy.out).mono ?_; rintro e W4 ⟨rfl, b4⟩; have b4' := Lib.hid b4; clear b4 hHy))
      have hw4 := Lib.hid (hw3.out.keep b4'.out)
      have ho4 := Lib.hid ((b4'.out.block _ (Array.getElem?_eq_some_iff.1 ho3.out).1).trans ho3.out)
      have hc4 : Hid (W4.cell? ⟨g6, 0, none⟩ = some (.string own)) := Lib.hid (by simp [World.cell?, ho4.out])
      clear hw3 ho3 hkx3 hk3 hqe2
      gi_loopw [9] (fun i wr => ∃ k : Nat, Hid (k ≤ d) ∧ i = .int .i64 (k : Int) ∧ Hid (Below W4.heap.size W4 wr)) (fun i _ => d - (intOf i).toNat)
      case atStart => exact ⟨0, Lib.hid (Nat.zero_le _), rfl, Lib.hid (Below.refl _ _)⟩
      case round =>
        obtain ⟨k, hkd, rfl, hbr⟩ := hrel
        have hk1 : k < oth.size := by have h1 := hkd.out; have h2 := hd64.out; have h3 := hsz1.out; omega
        have hk2 : k < own.size := by have h1 := hkd.out; have h2 := hd64.out; have h3 := hsz2.out; omega
        have hoc := (hbr.out.cell (p := ⟨g6, 0, none⟩) (Array.getElem?_eq_some_iff.1 ho4.out).1).trans hc4.out
        by_cases hkd2 : k < d
        · have e := hsame.out k hk1 hk2 hkd2
          gi_wp2_with fail
          refine wpIn_region_calm (S := fun W => W.cell? ⟨g6, 0, none⟩ = some (.string own)) (by kernel_rfl) (by
            intro i o ho c hc
            rcases i with _ | _ | _ | _ | _ | _ | _ | i <;> simp at ho
            all_goals (subst ho; simp at hc)) ?_
          change wpAnyH _ _ _ _ _ _ _ _ (World.drew _)
          refine tk (i := 0) (d := 25) (v := .string oth) rfl rfl (Or.inl ⟨by rfl, by intro W hW; clear hW; go_simp⟩) hoc (hQ := calm_panic) ?_
          simp only [List.setIfInBounds_toArray, List.set_cons_zero, List.set_cons_succ]
          refine tk (i := 1) (d := 26) (v := .int .i64 (k : Int)) rfl rfl (Or.inl ⟨by rfl, by intro W hW; clear hW; go_simp⟩) hoc (hQ := calm_panic) ?_
          simp only [List.setIfInBounds_toArray, List.set_cons_zero, List.set_cons_succ]
          refine tk (i := 2) (d := 27) (v := .int .u8 ((oth[k].toNat : Nat) : Int)) rfl rfl (Or.inl ⟨by rfl, by intro W hW; clear hW; go_simp⟩) hoc (hQ := calm_panic) ?_
          simp only [List.setIfInBounds_toArray, List.set_cons_zero, List.set_cons_succ]
          refine tk (i := 3) (d := 28) (v := .string own) rfl rfl (Or.inl ⟨by rfl, by intro W hW; have c := hW; clear hW; go_simp⟩) hoc (hQ := calm_panic) ?_
          simp only [List.setIfInBounds_toArray, List.set_cons_zero, List.set_cons_succ]
          refine tk (i := 4) (d := 29) (v := .int .i64 (k : Int)) rfl rfl (Or.inl ⟨by rfl, by intro W hW; clear hW; go_simp⟩) hoc (hQ := calm_panic) ?_
          simp only [List.setIfInBounds_toArray, List.set_cons_zero, List.set_cons_succ]
          refine tk (i := 5) (d := 30) (v := .int .u8 ((own[k].toNat : Nat) : Int)) rfl rfl (Or.inl ⟨by rfl, by intro W hW; clear hW; go_simp⟩) hoc (hQ := calm_panic) ?_
          simp only [List.setIfInBounds_toArray, List.set_cons_zero, List.set_cons_succ]
          refine tk (i := 6) (d := 31) (v := .bool true) rfl rfl (Or.inl ⟨by rfl, by intro W hW; clear hW; go_simp⟩) hoc (hQ := calm_panic) ?_
          simp only [List.setIfInBounds_toArray, List.set_cons_zero, List.set_cons_succ]
          refine wpAnyH_done (by kernel_rfl) ?_ _
          refine ⟨rfl, ?_⟩
          gi_wp2_with fail
          have hwr : wrap64 ((k : Int) + 1) = ((k + 1 : Nat) : Int) := by
            have h2 := hd64.out
            unfold wrap64
            omega
          rw [hwr]
          exact ⟨⟨k + 1, Lib.hid (by omega), rfl, Lib.hid (below_drewN hbr.out 1)⟩, by show d - (((k + 1 : Nat) : Int)).toNat < d - ((k : Nat) : Int).toNat; rw [Int.toNat_natCast, Int.toNat_natCast]; omega⟩
        · have hkeq : k = d := by have := hkd.out; omega
          subst hkeq
          have e0 := hdiff.out hk1 hk2
          have e : ¬ ((oth[k].toNat : Nat) : Int) = ((own[k].toNat : Nat) : Int) := fun h => e0 (UInt8.toNat_inj.1 (by omega))
          have hbr' : Hid (Below W4.heap.size W4 wr.drew) := Lib.hid (below_drewN hbr.out 1)
          have hw6 := Lib.hid (hw4.out.keep hbr'.out)
          have c7 := hw6.out.1
          have f7 := hw6.out.2.1
          have hN9 := hN4.out
          clear e0 hkd2
          gi_wp2_with fail
          refine wpIn_region_calm (S := fun W => W.cell? ⟨g6, 0, none⟩ = some (.string own)) (by kernel_rfl) (by
            intro i o ho c hc
            rcases i with _ | _ | _ | _ | _ | _ | _ | i <;> simp at ho
            all_goals (subst ho; simp at hc)) ?_
          change wpAnyH _ _ _ _ _ _ _ _ (World.drew _)
          refine tk (i := 0) (d := 25) (v := .string oth) rfl rfl (Or.inl ⟨by rfl, by intro W hW; clear hW; go_simp⟩) hoc (hQ := calm_panic) ?_
          simp only [List.setIfInBounds_toArray, List.set_cons_zero, List.set_cons_succ]
          refine tk (i := 1) (d := 26) (v := .int .i64 (k : Int)) rfl rfl (Or.inl ⟨by rfl, by intro W hW; clear hW; go_simp⟩) hoc (hQ := calm_panic) ?_
          simp only [List.setIfInBounds_toArray, List.set_cons_zero, List.set_cons_succ]
          refine tk (i := 2) (d := 27) (v := .int .u8 ((oth[k].toNat : Nat) : Int)) rfl rfl (Or.inl ⟨by rfl, by intro W hW; clear hW; go_simp⟩) hoc (hQ := calm_panic) ?_
          simp only [List.setIfInBounds_toArray, List.set_cons_zero, List.set_cons_succ]
          refine tk (i := 3) (d := 28) (v := .string own) rfl rfl (Or.inl ⟨by rfl, by intro W hW; have c := hW; clear hW; go_simp⟩) hoc (hQ := calm_panic) ?_
          simp only [List.setIfInBounds_toArray, List.set_cons_zero, List.set_cons_succ]
          refine tk (i := 4) (d := 29) (v := .int .i64 (k : Int)) rfl rfl (Or.inl ⟨by rfl, by intro W hW; clear hW; go_simp⟩) hoc (hQ := calm_panic) ?_
          simp only [List.setIfInBounds_toArray, List.set_cons_zero, List.set_cons_succ]
          refine tk (i := 5) (d := 30) (v := .int .u8 ((own[k].toNat : Nat) : Int)) rfl rfl (Or.inl ⟨by rfl, by intro W hW; clear hW; go_simp⟩) hoc (hQ := calm_panic) ?_
          simp only [List.setIfInBounds_toArray, List.set_cons_zero, List.set_cons_succ]
          refine tk (i := 6) (d := 31) (v := .bool false) rfl rfl (Or.inl ⟨by rfl, by intro W hW; clear hW; go_simp⟩) hoc (hQ := calm_panic) ?_
          simp only [List.setIfInBounds_toArray, List.set_cons_zero, List.set_cons_succ]
          refine wpAnyH_done (by kernel_rfl) ?_ _
          refine ⟨rfl, ?_⟩
          clear hoc
          gi_wp2_with fail
          have hwr : wrap64 ((k : Int) + 1) = ((k + 1 : Nat) : Int) := by
            have h2 := hd64.out
            unfold wrap64
            omega
          have hmx : max (N : Int) (((k + 1 : Nat) : Int)) = ((max N (k + 1) : Nat) : Int) := by omega
          rw [hwr, hmx]
          have hw7 := (hw4.out.keep hbr.out).set (max N (k + 1))
          have hbw : Below W3.heap.size W3 wr := b4'.out.trans (hbr.out.mono b4'.out.size)
          have hm7 : Mid (fun j => j = gI ∨ blockOf AI = some j) W1 (wr.setCell ⟨w5.heap.size, 0, none⟩ (.int .i64 ((max N (k + 1) : Nat) : Int))) :=
            (m3.out.trans (Mid.of_below hbw (fun j hj => Nat.lt_of_lt_of_le (hok1.out j hj).1 m3.out.size))).setCell (p := ⟨w5.heap.size, 0, none⟩) (fun h => (hok1.out _ h).2.1 rfl) _
          refine ⟨((keepsFrom_below hbw).trans (keepsFrom_set _ _ _ _)).trans (keepsFrom_drewN _ _ 1), hm7.trans (Mid.of_below (below_drewN (Below.refl _ _) 1) (fun j hj => Nat.lt_of_lt_of_le (hok1.out j hj).1 hm7.size)), ?_⟩
          show ShI _ _ (shortN _ _) _
          rw [hsn.out]
          exact hw7.keep (below_drewN (Below.refl _ _) 1)
  · rintro D xs W hD hxs hI hmark
    rw [hxs] at hI
    have hm' := Lib.hid hmark
    obtain ⟨N, hN⟩ : ∃ N, shortN x ks = N := ⟨_, rfl⟩
    rw [hN] at hI
    obtain ⟨c7, f7, l7, l8, b7⟩ := hI
    have b7' := Lib.hid b7
    have hoW : Hid (W.heap[g6]? = some (.cells #[.string own] 9 (0, 0))) := Lib.hid ((b7.block _ (Array.getElem?_eq_some_iff.1 ho5.out).1).trans ho5.out)
    have hoc : W.cell? ⟨g6, 0, none⟩ = some (.string own) := by simp [World.cell?, hoW.out]
    have hN9 : N ≤ 64 := by rw [← hN]; exact shortN_le hx'.out hr.out.ok
    have hos : own.size = 64 := by rw [← hown'.out, Lib.size_eq]; simp [hexL_length, hx'.out.1]
    have hNs : N ≤ own.size := by omega
    have hN' := Lib.hid hN
    clear hmark b7 hxs hN l7 l8
    go_wp2_with fail
    have hex : own.extract 0 N = ⟨((hexL x).take N).toArray⟩ := by
      rw [← hown'.out]
      apply ByteArray.ext
      simp
    refine leaves_mark1 hm'.out fun W9 hp9 => ⟨results_tmp2 (t := 4) (u := 5) rfl _ _ _, ?_, ?_⟩
    · rw [if_pos hmem'.out, hN'.out, ← hex]
      rfl
    · exact below_puts (hB5.out.trans (b7'.out.mono hB5.out.size)) hp9 (Nat.le_trans hB5.out.size (Nat.le_trans hszD.out hD))
end Go.Proofs.Ytlolnpilpdkbkaa

/- The document's Turns. (Printed by tools/gendt.py.) -/
import Derived.Test.YtakcnkmlglkkpaaPkR26

namespace Go.Proofs.Ytakcnkmlglkkpaa
open Go.RowKit
set_option linter.unusedSimpArgs false
set_option linter.unusedVariables false
open Classical

/-- What Turns answers. -/
def TurnsP (w : World) (L : Lists) (u v : Nat) (e : Ending) (w' : World) : Prop :=
  ((∃ a b A' c', L[u]? = some a ∧ L[v]? = some b ∧ e = .returned (.tuple #[.slice A' (mergeQ a b).length c', .int .i64 0]) ∧ Own w' w.heap.size 55 67 A' (mergeQ a b).length c' (rowsT (mergeQ a b))) ∨ ((L.length ≤ u ∨ L.length ≤ v) ∧ e = .returned (.tuple #[.slice none 0 0, .int .i64 133]))) ∧ Below w.heap.size w w'
set_option maxRecDepth 100000 in
set_option maxHeartbeats 16000000 in
theorem dturns_ok (w : World) {B g c : Nat} {A : Option Addr} {L : Lists} {ps : List Value} (h : Doc w B g A c L ps) (u v : Nat) {a b : List RootT} (hu : L[u]? = some a) (hv : L[v]? = some b) :
    Calls Try.prog 43 #[.pointer (some ⟨g, 0, none⟩), .int .u64 (u : Int), .int .u64 (v : Int)] w (TurnsP w L u v) := by
  have l32 : Hid (∀ k : RKey, (encKy k).length = 32) := Lib.hid encKy_length
  have hi32 : Hid ((Try.prog.info? 35).map (·.size) = some 32) := Lib.hid (by kernel_rfl)
  have ha64 := h.few a (List.mem_of_getElem? hu)
  have hb64 := h.few b (List.mem_of_getElem? hv)
  have hAt1 := Lib.hid (dat_any w h u)
  have hAt2 : Hid (∀ W, Below w.heap.size w W → Calls Try.prog 42 #[.pointer (some ⟨g, 0, none⟩), .int .u64 (v : Int)] W (AtP W L v)) := Lib.hid fun W hW => dat_any W (h.below hW) v
  have hu' := Lib.hid hu
  have hv' := Lib.hid hv
  have ulen := (List.getElem?_eq_some_iff.1 hu).1
  have vlen := (List.getElem?_eq_some_iff.1 hv).1
  clear h hu hv
  go_enter Try.func43, Try.ntmps43
  go_wp2_with fail
  refine hAt1.out.mono ?_
  rintro e w1 ⟨(⟨a', A1, c1, e1, rfl, o1⟩ | ⟨hbad, _⟩), b1⟩
  rotate_left
  · exact absurd hbad (by omega)
  rw [hu'.out] at e1
  cases e1
  have hc2 := Lib.hid (hAt2.out w1 b1)
  have b1' := Lib.hid b1
  have o1' := Lib.hid o1
  clear hAt1 hAt2 b1 o1
  go_wp2_with fail
  refine hc2.out.mono ?_
  rintro e w2 ⟨(⟨b', A2, c2, e2, rfl, o2⟩ | ⟨hbad, _⟩), b2⟩
  rotate_left
  · exact absurd hbad (by omega)
  rw [hv'.out] at e2
  cases e2
  have RA : Hid (RowR w2 w2.heap.size A1 a) := Lib.hid (RowR.of_own (o1'.out.below b2 (fun k hk => (o1'.out.lt k hk).2)))
  have RB : Hid (RowR w2 w2.heap.size A2 b) := Lib.hid (RowR.of_own o2)
  have hw2 := Lib.hid (b1'.out.trans (b2.mono b1'.out.size))
  have s2 : Hid (w.heap.size ≤ w2.heap.size) := Lib.hid hw2.out.size
  obtain ⟨n1, hn1⟩ : ∃ n, Hid (∀ _ : Unit, a.length = n) := ⟨_, Lib.hid fun _ => rfl⟩
  obtain ⟨n2, hn2⟩ : ∃ n, Hid (∀ _ : Unit, b.length = n) := ⟨_, Lib.hid fun _ => rfl⟩
  have la : Hid (a.length = n1) := Lib.hid (hn1.out ())
  have lb : Hid (b.length = n2) := Lib.hid (hn2.out ())
  rw [hn1.out ()] at ha64 ⊢
  rw [hn2.out ()] at hb64 ⊢
  have hfin := Lib.hid (mergeQ_len (n1 + n2) a b (by rw [la.out, lb.out]; exact Nat.le_refl _))
  clear hc2 o1' o2 b2 b1' hn1 hn2 ulen vlen
  go_wp2_with fail
  go_loopw [12, 13, 14] (fun ov iv jv wr => ∃ (i j no co : Nat) (Ao : Option Addr) (O : List TurnT), i ≤ n1 ∧ j ≤ n2 ∧ iv = .int .i64 i ∧ jv = .int .i64 j ∧ ov = .slice Ao no co ∧ Hid (DTI w2 wr a b i j Ao no co O)) (fun _ iv jv _ => (n1 + n2) - ((intOf iv).toNat + (intOf jv).toNat))
  case atStart => exact ⟨0, 0, 0, 0, none, [], by omega, by omega, rfl, rfl, rfl, Lib.hid ⟨Below.refl _ _, Own.nil _ _ _ _, rfl, by omega, by simp⟩⟩
  case round =>
    obtain ⟨i, j, no, co, Ao, O, hi0, hj0, rfl, rfl, rfl, hI⟩ := hrel
    have hno : no ≤ 128 := by have := hI.out.le; omega
    by_cases hi : i < n1
    · have gi : decide (i < n1) = true := decide_eq_true hi
      obtain ⟨x, hx⟩ : ∃ x, a[i]? = some x := ⟨_, List.getElem?_eq_getElem (by have := la.out; omega)⟩
      obtain ⟨ba, oa, hA, hba, hra⟩ := RowR.range (Rd.below RA.out hI.out.bel) hx
      have hr0 : Hid (∀ W, Below w2.heap.size w2 W → W.rangeAt ba (oa + i * 33) (encR x)) := Lib.hid fun W hW => by
        obtain ⟨b0, o0, e0, _, hr⟩ := RowR.range (Rd.below RA.out hW) hx
        rw [hA] at e0
        cases e0
        exact hr
      subst hA
      have NA : Hid (∀ W, Below w2.heap.size w2 W → W.cell? ⟨ba, oa + i * 33, none⟩ = some (.string x.1)) := Lib.hid fun W hW => by simpa using hr0.out W hW 0 _ (show (encR x)[0]? = some (.string x.1) from rfl)
      have KA : Hid (∀ W, Below w2.heap.size w2 W → W.rangeAt ba (oa + i * 33 + 1) (encKy x.2)) := Lib.hid fun W hW => key_range (hr0.out W hW)
      have dx := NA.out wr hI.out.bel
      have da := Lib.hid (drop_one hx)
      clear hra hr0
      have b1 : (0 : Int) ≤ (i : Int) := by omega
      have b2 : (i : Int) < (n1 : Int) := by omega
      by_cases hj : j < n2
      · obtain ⟨y, hy⟩ : ∃ y, b[j]? = some y := ⟨_, List.getElem?_eq_getElem (by have := lb.out; omega)⟩
        obtain ⟨bb, ob, hB, hbb, hrb⟩ := RowR.range (Rd.below RB.out hI.out.bel) hy
        have hr1 : Hid (∀ W, Below w2.heap.size w2 W → W.rangeAt bb (ob + j * 33) (encR y)) := Lib.hid fun W hW => by
          obtain ⟨b0, o0, e0, _, hr⟩ := RowR.range (Rd.below RB.out hW) hy
          rw [hB] at e0
          cases e0
          exact hr
        subst hB
        have NB : Hid (∀ W, Below w2.heap.size w2 W → W.cell? ⟨bb, ob + j * 33, none⟩ = some (.string y.1)) := Lib.hid fun W hW => by simpa using hr1.out W hW 0 _ (show (encR y)[0]? = some (.string y.1) from rfl)
        have KB : Hid (∀ W, Below w2.heap.size w2 W → W.rangeAt bb (ob + j * 33 + 1) (encKy y.2)) := Lib.hid fun W hW => key_range (hr1.out W hW)
        have dy := NB.out wr hI.out.bel
        have db := Lib.hid (drop_one hy)
        clear hrb hr1
        have b3 : (0 : Int) ≤ (j : Int) := by omega
        have b4 : (j : Int) < (n2 : Int) := by omega
        have gj : ((j : Int) == (n2 : Int)) = false := by simp; omega
        have gi2 : ((i : Int) == (n1 : Int)) = false := by simp; omega
        cases hxy : ltS x.1 y.1 with
        | true =>
          have q1 : Op.bytesLess x.1.toList y.1.toList = true := hxy
          have hmq : Hid (mergeQ (a.drop i) (b.drop j) = tOff x :: mergeQ (a.drop (i + 1)) (b.drop j)) := Lib.hid (by rw [da.out, db.out, mergeQ_xy, if_pos hxy])
          go_wp2_with fail
          go_quiet (fail)
          go_wp2_with fail
          generalize hwq : World.drewN wr _ = wq
          have hQ : Hid (DTI w2 wq a b i j Ao no co O) := Lib.hid (by rw [← hwq]; exact hI.out.drew _)
          clear hwq
          refine wp_region_held (S := fun W => Below w2.heap.size w2 W) (by kernel_rfl) ?_
          change wpAnyH _ _ _ _ _ _ _ _ (World.drew _)
          have hd : Hid (Below w2.heap.size w2 (World.drew _)) := Lib.hid (hQ.out.drew 1).bel
          have hQd := Lib.hid (hQ.out.drew 1)
          refine takeD (i := 0) (d := 101) (v := .slice Ao no co) rfl rfl (by kernel_rfl) (by kernel_rfl) (by kernel_rfl) (fun _ _ _ h => h) (Or.inl ⟨by rfl, by intro W hW; clear hW; go_simp⟩) hd.out ?_
          simp only [List.setIfInBounds_toArray, List.set_cons_zero, List.set_cons_succ]
          refine takeD (i := 1) (d := 102) (v := .slice (some ⟨ba, oa, none⟩) n1 c1) rfl rfl (by kernel_rfl) (by kernel_rfl) (by kernel_rfl) (fun _ _ _ h => h) (Or.inl ⟨by rfl, by intro W hW; clear hW; go_simp⟩) hd.out ?_
          simp only [List.setIfInBounds_toArray, List.set_cons_zero, List.set_cons_succ]
          refine takeD (i := 2) (d := 103) (v := .int .i64 (i : Int)) rfl rfl (by kernel_rfl) (by kernel_rfl) (by kernel_rfl) (fun _ _ _ h => h) (Or.inl ⟨by rfl, by intro W hW; clear hW; go_simp⟩) hd.out ?_
          simp only [List.setIfInBounds_toArray, List.set_cons_zero, List.set_cons_succ]
          refine takeD (i := 3) (d := 104) (v := .pointer (some ⟨ba, oa + i * 33, none⟩)) rfl rfl (by kernel_rfl) (by kernel_rfl) (by kernel_rfl) (fun _ _ _ h => h) (Or.inl ⟨by rfl, by intro W hW; clear hW; go_simp⟩) hd.out ?_
          simp only [List.setIfInBounds_toArray, List.set_cons_zero, List.set_cons_succ]
          refine takeD (i := 4) (d := 105) (v := .pointer (some ⟨ba, oa + i * 33, none⟩)) rfl rfl (by kernel_rfl) (by kernel_rfl) (by kernel_rfl) (fun _ _ _ h => h) (Or.inl ⟨by rfl, by intro W hW; clear hW; go_simp⟩) hd.out ?_
          simp only [List.setIfInBounds_toArray, List.set_cons_zero, List.set_cons_succ]
          refine takeD (i := 5) (d := 106) (v := .string x.1) rfl rfl (by kernel_rfl) (by kernel_rfl) (by kernel_rfl) (fun _ _ _ h => h) (Or.inl ⟨by rfl, by intro W hW; have cc := NA.out W hW; clear hW; go_simp⟩) hd.out ?_
          simp only [List.setIfInBounds_toArray, List.set_cons_zero, List.set_cons_succ]
          refine takeD (i := 6) (d := 107) (v := .slice (some ⟨ba, oa, none⟩) n1 c1) rfl rfl (by kernel_rfl) (by kernel_rfl) (by kernel_rfl) (fun _ _ _ h => h) (Or.inl ⟨by rfl, by intro W hW; clear hW; go_simp⟩) hd.out ?_
          simp only [List.setIfInBounds_toArray, List.set_cons_zero, List.set_cons_succ]
          refine takeD (i := 7) (d := 108) (v := .int .i64 (i : Int)) rfl rfl (by kernel_rfl) (by kernel_rfl) (by kernel_rfl) (fun _ _ _ h => h) (Or.inl ⟨by rfl, by intro W hW; clear hW; go_simp⟩) hd.out ?_
          simp only [List.setIfInBounds_toArray, List.set_cons_zero, List.set_cons_succ]
          refine takeD (i := 8) (d := 109) (v := .pointer (some ⟨ba, oa + i * 33, none⟩)) rfl rfl (by kernel_rfl) (by kernel_rfl) (by kernel_rfl) (fun _ _ _ h => h) (Or.inl ⟨by rfl, by intro W hW; clear hW; go_simp⟩) hd.out ?_
          simp only [List.setIfInBounds_toArray, List.set_cons_zero, List.set_cons_succ]
          refine takeD (i := 9) (d := 110) (v := .pointer (some ⟨ba, oa + i * 33 + 1, none⟩)) rfl rfl (by kernel_rfl) (by kernel_rfl) (by kernel_rfl) (fun _ _ _ h => h) (Or.inl ⟨by rfl, by intro W hW; clear hW; go_simp⟩) hd.out ?_
          simp only [List.setIfInBounds_toArray, List.set_cons_zero, List.set_cons_succ]
          refine takeD (i := 10) (d := 111) rfl rfl (by kernel_rfl) (by kernel_rfl) (by kernel_rfl) (fun _ _ _ h => h) (yieldsIf_load_mid (by rfl) 35 _ rfl ba (oa + i * 33 + 1) rfl (encKy x.2) _ KA.out Try.underlying35 rfl (by rw [l32.out]; exact hi32.out)) hd.out ?_
          simp only [List.setIfInBounds_toArray, List.set_cons_zero, List.set_cons_succ]
          refine takeD (i := 11) (d := 112) rfl rfl (by kernel_rfl) (by kernel_rfl) (by kernel_rfl) (fun _ _ _ h => h) (yieldsIf_build (by rfl) 55 _ rfl #[(0, .string x.1), (1, .bool true), (3, .agg (encKy x.2).toArray)] (by rw [List.map_toArray]; rfl) _ (fun W _ => buildOff x.1 x.2 W)) hd.out ?_
          simp only [List.setIfInBounds_toArray, List.set_cons_zero, List.set_cons_succ]
          refine wpAnyH_ready (rs := [12]) (by kernel_rfl) (by simp) ?_
          refine AllReadyH.cons rfl (fun K hK => ?_) AllReadyH.nil
          refine step_bslT rfl (tOff x) _ rfl rfl ?_
          have he : Hid (Below w2.heap.size w2 (World.alloc (World.drew _) (.cells (encT (tOff x)).toArray 55))) := Lib.hid (hd.out.alloc hd.out.size _)
          refine hK.out _ _ he.out (fun _ => ?_)
          clear hK K
          refine wpAnyH_ready (rs := [13]) (by kernel_rfl) (by simp) ?_
          refine AllReadyH.cons rfl (fun K hK => ?_) AllReadyH.nil
          refine step_app1 elT (encT (tOff x)).toArray (by simp [encT_length]) rfl _ _ rfl rfl hQd.out.own rfl (by intro u hu; exact encT_one (tOff x) u (by simpa using hu)) (by unfold maxLen; omega) (by omega) hd.out.size (no + 1) rfl (rowsT O ++ encT (tOff x)) (by simp) ?_
          intro A4 c4 w4 o4 at4 b4
          have hN := Lib.hid (hQd.out.more (i' := i + 1) (j' := j) (t := (tOff x)) o4 b4 (by omega) hmq.out)
          have hd4 := Lib.hid hN.out.bel
          clear o4 at4 b4
          refine hK.out _ _ hd4.out (fun _ => ?_)
          clear hK K
          refine wpAnyH_ready (rs := [14]) (by kernel_rfl) (by simp) ?_
          refine AllReadyH.cons rfl (fun K hK => ?_) AllReadyH.nil
          go_simp
          refine hK.out _ _ hd4.out (fun _ => ?_)
          clear hK K
          refine wpAnyH_done (by kernel_rfl) ?_ _
          go_wp2_with fail
          go_roundw
          case rel => exact ⟨i + 1, j, no + 1, c4, A4, _, by omega, by omega, by go_num, by go_num, rfl, hN⟩
          case measure => simp [intOf]; omega
        | false =>
          have q1 : Op.bytesLess x.1.toList y.1.toList = false := hxy
          cases hyx : ltS y.1 x.1 with
          | true =>
            have q2 : Op.bytesLess y.1.toList x.1.toList = true := hyx
            have hmq : Hid (mergeQ (a.drop i) (b.drop j) = tOn y :: mergeQ (a.drop i) (b.drop (j + 1))) := Lib.hid (by rw [db.out, da.out, mergeQ_xy, if_neg (by rw [hxy]; decide), if_pos hyx])
            go_wp2_with fail
            go_quiet (fail)
            go_wp2_with fail
            go_quiet (fail)
            go_wp2_with fail
            generalize hwq : World.drewN (World.drewN wr _) _ = wq
            have hQ : Hid (DTI w2 wq a b i j Ao no co O) := Lib.hid (by rw [← hwq]; exact (hI.out.drew _).drew _)
            clear hwq
            refine wp_region_held (S := fun W => Below w2.heap.size w2 W) (by kernel_rfl) ?_
            change wpAnyH _ _ _ _ _ _ _ _ (World.drew _)
            have hd : Hid (Below w2.heap.size w2 (World.drew _)) := Lib.hid (hQ.out.drew 1).bel
            have hQd := Lib.hid (hQ.out.drew 1)
            refine takeD (i := 0) (d := 135) (v := .slice Ao no co) rfl rfl (by kernel_rfl) (by kernel_rfl) (by kernel_rfl) (fun _ _ _ h => h) (Or.inl ⟨by rfl, by intro W hW; clear hW; go_simp⟩) hd.out ?_
            simp only [List.setIfInBounds_toArray, List.set_cons_zero, List.set_cons_succ]
            refine takeD (i := 1) (d := 136) (v := .slice (some ⟨bb, ob, none⟩) n2 c2) rfl rfl (by kernel_rfl) (by kernel_rfl) (by kernel_rfl) (fun _ _ _ h => h) (Or.inl ⟨by rfl, by intro W hW; clear hW; go_simp⟩) hd.out ?_
            simp only [List.setIfInBounds_toArray, List.set_cons_zero, List.set_cons_succ]
            refine takeD (i := 2) (d := 137) (v := .int .i64 (j : Int)) rfl rfl (by kernel_rfl) (by kernel_rfl) (by kernel_rfl) (fun _ _ _ h => h) (Or.inl ⟨by rfl, by intro W hW; clear hW; go_simp⟩) hd.out ?_
            simp only [List.setIfInBounds_toArray, List.set_cons_zero, List.set_cons_succ]
            refine takeD (i := 3) (d := 138) (v := .pointer (some ⟨bb, ob + j * 33, none⟩)) rfl rfl (by kernel_rfl) (by kernel_rfl) (by kernel_rfl) (fun _ _ _ h => h) (Or.inl ⟨by rfl, by intro W hW; clear hW; go_simp⟩) hd.out ?_
            simp only [List.setIfInBounds_toArray, List.set_cons_zero, List.set_cons_succ]
            refine takeD (i := 4) (d := 139) (v := .pointer (some ⟨bb, ob + j * 33, none⟩)) rfl rfl (by kernel_rfl) (by kernel_rfl) (by kernel_rfl) (fun _ _ _ h => h) (Or.inl ⟨by rfl, by intro W hW; clear hW; go_simp⟩) hd.out ?_
            simp only [List.setIfInBounds_toArray, List.set_cons_zero, List.set_cons_succ]
            refine takeD (i := 5) (d := 140) (v := .string y.1) rfl rfl (by kernel_rfl) (by kernel_rfl) (by kernel_rfl) (fun _ _ _ h => h) (Or.inl ⟨by rfl, by intro W hW; have cc := NB.out W hW; clear hW; go_simp⟩) hd.out ?_
            simp only [List.setIfInBounds_toArray, List.set_cons_zero, List.set_cons_succ]
            refine takeD (i := 6) (d := 141) (v := .slice (some ⟨bb, ob, none⟩) n2 c2) rfl rfl (by kernel_rfl) (by kernel_rfl) (by kernel_rfl) (fun _ _ _ h => h) (Or.inl ⟨by rfl, by intro W hW; clear hW; go_simp⟩) hd.out ?_
            simp only [List.setIfInBounds_toArray, List.set_cons_zero, List.set_cons_succ]
            refine takeD (i := 7) (d := 142) (v := .int .i64 (j : Int)) rfl rfl (by kernel_rfl) (by kernel_rfl) (by kernel_rfl) (fun _ _ _ h => h) (Or.inl ⟨by rfl, by intro W hW; clear hW; go_simp⟩) hd.out ?_
            simp only [List.setIfInBounds_toArray, List.set_cons_zero, List.set_cons_succ]
            refine takeD (i := 8) (d := 143) (v := .pointer (some ⟨bb, ob + j * 33, none⟩)) rfl rfl (by kernel_rfl) (by kernel_rfl) (by kernel_rfl) (fun _ _ _ h => h) (Or.inl ⟨by rfl, by intro W hW; clear hW; go_simp⟩) hd.out ?_
            simp only [List.setIfInBounds_toArray, List.set_cons_zero, List.set_cons_succ]
            refine takeD (i := 9) (d := 144) (v := .pointer (some ⟨bb, ob + j * 33 + 1, none⟩)) rfl rfl (by kernel_rfl) (by kernel_rfl) (by kernel_rfl) (fun _ _ _ h => h) (Or.inl ⟨by rfl, by intro W hW; clear hW; go_simp⟩) hd.out ?_
            simp only [List.setIfInBounds_toArray, List.set_cons_zero, List.set_cons_succ]
            refine takeD (i := 10) (d := 145) rfl rfl (by kernel_rfl) (by kernel_rfl) (by kernel_rfl) (fun _ _ _ h => h) (yieldsIf_load_mid (by rfl) 35 _ rfl bb (ob + j * 33 + 1) rfl (encKy y.2) _ KB.out Try.underlying35 rfl (by rw [l32.out]; exact hi32.out)) hd.out ?_
            simp only [List.setIfInBounds_toArray, List.set_cons_zero, List.set_cons_succ]
            refine takeD (i := 11) (d := 146) rfl rfl (by kernel_rfl) (by kernel_rfl) (by kernel_rfl) (fun _ _ _ h => h) (yieldsIf_build (by rfl) 55 _ rfl #[(0, .string y.1), (2, .bool true), (4, .agg (encKy y.2).toArray)] (by rw [List.map_toArray]; rfl) _ (fun W _ => buildOn y.1 y.2 W)) hd.out ?_
            simp only [List.setIfInBounds_toArray, List.set_cons_zero, List.set_cons_succ]
            refine wpAnyH_ready (rs := [12]) (by kernel_rfl) (by simp) ?_
            refine AllReadyH.cons rfl (fun K hK => ?_) AllReadyH.nil
            refine step_bslT rfl (tOn y) _ rfl rfl ?_
            have he : Hid (Below w2.heap.size w2 (World.alloc (World.drew _) (.cells (encT (tOn y)).toArray 55))) := Lib.hid (hd.out.alloc hd.out.size _)
            refine hK.out _ _ he.out (fun _ => ?_)
            clear hK K
            refine wpAnyH_ready (rs := [13]) (by kernel_rfl) (by simp) ?_
            refine AllReadyH.cons rfl (fun K hK => ?_) AllReadyH.nil
            refine step_app1 elT (encT (tOn y)).toArray (by simp [encT_length]) rfl _ _ rfl rfl hQd.out.own rfl (by intro u hu; exact encT_one (tOn y) u (by simpa using hu)) (by unfold maxLen; omega) (by omega) hd.out.size (no + 1) rfl (rowsT O ++ encT (tOn y)) (by simp) ?_
            intro A4 c4 w4 o4 at4 b4
            have hN := Lib.hid (hQd.out.more (i' := i) (j' := j + 1) (t := (tOn y)) o4 b4 (by omega) hmq.out)
            have hd4 := Lib.hid hN.out.bel
            clear o4 at4 b4
            refine hK.out _ _ hd4.out (fun _ => ?_)
            clear hK K
            refine wpAnyH_ready (rs := [14]) (by kernel_rfl) (by simp) ?_
            refine AllReadyH.cons rfl (fun K hK => ?_) AllReadyH.nil
            go_simp
            refine hK.out _ _ hd4.out (fun _ => ?_)
            clear hK K
            refine wpAnyH_done (by kernel_rfl) ?_ _
            go_wp2_with fail
            go_roundw
            case rel => exact ⟨i, j + 1, no + 1, c4, A4, _, by omega, by omega, by go_num, by go_num, rfl, hN⟩
            case measure => simp [intOf]; omega
          | false =>
            have q2 : Op.bytesLess y.1.toList x.1.toList = false := hyx
            have hne := neKy x.2 y.2
            have hgu := guKy .neq
            go_wp2_with fail
            go_quiet (fail)
            go_wp2_with fail
            go_quiet (fail)
            go_wp2_with fail
            generalize hwq : World.drewN (World.drewN wr _) _ = wq
            have hQ : Hid (DTI w2 wq a b i j Ao no co O) := Lib.hid (by rw [← hwq]; exact (hI.out.drew _).drew _)
            clear hwq
            refine wp_region_held (S := fun W => Below w2.heap.size w2 W) (by kernel_rfl) ?_
            change wpAnyH _ _ _ _ _ _ _ _ (World.drew _)
            have hd : Hid (Below w2.heap.size w2 (World.drew _)) := Lib.hid (hQ.out.drew 1).bel
            have hQd := Lib.hid (hQ.out.drew 1)
            refine takeD (i := 0) (d := 43) (v := .slice (some ⟨ba, oa, none⟩) n1 c1) rfl rfl (by kernel_rfl) (by kernel_rfl) (by kernel_rfl) (fun _ _ _ h => h) (Or.inl ⟨by rfl, by intro W hW; clear hW; go_simp⟩) hd.out ?_
            simp only [List.setIfInBounds_toArray, List.set_cons_zero, List.set_cons_succ]
            refine takeD (i := 1) (d := 44) (v := .int .i64 (i : Int)) rfl rfl (by kernel_rfl) (by kernel_rfl) (by kernel_rfl) (fun _ _ _ h => h) (Or.inl ⟨by rfl, by intro W hW; clear hW; go_simp⟩) hd.out ?_
            simp only [List.setIfInBounds_toArray, List.set_cons_zero, List.set_cons_succ]
            refine takeD (i := 2) (d := 45) (v := .pointer (some ⟨ba, oa + i * 33, none⟩)) rfl rfl (by kernel_rfl) (by kernel_rfl) (by kernel_rfl) (fun _ _ _ h => h) (Or.inl ⟨by rfl, by intro W hW; clear hW; go_simp⟩) hd.out ?_
            simp only [List.setIfInBounds_toArray, List.set_cons_zero, List.set_cons_succ]
            refine takeD (i := 3) (d := 46) (v := .pointer (some ⟨ba, oa + i * 33 + 1, none⟩)) rfl rfl (by kernel_rfl) (by kernel_rfl) (by kernel_rfl) (fun _ _ _ h => h) (Or.inl ⟨by rfl, by intro W hW; clear hW; go_simp⟩) hd.out ?_
            simp only [List.setIfInBounds_toArray, List.set_cons_zero, List.set_cons_succ]
            refine takeD (i := 4) (d := 47) rfl rfl (by kernel_rfl) (by kernel_rfl) (by kernel_rfl) (fun _ _ _ h => h) (yieldsIf_load_mid (by rfl) 35 _ rfl ba (oa + i * 33 + 1) rfl (encKy x.2) _ KA.out Try.underlying35 rfl (by rw [l32.out]; exact hi32.out)) hd.out ?_
            simp only [List.setIfInBounds_toArray, List.set_cons_zero, List.set_cons_succ]
            refine takeD (i := 5) (d := 48) (v := .slice (some ⟨bb, ob, none⟩) n2 c2) rfl rfl (by kernel_rfl) (by kernel_rfl) (by kernel_rfl) (fun _ _ _ h => h) (Or.inl ⟨by rfl, by intro W hW; clear hW; go_simp⟩) hd.out ?_
            simp only [List.setIfInBounds_toArray, List.set_cons_zero, List.set_cons_succ]
            refine takeD (i := 6) (d := 49) (v := .int .i64 (j : Int)) rfl rfl (by kernel_rfl) (by kernel_rfl) (by kernel_rfl) (fun _ _ _ h => h) (Or.inl ⟨by rfl, by intro W hW; clear hW; go_simp⟩) hd.out ?_
            simp only [List.setIfInBounds_toArray, List.set_cons_zero, List.set_cons_succ]
            refine takeD (i := 7) (d := 50) (v := .pointer (some ⟨bb, ob + j * 33, none⟩)) rfl rfl (by kernel_rfl) (by kernel_rfl) (by kernel_rfl) (fun _ _ _ h => h) (Or.inl ⟨by rfl, by intro W hW; clear hW; go_simp⟩) hd.out ?_
            simp only [List.setIfInBounds_toArray, List.set_cons_zero, List.set_cons_succ]
            refine takeD (i := 8) (d := 51) (v := .pointer (some ⟨bb, ob + j * 33 + 1, none⟩)) rfl rfl (by kernel_rfl) (by kernel_rfl) (by kernel_rfl) (fun _ _ _ h => h) (Or.inl ⟨by rfl, by intro W hW; clear hW; go_simp⟩) hd.out ?_
            simp only [List.setIfInBounds_toArray, List.set_cons_zero, List.set_cons_succ]
            refine takeD (i := 9) (d := 52) rfl rfl (by kernel_rfl) (by kernel_rfl) (by kernel_rfl) (fun _ _ _ h => h) (yieldsIf_load_mid (by rfl) 35 _ rfl bb (ob + j * 33 + 1) rfl (encKy y.2) _ KB.out Try.underlying35 rfl (by rw [l32.out]; exact hi32.out)) hd.out ?_
            simp only [List.setIfInBounds_toArray, List.set_cons_zero, List.set_cons_succ]
            by_cases hke : x.2 = y.2
            · have hdk : decide (x.2 = y.2) = true := decide_eq_true hke
              have hmq : Hid (mergeQ (a.drop i) (b.drop j) = mergeQ (a.drop (i + 1)) (b.drop (j + 1))) := Lib.hid (by rw [db.out, da.out, mergeQ_xy, if_neg (by rw [hxy]; decide), if_neg (by rw [hyx]; decide), if_pos hke])
              rw [hdk] at hne
              clear hke hdk
              refine wpAnyH_ready (rs := [10]) (by kernel_rfl) (by simp) ?_
              refine AllReadyH.cons rfl (fun K hK => ?_) AllReadyH.nil
              go_simp
              refine hK.out _ _ hd.out (fun _ => ?_)
              clear hK K
              refine wpAnyH_done (by kernel_rfl) ?_ _
              have hN : Hid (DTI w2 (World.drew wq) a b (i + 1) (j + 1) Ao no co O) := Lib.hid ⟨hd.out, hQd.out.own, hQd.out.len, by have := hQd.out.le; omega, by rw [← hmq.out]; exact hQd.out.eq⟩
              go_wp2_with fail
              go_roundw
              case rel => exact ⟨i + 1, j + 1, no, co, Ao, O, by omega, by omega, by go_num, by go_num, rfl, hN⟩
              case measure => simp [intOf]; omega
            · have hdk : decide (x.2 = y.2) = false := decide_eq_false hke
              have hmq : Hid (mergeQ (a.drop i) (b.drop j) = tBoth x y :: mergeQ (a.drop (i + 1)) (b.drop (j + 1))) := Lib.hid (by rw [db.out, da.out, mergeQ_xy, if_neg (by rw [hxy]; decide), if_neg (by rw [hyx]; decide), if_neg hke])
              rw [hdk] at hne
              clear hke hdk
              refine wpAnyH_ready (rs := [10]) (by kernel_rfl) (by simp) ?_
              refine AllReadyH.cons rfl (fun K hK => ?_) AllReadyH.nil
              go_simp
              refine hK.out _ _ hd.out (fun _ => ?_)
              clear hK K
              refine wpAnyH_done (by kernel_rfl) ?_ _
              have hQ2 : Hid (DTI w2 (World.drew wq) a b i j Ao no co O) := hQd
              clear hQ hd hQd
              obtain ⟨wz, hwz⟩ : ∃ wz, World.drew wq = wz := ⟨_, rfl⟩
              rw [hwz] at hQ2 ⊢
              have hQ := hQ2
              go_wp2_with fail
              refine wp_region_held (S := fun W => Below w2.heap.size w2 W) (by kernel_rfl) ?_
              change wpAnyH _ _ _ _ _ _ _ _ (World.drew _)
              have hd : Hid (Below w2.heap.size w2 (World.drew _)) := Lib.hid (hQ.out.drew 1).bel
              have hQd := Lib.hid (hQ.out.drew 1)
              refine takeD (i := 0) (d := 54) (v := .slice Ao no co) rfl rfl (by kernel_rfl) (by kernel_rfl) (by kernel_rfl) (fun _ _ _ h => h) (Or.inl ⟨by rfl, by intro W hW; clear hW; go_simp⟩) hd.out ?_
              simp only [List.setIfInBounds_toArray, List.set_cons_zero, List.set_cons_succ]
              refine takeD (i := 1) (d := 55) (v := .slice (some ⟨ba, oa, none⟩) n1 c1) rfl rfl (by kernel_rfl) (by kernel_rfl) (by kernel_rfl) (fun _ _ _ h => h) (Or.inl ⟨by rfl, by intro W hW; clear hW; go_simp⟩) hd.out ?_
              simp only [List.setIfInBounds_toArray, List.set_cons_zero, List.set_cons_succ]
              refine takeD (i := 2) (d := 56) (v := .int .i64 (i : Int)) rfl rfl (by kernel_rfl) (by kernel_rfl) (by kernel_rfl) (fun _ _ _ h => h) (Or.inl ⟨by rfl, by intro W hW; clear hW; go_simp⟩) hd.out ?_
              simp only [List.setIfInBounds_toArray, List.set_cons_zero, List.set_cons_succ]
              refine takeD (i := 3) (d := 57) (v := .pointer (some ⟨ba, oa + i * 33, none⟩)) rfl rfl (by kernel_rfl) (by kernel_rfl) (by kernel_rfl) (fun _ _ _ h => h) (Or.inl ⟨by rfl, by intro W hW; clear hW; go_simp⟩) hd.out ?_
              simp only [List.setIfInBounds_toArray, List.set_cons_zero, List.set_cons_succ]
              refine takeD (i := 4) (d := 58) (v := .pointer (some ⟨ba, oa + i * 33, none⟩)) rfl rfl (by kernel_rfl) (by kernel_rfl) (by kernel_rfl) (fun _ _ _ h => h) (Or.inl ⟨by rfl, by intro W hW; clear hW; go_simp⟩) hd.out ?_
              simp only [List.setIfInBounds_toArray, List.set_cons_zero, List.set_cons_succ]
              refine takeD (i := 5) (d := 59) (v := .string x.1) rfl rfl (by kernel_rfl) (by kernel_rfl) (by kernel_rfl) (fun _ _ _ h => h) (Or.inl ⟨by rfl, by intro W hW; have cc := NA.out W hW; clear hW; go_simp⟩) hd.out ?_
              simp only [List.setIfInBounds_toArray, List.set_cons_zero, List.set_cons_succ]
              refine takeD (i := 6) (d := 60) (v := .slice (some ⟨ba, oa, none⟩) n1 c1) rfl rfl (by kernel_rfl) (by kernel_rfl) (by kernel_rfl) (fun _ _ _ h => h) (Or.inl ⟨by rfl, by intro W hW; clear hW; go_simp⟩) hd.out ?_
              simp only [List.setIfInBounds_toArray, List.set_cons_zero, List.set_cons_succ]
              refine takeD (i := 7) (d := 61) (v := .int .i64 (i : Int)) rfl rfl (by kernel_rfl) (by kernel_rfl) (by kernel_rfl) (fun _ _ _ h => h) (Or.inl ⟨by rfl, by intro W hW; clear hW; go_simp⟩) hd.out ?_
              simp only [List.setIfInBounds_toArray, List.set_cons_zero, List.set_cons_succ]
              refine takeD (i := 8) (d := 62) (v := .pointer (some ⟨ba, oa + i * 33, none⟩)) rfl rfl (by kernel_rfl) (by kernel_rfl) (by kernel_rfl) (fun _ _ _ h => h) (Or.inl ⟨by rfl, by intro W hW; clear hW; go_simp⟩) hd.out ?_
              simp only [List.setIfInBounds_toArray, List.set_cons_zero, List.set_cons_succ]
              refine takeD (i := 9) (d := 63) (v := .pointer (some ⟨ba, oa + i * 33 + 1, none⟩)) rfl rfl (by kernel_rfl) (by kernel_rfl) (by kernel_rfl) (fun _ _ _ h => h) (Or.inl ⟨by rfl, by intro W hW; clear hW; go_simp⟩) hd.out ?_
              simp only [List.setIfInBounds_toArray, List.set_cons_zero, List.set_cons_succ]
              refine takeD (i := 10) (d := 64) rfl rfl (by kernel_rfl) (by kernel_rfl) (by kernel_rfl) (fun _ _ _ h => h) (yieldsIf_load_mid (by rfl) 35 _ rfl ba (oa + i * 33 + 1) rfl (encKy x.2) _ KA.out Try.underlying35 rfl (by rw [l32.out]; exact hi32.out)) hd.out ?_
              simp only [List.setIfInBounds_toArray, List.set_cons_zero, List.set_cons_succ]
              refine takeD (i := 11) (d := 65) (v := .slice (some ⟨bb, ob, none⟩) n2 c2) rfl rfl (by kernel_rfl) (by kernel_rfl) (by kernel_rfl) (fun _ _ _ h => h) (Or.inl ⟨by rfl, by intro W hW; clear hW; go_simp⟩) hd.out ?_
              simp only [List.setIfInBounds_toArray, List.set_cons_zero, List.set_cons_succ]
              refine takeD (i := 12) (d := 66) (v := .int .i64 (j : Int)) rfl rfl (by kernel_rfl) (by kernel_rfl) (by kernel_rfl) (fun _ _ _ h => h) (Or.inl ⟨by rfl, by intro W hW; clear hW; go_simp⟩) hd.out ?_
              simp only [List.setIfInBounds_toArray, List.set_cons_zero, List.set_cons_succ]
              refine takeD (i := 13) (d := 67) (v := .pointer (some ⟨bb, ob + j * 33, none⟩)) rfl rfl (by kernel_rfl) (by kernel_rfl) (by kernel_rfl) (fun _ _ _ h => h) (Or.inl ⟨by rfl, by intro W hW; clear hW; go_simp⟩) hd.out ?_
              simp only [List.setIfInBounds_toArray, List.set_cons_zero, List.set_cons_succ]
              refine takeD (i := 14) (d := 68) (v := .pointer (some ⟨bb, ob + j * 33 + 1, none⟩)) rfl rfl (by kernel_rfl) (by kernel_rfl) (by kernel_rfl) (fun _ _ _ h => h) (Or.inl ⟨by rfl, by intro W hW; clear hW; go_simp⟩) hd.out ?_
              simp only [List.setIfInBounds_toArray, List.set_cons_zero, List.set_cons_succ]
              refine takeD (i := 15) (d := 69) rfl rfl (by kernel_rfl) (by kernel_rfl) (by kernel_rfl) (fun _ _ _ h => h) (yieldsIf_load_mid (by rfl) 35 _ rfl bb (ob + j * 33 + 1) rfl (encKy y.2) _ KB.out Try.underlying35 rfl (by rw [l32.out]; exact hi32.out)) hd.out ?_
              simp only [List.setIfInBounds_toArray, List.set_cons_zero, List.set_cons_succ]
              refine takeD (i := 16) (d := 70) rfl rfl (by kernel_rfl) (by kernel_rfl) (by kernel_rfl) (fun _ _ _ h => h) (yieldsIf_build (by rfl) 55 _ rfl #[(0, .string x.1), (1, .bool true), (2, .bool true), (3, .agg (encKy x.2).toArray), (4, .agg (encKy y.2).toArray)] (by rw [List.map_toArray]; rfl) _ (fun W _ => buildTn x.1 true true x.2 y.2 W)) hd.out ?_
              simp only [List.setIfInBounds_toArray, List.set_cons_zero, List.set_cons_succ]
              refine wpAnyH_ready (rs := [17]) (by kernel_rfl) (by simp) ?_
              refine AllReadyH.cons rfl (fun K hK => ?_) AllReadyH.nil
              refine step_bslT rfl (tBoth x y) _ rfl rfl ?_
              have he : Hid (Below w2.heap.size w2 (World.alloc (World.drew _) (.cells (encT (tBoth x y)).toArray 55))) := Lib.hid (hd.out.alloc hd.out.size _)
              refine hK.out _ _ he.out (fun _ => ?_)
              clear hK K
              refine wpAnyH_ready (rs := [18]) (by kernel_rfl) (by simp) ?_
              refine AllReadyH.cons rfl (fun K hK => ?_) AllReadyH.nil
              refine step_app1 elT (encT (tBoth x y)).toArray (by simp [encT_length]) rfl _ _ rfl rfl hQd.out.own rfl (by intro u hu; exact encT_one (tBoth x y) u (by simpa using hu)) (by unfold maxLen; omega) (by omega) hd.out.size (no + 1) rfl (rowsT O ++ encT (tBoth x y)) (by simp) ?_
              intro A4 c4 w4 o4 at4 b4
              have hN := Lib.hid (hQd.out.more (i' := i + 1) (j' := j + 1) (t := (tBoth x y)) o4 b4 (by omega) hmq.out)
              have hd4 := Lib.hid hN.out.bel
              clear o4 at4 b4
              refine hK.out _ _ hd4.out (fun _ => ?_)
              clear hK K
              refine wpAnyH_ready (rs := [19]) (by kernel_rfl) (by simp) ?_
              refine AllReadyH.cons rfl (fun K hK => ?_) AllReadyH.nil
              go_simp
              refine hK.out _ _ hd4.out (fun _ => ?_)
              clear hK K
              refine wpAnyH_done (by kernel_rfl) ?_ _
              go_wp2_with fail
              go_roundw
              case rel => exact ⟨i + 1, j + 1, no + 1, c4, A4, _, by omega, by omega, by go_num, by go_num, rfl, hN⟩
              case measure => simp [intOf]; omega
      · have gj : ((j : Int) == (n2 : Int)) = true := by simp; omega
        have hjn : b.drop j = [] := List.drop_eq_nil_of_le (by have := lb.out; omega)
        have hmq : Hid (mergeQ (a.drop i) (b.drop j) = tOff x :: mergeQ (a.drop (i + 1)) (b.drop j)) := Lib.hid (by rw [da.out, hjn, mergeQ_xn])
        clear hjn
        go_wp2_with fail
        go_quiet (fail)
        go_wp2_with fail
        generalize hwq : World.drewN wr _ = wq
        have hQ : Hid (DTI w2 wq a b i j Ao no co O) := Lib.hid (by rw [← hwq]; exact hI.out.drew _)
        clear hwq
        refine wp_region_held (S := fun W => Below w2.heap.size w2 W) (by kernel_rfl) ?_
        change wpAnyH _ _ _ _ _ _ _ _ (World.drew _)
        have hd : Hid (Below w2.heap.size w2 (World.drew _)) := Lib.hid (hQ.out.drew 1).bel
        have hQd := Lib.hid (hQ.out.drew 1)
        refine takeD (i := 0) (d := 101) (v := .slice Ao no co) rfl rfl (by kernel_rfl) (by kernel_rfl) (by kernel_rfl) (fun _ _ _ h => h) (Or.inl ⟨by rfl, by intro W hW; clear hW; go_simp⟩) hd.out ?_
        simp only [List.setIfInBounds_toArray, List.set_cons_zero, List.set_cons_succ]
        refine takeD (i := 1) (d := 102) (v := .slice (some ⟨ba, oa, none⟩) n1 c1) rfl rfl (by kernel_rfl) (by kernel_rfl) (by kernel_rfl) (fun _ _ _ h => h) (Or.inl ⟨by rfl, by intro W hW; clear hW; go_simp⟩) hd.out ?_
        simp only [List.setIfInBounds_toArray, List.set_cons_zero, List.set_cons_succ]
        refine takeD (i := 2) (d := 103) (v := .int .i64 (i : Int)) rfl rfl (by kernel_rfl) (by kernel_rfl) (by kernel_rfl) (fun _ _ _ h => h) (Or.inl ⟨by rfl, by intro W hW; clear hW; go_simp⟩) hd.out ?_
        simp only [List.setIfInBounds_toArray, List.set_cons_zero, List.set_cons_succ]
        refine takeD (i := 3) (d := 104) (v := .pointer (some ⟨ba, oa + i * 33, none⟩)) rfl rfl (by kernel_rfl) (by kernel_rfl) (by kernel_rfl) (fun _ _ _ h => h) (Or.inl ⟨by rfl, by intro W hW; clear hW; go_simp⟩) hd.out ?_
        simp only [List.setIfInBounds_toArray, List.set_cons_zero, List.set_cons_succ]
        refine takeD (i := 4) (d := 105) (v := .pointer (some ⟨ba, oa + i * 33, none⟩)) rfl rfl (by kernel_rfl) (by kernel_rfl) (by kernel_rfl) (fun _ _ _ h => h) (Or.inl ⟨by rfl, by intro W hW; clear hW; go_simp⟩) hd.out ?_
        simp only [List.setIfInBounds_toArray, List.set_cons_zero, List.set_cons_succ]
        refine takeD (i := 5) (d := 106) (v := .string x.1) rfl rfl (by kernel_rfl) (by kernel_rfl) (by kernel_rfl) (fun _ _ _ h => h) (Or.inl ⟨by rfl, by intro W hW; have cc := NA.out W hW; clear hW; go_simp⟩) hd.out ?_
        simp only [List.setIfInBounds_toArray, List.set_cons_zero, List.set_cons_succ]
        refine takeD (i := 6) (d := 107) (v := .slice (some ⟨ba, oa, none⟩) n1 c1) rfl rfl (by kernel_rfl) (by kernel_rfl) (by kernel_rfl) (fun _ _ _ h => h) (Or.inl ⟨by rfl, by intro W hW; clear hW; go_simp⟩) hd.out ?_
        simp only [List.setIfInBounds_toArray, List.set_cons_zero, List.set_cons_succ]
        refine takeD (i := 7) (d := 108) (v := .int .i64 (i : Int)) rfl rfl (by kernel_rfl) (by kernel_rfl) (by kernel_rfl) (fun _ _ _ h => h) (Or.inl ⟨by rfl, by intro W hW; clear hW; go_simp⟩) hd.out ?_
        simp only [List.setIfInBounds_toArray, List.set_cons_zero, List.set_cons_succ]
        refine takeD (i := 8) (d := 109) (v := .pointer (some ⟨ba, oa + i * 33, none⟩)) rfl rfl (by kernel_rfl) (by kernel_rfl) (by kernel_rfl) (fun _ _ _ h => h) (Or.inl ⟨by rfl, by intro W hW; clear hW; go_simp⟩) hd.out ?_
        simp only [List.setIfInBounds_toArray, List.set_cons_zero, List.set_cons_succ]
        refine takeD (i := 9) (d := 110) (v := .pointer (some ⟨ba, oa + i * 33 + 1, none⟩)) rfl rfl (by kernel_rfl) (by kernel_rfl) (by kernel_rfl) (fun _ _ _ h => h) (Or.inl ⟨by rfl, by intro W hW; clear hW; go_simp⟩) hd.out ?_
        simp only [List.setIfInBounds_toArray, List.set_cons_zero, List.set_cons_succ]
        refine takeD (i := 10) (d := 111) rfl rfl (by kernel_rfl) (by kernel_rfl) (by kernel_rfl) (fun _ _ _ h => h) (yieldsIf_load_mid (by rfl) 35 _ rfl ba (oa + i * 33 + 1) rfl (encKy x.2) _ KA.out Try.underlying35 rfl (by rw [l32.out]; exact hi32.out)) hd.out ?_
        simp only [List.setIfInBounds_toArray, List.set_cons_zero, List.set_cons_succ]
        refine takeD (i := 11) (d := 112) rfl rfl (by kernel_rfl) (by kernel_rfl) (by kernel_rfl) (fun _ _ _ h => h) (yieldsIf_build (by rfl) 55 _ rfl #[(0, .string x.1), (1, .bool true), (3, .agg (encKy x.2).toArray)] (by rw [List.map_toArray]; rfl) _ (fun W _ => buildOff x.1 x.2 W)) hd.out ?_
        simp only [List.setIfInBounds_toArray, List.set_cons_zero, List.set_cons_succ]
        refine wpAnyH_ready (rs := [12]) (by kernel_rfl) (by simp) ?_
        refine AllReadyH.cons rfl (fun K hK => ?_) AllReadyH.nil
        refine step_bslT rfl (tOff x) _ rfl rfl ?_
        have he : Hid (Below w2.heap.size w2 (World.alloc (World.drew _) (.cells (encT (tOff x)).toArray 55))) := Lib.hid (hd.out.alloc hd.out.size _)
        refine hK.out _ _ he.out (fun _ => ?_)
        clear hK K
        refine wpAnyH_ready (rs := [13]) (by kernel_rfl) (by simp) ?_
        refine AllReadyH.cons rfl (fun K hK => ?_) AllReadyH.nil
        refine step_app1 elT (encT (tOff x)).toArray (by simp [encT_length]) rfl _ _ rfl rfl hQd.out.own rfl (by intro u hu; exact encT_one (tOff x) u (by simpa using hu)) (by unfold maxLen; omega) (by omega) hd.out.size (no + 1) rfl (rowsT O ++ encT (tOff x)) (by simp) ?_
        intro A4 c4 w4 o4 at4 b4
        have hN := Lib.hid (hQd.out.more (i' := i + 1) (j' := j) (t := (tOff x)) o4 b4 (by omega) hmq.out)
        have hd4 := Lib.hid hN.out.bel
        clear o4 at4 b4
        refine hK.out _ _ hd4.out (fun _ => ?_)
        clear hK K
        refine wpAnyH_ready (rs := [14]) (by kernel_rfl) (by simp) ?_
        refine AllReadyH.cons rfl (fun K hK => ?_) AllReadyH.nil
        go_simp
        refine hK.out _ _ hd4.out (fun _ => ?_)
        clear hK K
        refine wpAnyH_done (by kernel_rfl) ?_ _
        go_wp2_with fail
        go_roundw
        case rel => exact ⟨i + 1, j, no + 1, c4, A4, _, by omega, by omega, by go_num, by go_num, rfl, hN⟩
        case measure => simp [intOf]; omega
    · have gi : decide (i < n1) = false := decide_eq_false hi
      have gi2 : ((i : Int) == (n1 : Int)) = true := by simp; omega
      have hin : a.drop i = [] := List.drop_eq_nil_of_le (by have := la.out; omega)
      by_cases hj : j < n2
      · have gjt : decide (j < n2) = true := decide_eq_true hj
        have gj : ((j : Int) == (n2 : Int)) = false := by simp; omega
        obtain ⟨y, hy⟩ : ∃ y, b[j]? = some y := ⟨_, List.getElem?_eq_getElem (by have := lb.out; omega)⟩
        obtain ⟨bb, ob, hB, hbb, hrb⟩ := RowR.range (Rd.below RB.out hI.out.bel) hy
        have hr1 : Hid (∀ W, Below w2.heap.size w2 W → W.rangeAt bb (ob + j * 33) (encR y)) := Lib.hid fun W hW => by
          obtain ⟨b0, o0, e0, _, hr⟩ := RowR.range (Rd.below RB.out hW) hy
          rw [hB] at e0
          cases e0
          exact hr
        subst hB
        have NB : Hid (∀ W, Below w2.heap.size w2 W → W.cell? ⟨bb, ob + j * 33, none⟩ = some (.string y.1)) := Lib.hid fun W hW => by simpa using hr1.out W hW 0 _ (show (encR y)[0]? = some (.string y.1) from rfl)
        have KB : Hid (∀ W, Below w2.heap.size w2 W → W.rangeAt bb (ob + j * 33 + 1) (encKy y.2)) := Lib.hid fun W hW => key_range (hr1.out W hW)
        have dy := NB.out wr hI.out.bel
        have db := Lib.hid (drop_one hy)
        clear hrb hr1
        have b3 : (0 : Int) ≤ (j : Int) := by omega
        have b4 : (j : Int) < (n2 : Int) := by omega
        have hmq : Hid (mergeQ (a.drop i) (b.drop j) = tOn y :: mergeQ (a.drop i) (b.drop (j + 1))) := Lib.hid (by rw [db.out, hin, mergeQ_ny])
        clear hin
        go_wp2_with fail
        go_quiet (fail)
        go_wp2_with fail
        go_quiet (fail)
        go_wp2_with fail
        generalize hwq : World.drewN (World.drewN wr _) _ = wq
        have hQ : Hid (DTI w2 wq a b i j Ao no co O) := Lib.hid (by rw [← hwq]; exact (hI.out.drew _).drew _)
        clear hwq
        refine wp_region_held (S := fun W => Below w2.heap.size w2 W) (by kernel_rfl) ?_
        change wpAnyH _ _ _ _ _ _ _ _ (World.drew _)
        have hd : Hid (Below w2.heap.size w2 (World.drew _)) := Lib.hid (hQ.out.drew 1).bel
        have hQd := Lib.hid (hQ.out.drew 1)
        refine takeD (i := 0) (d := 135) (v := .slice Ao no co) rfl rfl (by kernel_rfl) (by kernel_rfl) (by kernel_rfl) (fun _ _ _ h => h) (Or.inl ⟨by rfl, by intro W hW; clear hW; go_simp⟩) hd.out ?_
        simp only [List.setIfInBounds_toArray, List.set_cons_zero, List.set_cons_succ]
        refine takeD (i := 1) (d := 136) (v := .slice (some ⟨bb, ob, none⟩) n2 c2) rfl rfl (by kernel_rfl) (by kernel_rfl) (by kernel_rfl) (fun _ _ _ h => h) (Or.inl ⟨by rfl, by intro W hW; clear hW; go_simp⟩) hd.out ?_
        simp only [List.setIfInBounds_toArray, List.set_cons_zero, List.set_cons_succ]
        refine takeD (i := 2) (d := 137) (v := .int .i64 (j : Int)) rfl rfl (by kernel_rfl) (by kernel_rfl) (by kernel_rfl) (fun _ _ _ h => h) (Or.inl ⟨by rfl, by intro W hW; clear hW; go_simp⟩) hd.out ?_
        simp only [List.setIfInBounds_toArray, List.set_cons_zero, List.set_cons_succ]
        refine takeD (i := 3) (d := 138) (v := .pointer (some ⟨bb, ob + j * 33, none⟩)) rfl rfl (by kernel_rfl) (by kernel_rfl) (by kernel_rfl) (fun _ _ _ h => h) (Or.inl ⟨by rfl, by intro W hW; clear hW; go_simp⟩) hd.out ?_
        simp only [List.setIfInBounds_toArray, List.set_cons_zero, List.set_cons_succ]
        refine takeD (i := 4) (d := 139) (v := .pointer (some ⟨bb, ob + j * 33, none⟩)) rfl rfl (by kernel_rfl) (by kernel_rfl) (by kernel_rfl) (fun _ _ _ h => h) (Or.inl ⟨by rfl, by intro W hW; clear hW; go_simp⟩) hd.out ?_
        simp only [List.setIfInBounds_toArray, List.set_cons_zero, List.set_cons_succ]
        refine takeD (i := 5) (d := 140) (v := .string y.1) rfl rfl (by kernel_rfl) (by kernel_rfl) (by kernel_rfl) (fun _ _ _ h => h) (Or.inl ⟨by rfl, by intro W hW; have cc := NB.out W hW; clear hW; go_simp⟩) hd.out ?_
        simp only [List.setIfInBounds_toArray, List.set_cons_zero, List.set_cons_succ]
        refine takeD (i := 6) (d := 141) (v := .slice (some ⟨bb, ob, none⟩) n2 c2) rfl rfl (by kernel_rfl) (by kernel_rfl) (by kernel_rfl) (fun _ _ _ h => h) (Or.inl ⟨by rfl, by intro W hW; clear hW; go_simp⟩) hd.out ?_
        simp only [List.setIfInBounds_toArray, List.set_cons_zero, List.set_cons_succ]
        refine takeD (i := 7) (d := 142) (v := .int .i64 (j : Int)) rfl rfl (by kernel_rfl) (by kernel_rfl) (by kernel_rfl) (fun _ _ _ h => h) (Or.inl ⟨by rfl, by intro W hW; clear hW; go_simp⟩) hd.out ?_
        simp only [List.setIfInBounds_toArray, List.set_cons_zero, List.set_cons_succ]
        refine takeD (i := 8) (d := 143) (v := .pointer (some ⟨bb, ob + j * 33, none⟩)) rfl rfl (by kernel_rfl) (by kernel_rfl) (by kernel_rfl) (fun _ _ _ h => h) (Or.inl ⟨by rfl, by intro W hW; clear hW; go_simp⟩) hd.out ?_
        simp only [List.setIfInBounds_toArray, List.set_cons_zero, List.set_cons_succ]
        refine takeD (i := 9) (d := 144) (v := .pointer (some ⟨bb, ob + j * 33 + 1, none⟩)) rfl rfl (by kernel_rfl) (by kernel_rfl) (by kernel_rfl) (fun _ _ _ h => h) (Or.inl ⟨by rfl, by intro W hW; clear hW; go_simp⟩) hd.out ?_
        simp only [List.setIfInBounds_toArray, List.set_cons_zero, List.set_cons_succ]
        refine takeD (i := 10) (d := 145) rfl rfl (by kernel_rfl) (by kernel_rfl) (by kernel_rfl) (fun _ _ _ h => h) (yieldsIf_load_mid (by rfl) 35 _ rfl bb (ob + j * 33 + 1) rfl (encKy y.2) _ KB.out Try.underlying35 rfl (by rw [l32.out]; exact hi32.out)) hd.out ?_
        simp only [List.setIfInBounds_toArray, List.set_cons_zero, List.set_cons_succ]
        refine takeD (i := 11) (d := 146) rfl rfl (by kernel_rfl) (by kernel_rfl) (by kernel_rfl) (fun _ _ _ h => h) (yieldsIf_build (by rfl) 55 _ rfl #[(0, .string y.1), (2, .bool true), (4, .agg (encKy y.2).toArray)] (by rw [List.map_toArray]; rfl) _ (fun W _ => buildOn y.1 y.2 W)) hd.out ?_
        simp only [List.setIfInBounds_toArray, List.set_cons_zero, List.set_cons_succ]
        refine wpAnyH_ready (rs := [12]) (by kernel_rfl) (by simp) ?_
        refine AllReadyH.cons rfl (fun K hK => ?_) AllReadyH.nil
        refine step_bslT rfl (tOn y) _ rfl rfl ?_
        have he : Hid (Below w2.heap.size w2 (World.alloc (World.drew _) (.cells (encT (tOn y)).toArray 55))) := Lib.hid (hd.out.alloc hd.out.size _)
        refine hK.out _ _ he.out (fun _ => ?_)
        clear hK K
        refine wpAnyH_ready (rs := [13]) (by kernel_rfl) (by simp) ?_
        refine AllReadyH.cons rfl (fun K hK => ?_) AllReadyH.nil
        refine step_app1 elT (encT (tOn y)).toArray (by simp [encT_length]) rfl _ _ rfl rfl hQd.out.own rfl (by intro u hu; exact encT_one (tOn y) u (by simpa using hu)) (by unfold maxLen; omega) (by omega) hd.out.size (no + 1) rfl (rowsT O ++ encT (tOn y)) (by simp) ?_
        intro A4 c4 w4 o4 at4 b4
        have hN := Lib.hid (hQd.out.more (i' := i) (j' := j + 1) (t := (tOn y)) o4 b4 (by omega) hmq.out)
        have hd4 := Lib.hid hN.out.bel
        clear o4 at4 b4
        refine hK.out _ _ hd4.out (fun _ => ?_)
        clear hK K
        refine wpAnyH_ready (rs := [14]) (by kernel_rfl) (by simp) ?_
        refine AllReadyH.cons rfl (fun K hK => ?_) AllReadyH.nil
        go_simp
        refine hK.out _ _ hd4.out (fun _ => ?_)
        clear hK K
        refine wpAnyH_done (by kernel_rfl) ?_ _
        go_wp2_with fail
        go_roundw
        case rel => exact ⟨i, j + 1, no + 1, c4, A4, _, by omega, by omega, by go_num, by go_num, rfl, hN⟩
        case measure => simp [intOf]; omega
      · have gjf : decide (j < n2) = false := decide_eq_false hj
        have hjn : b.drop j = [] := List.drop_eq_nil_of_le (by have := lb.out; omega)
        have hO : Hid (O = mergeQ a b) := Lib.hid (by have := hI.out.eq; rw [hin, hjn, mergeQ_nn, List.append_nil] at this; exact this)
        clear hin hjn
        go_wp2_with fail
        go_ret2
        have hlen : (mergeQ a b).length = no := by rw [← hO.out]; exact hI.out.len
        refine ⟨.inl ⟨a, b, Ao, co, hu'.out, hv'.out, ?_, ?_⟩, hw2.out.trans (hI.out.bel.mono s2.out)⟩
        · rw [hlen]
          rfl
        · rw [hlen, ← hO.out]
          exact hI.out.own.base s2.out
end Go.Proofs.Ytakcnkmlglkkpaa

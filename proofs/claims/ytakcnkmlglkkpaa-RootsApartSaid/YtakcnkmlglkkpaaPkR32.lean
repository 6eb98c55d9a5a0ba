/- The program's Turns. (Printed by tools/genpt.py.) -/
import Derived.Test.YtakcnkmlglkkpaaPkR29
import Derived.Test.YtakcnkmlglkkpaaPkR31

namespace Go.Proofs.Ytakcnkmlglkkpaa
open Go.RowKit
set_option linter.unusedSimpArgs false
set_option linter.unusedVariables false
open Classical

set_option maxRecDepth 100000 in
set_option maxHeartbeats 16000000 in
theorem turns_ok (w : World) {B g : Nat} {A : Option Addr} {L : Lists} (h : TblL w B g A L) (u v : Nat) {a b : List RootT} (hu : L[u]? = some a) (hv : L[v]? = some b) :
    Calls Try.prog 22 #[.pointer (some ⟨g, 0, none⟩), .int .u64 (u : Int), .int .u64 (v : Int)] w (TurnsP w L u v) := by
  have l32 : Hid (∀ k : RKey, (encKy k).length = 32) := Lib.hid encKy_length
  have l67 : Hid (∀ k : TurnT, (encT k).length = 67) := Lib.hid encT_length
  have hi32 : Hid ((Try.prog.info? 35).map (·.size) = some 32) := Lib.hid (by kernel_rfl)
  have hi67 : Hid ((Try.prog.info? 55).map (·.size) = some 67) := Lib.hid (by kernel_rfl)
  have oneT := Lib.hid encT_all
  have oneK := Lib.hid encKy_all
  have hz := zeroTn
  have ha64 := h.few (List.mem_of_getElem? hu)
  have hb64 := h.few (List.mem_of_getElem? hv)
  have hAt1 := Lib.hid (atL_any h u)
  have hAt2 : Hid (∀ W, Below w.heap.size w W → Calls Try.prog 19 #[.pointer (some ⟨g, 0, none⟩), .int .u64 (v : Int)] W (AtP W L v)) := Lib.hid fun W hW => atL_any (h.below hW) v
  have hu' := Lib.hid hu
  have hv' := Lib.hid hv
  have ulen := (List.getElem?_eq_some_iff.1 hu).1
  have vlen := (List.getElem?_eq_some_iff.1 hv).1
  clear h hu hv
  go_enter Try.func22, Try.ntmps22
  go_wp2_with fail
  refine hAt1.out.mono ?_
  rintro e w1 ⟨(⟨a', A1, c1, e1, rfl, o1⟩ | ⟨hbad, _⟩), b1⟩
  rotate_left
  · exact absurd hbad (by omega)
  rw [hu'.out] at e1
  cases e1
  have hc2 := Lib.hid (hAt2.out w1 b1)
  have b1' := Lib.hid b1
  have o1' := Lib.hid o1
  clear hAt1 hAt2 b1 o1
  go_wp2_with fail
  refine hc2.out.mono ?_
  rintro e w2 ⟨(⟨b', A2, c2, e2, rfl, o2⟩ | ⟨hbad, _⟩), b2⟩
  rotate_left
  · exact absurd hbad (by omega)
  rw [hv'.out] at e2
  cases e2
  have o1w := o1'.out.below b2 (fun k hk => (o1'.out.lt k hk).2)
  have RA : Hid (LeftR w2 A1 a.length c1 a) := Lib.hid ⟨RowR.of_own o1w, rfl, o1w.le.1⟩
  have RB : Hid (LeftR w2 A2 b.length c2 b) := Lib.hid ⟨RowR.of_own o2, rfl, o2.le.1⟩
  have hw2 := Lib.hid (b1'.out.trans (b2.mono b1'.out.size))
  have s2 : Hid (w.heap.size ≤ w2.heap.size) := Lib.hid hw2.out.size
  obtain ⟨n1, hn1⟩ : ∃ n, Hid (∀ _ : Unit, a.length = n) := ⟨_, Lib.hid fun _ => rfl⟩
  obtain ⟨n2, hn2⟩ : ∃ n, Hid (∀ _ : Unit, b.length = n) := ⟨_, Lib.hid fun _ => rfl⟩
  have la : Hid (a.length = n1) := Lib.hid (hn1.out ())
  have lb : Hid (b.length = n2) := Lib.hid (hn2.out ())
  rw [hn1.out ()] at ha64 RA ⊢
  rw [hn2.out ()] at hb64 RB ⊢
  clear hc2 o1' o1w o2 b2 b1' hn1 hn2 ulen vlen
  go_wp2_with fail
  go_loopw [8, 10, 11] (fun av bv ov wr => ∃ (ra rb : List RootT) (na ca nb cb no co : Nat) (Aa Ab Ao : Option Addr) (O : List TurnT), na ≤ 64 ∧ nb ≤ 64 ∧ av = .slice Aa na ca ∧ bv = .slice Ab nb cb ∧ ov = .slice Ao no co ∧ Hid (LeftR w2 Aa na ca ra) ∧ Hid (LeftR w2 Ab nb cb rb) ∧ Hid (PTI w2 wr a b ra rb Ao no co O)) (fun av bv _ _ => slLen av + slLen bv)
  case atStart => exact ⟨a, b, n1, c1, n2, c2, 0, 0, A1, A2, none, [], by omega, by omega, rfl, rfl, rfl, RA, RB, Lib.hid ⟨Below.refl _ _, Own.nil _ _ _ _, rfl, by omega, by simp⟩⟩
  case round =>
    obtain ⟨ra, rb, na, ca, nb, cb, no, co, Aa, Ab, Ao, O, hna, hnb, rfl, rfl, rfl, LA, LB, hI⟩ := hrel
    have hno : no ≤ 128 := by have := hI.out.le; have := la.out; have := lb.out; omega
    have hB : Hid (∀ W T t, PTO wr W T t → Below w2.heap.size w2 W) := Lib.hid fun W T t hp => hI.out.bel.trans (hp.bel.mono hI.out.bel.size)
    by_cases ha : 0 < na
    · have gi : decide (0 < na) = true := decide_eq_true ha
      have b1 : (0 : Int) < (na : Int) := by omega
      obtain ⟨x, ra', rfl⟩ : ∃ x r, ra = x :: r := by
        cases ra with
        | nil => have := LA.out.len; simp at this; omega
        | cons x r => exact ⟨x, r, rfl⟩
      obtain ⟨ba, oa, rfl, hba, na0, ka0, la0⟩ := LA.out.cons
      have NA := Lib.hid na0
      have KA := Lib.hid ka0
      have LA' := Lib.hid la0
      clear na0 ka0 la0
      by_cases hb : 0 < nb
      · have gj : decide (0 < nb) = true := decide_eq_true hb
        have gj0 : ((nb : Int) == 0) = false := by simp; omega
        have b3 : (0 : Int) < (nb : Int) := by omega
        obtain ⟨y, rb', rfl⟩ : ∃ x r, rb = x :: r := by
          cases rb with
          | nil => have := LB.out.len; simp at this; omega
          | cons x r => exact ⟨x, r, rfl⟩
        obtain ⟨bb, ob, rfl, hbb, nb0, kb0, lb0⟩ := LB.out.cons
        have NB := Lib.hid nb0
        have KB := Lib.hid kb0
        have LB' := Lib.hid lb0
        clear nb0 kb0 lb0
        go_wp2_with fail
        have hP0 : Hid (PTO wr (wr.alloc (.cells (encT zT).toArray 55)) wr.heap.size zT) := Lib.hid (PTO.new wr zT)
        obtain ⟨W0, hW0⟩ : ∃ W0, Hid (∀ _ : Unit, wr.alloc (.cells (encT zT).toArray 55) = W0) := ⟨_, Lib.hid fun _ => rfl⟩
        obtain ⟨T, hT⟩ : ∃ T, Hid (∀ _ : Unit, wr.heap.size = T) := ⟨_, Lib.hid fun _ => rfl⟩
        rw [hW0.out ()] at hP0 ⊢
        rw [hT.out ()] at hP0 ⊢
        clear hW0 hT
        have dx := NA.out W0 (hB.out _ _ _ hP0.out)
        have dy := NB.out W0 (hB.out _ _ _ hP0.out)
        cases hxy : ltS x.1 y.1 with
        | true =>
          have q1 : Op.bytesLess x.1.toList y.1.toList = true := hxy
          have q2 : (y.1.toList == x.1.toList) = false := by
            rw [Bool.eq_false_iff]
            intro e
            rw [ltS_right (eq_of_beq e), ltS_irrefl] at hxy
            cases hxy
          have hmq : Hid (mergeQ (x :: ra') (y :: rb') = tOff x :: mergeQ ra' (y :: rb')) := Lib.hid (by rw [mergeQ_xy, if_pos hxy])
          go_quiet (fail)
          go_wp2_with fail
          generalize hwq : World.drewN W0 _ = Wq
          have hWq : Hid (PTO wr Wq T zT) := Lib.hid (by rw [← hwq]; exact hP0.out.drew _)
          clear hwq
          refine wp_region_held (S := fun W => Below w2.heap.size w2 W) (by kernel_rfl) ?_
          change wpAnyH _ _ _ _ _ _ _ _ (World.drew _)
          obtain ⟨Wd, hWd⟩ : ∃ Wd, Hid (∀ _ : Unit, World.drew Wq = Wd) := ⟨_, Lib.hid fun _ => rfl⟩
          have hPd := Lib.hid hWq.out.drew1
          rw [hWd.out ()] at hPd ⊢
          have hd : Hid (Below w2.heap.size w2 Wd) := Lib.hid (hB.out _ _ _ hPd.out)
          clear hWd
          refine takeD (i := 0) (d := 58) (v := .slice (some ⟨ba, oa, none⟩) na ca) rfl rfl (by kernel_rfl) (by kernel_rfl) (by kernel_rfl) (fun _ _ _ h => h) (Or.inl ⟨by rfl, by intro W hW; clear hW; go_simp⟩) hd.out ?_
          simp only [List.setIfInBounds_toArray, List.set_cons_zero, List.set_cons_succ]
          refine takeD (i := 1) (d := 59) (v := .pointer (some ⟨ba, oa, none⟩)) rfl rfl (by kernel_rfl) (by kernel_rfl) (by kernel_rfl) (fun _ _ _ h => h) (Or.inl ⟨by rfl, by intro W hW; clear hW; go_simp⟩) hd.out ?_
          simp only [List.setIfInBounds_toArray, List.set_cons_zero, List.set_cons_succ]
          refine takeD (i := 2) (d := 60) (v := .pointer (some ⟨ba, oa, none⟩)) rfl rfl (by kernel_rfl) (by kernel_rfl) (by kernel_rfl) (fun _ _ _ h => h) (Or.inl ⟨by rfl, by intro W hW; clear hW; go_simp⟩) hd.out ?_
          simp only [List.setIfInBounds_toArray, List.set_cons_zero, List.set_cons_succ]
          refine takeD (i := 3) (d := 61) (v := .string x.1) rfl rfl (by kernel_rfl) (by kernel_rfl) (by kernel_rfl) (fun _ _ _ h => h) (Or.inl ⟨by rfl, by intro W hW; have cc := NA.out W hW; clear hW; go_simp⟩) hd.out ?_
          simp only [List.setIfInBounds_toArray, List.set_cons_zero, List.set_cons_succ]
          refine takeD (i := 4) (d := 62) (v := .slice (some ⟨ba, oa, none⟩) na ca) rfl rfl (by kernel_rfl) (by kernel_rfl) (by kernel_rfl) (fun _ _ _ h => h) (Or.inl ⟨by rfl, by intro W hW; clear hW; go_simp⟩) hd.out ?_
          simp only [List.setIfInBounds_toArray, List.set_cons_zero, List.set_cons_succ]
          refine takeD (i := 5) (d := 63) (v := .pointer (some ⟨ba, oa, none⟩)) rfl rfl (by kernel_rfl) (by kernel_rfl) (by kernel_rfl) (fun _ _ _ h => h) (Or.inl ⟨by rfl, by intro W hW; clear hW; go_simp⟩) hd.out ?_
          simp only [List.setIfInBounds_toArray, List.set_cons_zero, List.set_cons_succ]
          refine takeD (i := 6) (d := 64) (v := .pointer (some ⟨ba, oa + 1, none⟩)) rfl rfl (by kernel_rfl) (by kernel_rfl) (by kernel_rfl) (fun _ _ _ h => h) (Or.inl ⟨by rfl, by intro W hW; clear hW; go_simp⟩) hd.out ?_
          simp only [List.setIfInBounds_toArray, List.set_cons_zero, List.set_cons_succ]
          refine takeD (i := 7) (d := 65) rfl rfl (by kernel_rfl) (by kernel_rfl) (by kernel_rfl) (fun _ _ _ h => h) (yieldsIf_load_mid (by rfl) 35 _ rfl ba (oa + 1) rfl (encKy x.2) _ KA.out Try.underlying35 rfl (by rw [l32.out]; exact hi32.out)) hd.out ?_
          simp only [List.setIfInBounds_toArray, List.set_cons_zero, List.set_cons_succ]
          refine takeD (i := 8) (d := 66) rfl rfl (by kernel_rfl) (by kernel_rfl) (by kernel_rfl) (fun _ _ _ h => h) (yieldsIf_build (by rfl) 55 _ rfl #[(0, .string x.1), (1, .bool true), (3, .agg (encKy x.2).toArray)] (by rw [List.map_toArray]; rfl) _ (fun W _ => buildOff x.1 x.2 W)) hd.out ?_
          simp only [List.setIfInBounds_toArray, List.set_cons_zero, List.set_cons_succ]
          refine wpAnyH_ready (rs := [9]) (by kernel_rfl) (by simp) ?_
          refine AllReadyH.cons rfl (fun K hK => ?_) AllReadyH.nil
          rw [if_pos (by rfl)]
          refine wp_store_mid 55 _ _ rfl T 0 (encT (tOff x)).toArray rfl rfl (by rw [List.size_toArray, l67.out]; exact hPd.out.ta.there) (by rw [List.size_toArray, l67.out]; exact hi67.out) (oneT.out _) ?_
          have hP1 : Hid (PTO wr (Wd.setCells T 0 (encT (tOff x))) T (tOff x)) := Lib.hid (hPd.out.all _)
          refine hK.out _ _ (hB.out _ _ _ hP1.out) (fun _ => ?_)
          clear hK K
          refine wpAnyH_done (by kernel_rfl) ?_ _
          rw [List.toList_toArray]
          obtain ⟨W1, hW1⟩ : ∃ W1, Hid (∀ _ : Unit, Wd.setCells T 0 (encT (tOff x)) = W1) := ⟨_, Lib.hid fun _ => rfl⟩
          rw [hW1.out ()] at hP1 ⊢
          clear hW1 hPd hd
          have dy1 := NB.out W1 (hB.out _ _ _ hP1.out)
          have dn1 : W1.cell? ⟨T, 0, none⟩ = some (.string x.1) := hP1.out.ta.nm
          go_wp2_with (refine wpList_slL1 rfl _ _ rfl rfl rfl (by omega) ?_)
          go_quiet (fail)
          generalize hwq : World.drewN W1 _ = Wr
          have hWr : Hid (PTO wr Wr T (tOff x)) := Lib.hid (by rw [← hwq]; exact hP1.out.drew _)
          clear hwq
          have hgu := guT .neq
          have e0 : Wr.cell? ⟨T, 0, none⟩ = some (.string x.1) := hWr.out.ta.nm
          have e1 : Wr.cell? ⟨T, 1, none⟩ = some (.bool true) := hWr.out.ta.hd
          have e2 : Wr.cell? ⟨T, 2, none⟩ = some (.bool false) := hWr.out.ta.hs
          have hO := Lib.hid (hI.out.below hWr.out.bel).own
          have hne : ∀ W, (binOp .neq 55 (.agg (encT ⟨x.1, false, true, kZ, x.2⟩).toArray) (.agg (encT (tOff x)).toArray)).run Try.prog W = .ok (.bool true) W := fun W => by rw [neT, show decide (⟨x.1, false, true, kZ, x.2⟩ = tOff x) = false from decide_eq_false (tOff_back x)]; rfl
          have hsz : Hid (w2.heap.size ≤ Wr.heap.size) := Lib.hid (hB.out _ _ _ hWr.out).size
          go_wp2_with (first
            | (refine wpList_slL1 rfl _ _ rfl rfl rfl (by omega) ?_)
            | (refine wpList_load_mid rfl 35 _ rfl T 35 rfl (encKy kZ) _ hWr.out.ta.new_ Try.underlying35 rfl (by rw [l32.out]; exact hi32.out) ?_)
            | (refine wpList_load_mid rfl 35 _ rfl T 3 rfl (encKy x.2) _ hWr.out.ta.old Try.underlying35 rfl (by rw [l32.out]; exact hi32.out) ?_)
            | (refine wpList_load_mid rfl 55 _ rfl T 0 rfl (encT (tOff x)) _ hWr.out.ta.row Try.underlying55 rfl (by rw [l67.out]; exact hi67.out) ?_)
            | (refine wpList_buildTn rfl _ rfl x.1 false true kZ x.2 (by rw [List.map_toArray]; rfl) ?_)
            | (refine wpList_bslT rfl (tOff x) _ rfl rfl ?_)
            | (at_builtin; refine wpList_app1 elT _ (encT (tOff x)).toArray (by simp [encT_length]) rfl _ _ rfl rfl hO.out rfl (by intro u hu; exact encT_one (tOff x) u (by simpa using hu)) (by unfold maxLen; omega) (by omega) hsz.out (no + 1) rfl (rowsT O ++ encT (tOff x)) (by simp) ?_
               intro A4 c4 w4 o4 at4 b4
               have hN := Lib.hid ((hI.out.below hWr.out.bel).more (t := tOff x) o4 b4 (by simp only [List.length_cons]; omega) hmq.out)
               clear o4 at4 b4))
          go_roundw
          case rel => exact ⟨ra', y :: rb', na - 1, ca - 1, nb, cb, no + 1, c4, cutR (some ⟨ba, oa, none⟩) 1 ca, some ⟨bb, ob, none⟩, A4, _, by omega, by omega, rfl, rfl, rfl, LA', LB, hN⟩
          case measure => simp [slLen]; omega
        | false =>
          have q1 : Op.bytesLess x.1.toList y.1.toList = false := hxy
          by_cases hxe : x.1 = y.1
          · have hyx : ltS y.1 x.1 = false := by rw [hxe, ltS_irrefl]
            have q2 : (y.1.toList == x.1.toList) = true := by rw [bytes_eq]; exact decide_eq_true hxe.symm
            have q3 : (x.1.toList == y.1.toList) = true := by rw [bytes_eq]; exact decide_eq_true hxe
            clear hxe
            go_quiet (fail)
            go_wp2_with fail
            generalize hwq : World.drewN W0 _ = Wq
            have hWq : Hid (PTO wr Wq T zT) := Lib.hid (by rw [← hwq]; exact hP0.out.drew _)
            clear hwq
            refine wp_region_held (S := fun W => Below w2.heap.size w2 W) (by kernel_rfl) ?_
            change wpAnyH _ _ _ _ _ _ _ _ (World.drew _)
            obtain ⟨Wd, hWd⟩ : ∃ Wd, Hid (∀ _ : Unit, World.drew Wq = Wd) := ⟨_, Lib.hid fun _ => rfl⟩
            have hPd := Lib.hid hWq.out.drew1
            rw [hWd.out ()] at hPd ⊢
            have hd : Hid (Below w2.heap.size w2 Wd) := Lib.hid (hB.out _ _ _ hPd.out)
            clear hWd
            refine takeD (i := 0) (d := 58) (v := .slice (some ⟨ba, oa, none⟩) na ca) rfl rfl (by kernel_rfl) (by kernel_rfl) (by kernel_rfl) (fun _ _ _ h => h) (Or.inl ⟨by rfl, by intro W hW; clear hW; go_simp⟩) hd.out ?_
            simp only [List.setIfInBounds_toArray, List.set_cons_zero, List.set_cons_succ]
            refine takeD (i := 1) (d := 59) (v := .pointer (some ⟨ba, oa, none⟩)) rfl rfl (by kernel_rfl) (by kernel_rfl) (by kernel_rfl) (fun _ _ _ h => h) (Or.inl ⟨by rfl, by intro W hW; clear hW; go_simp⟩) hd.out ?_
            simp only [List.setIfInBounds_toArray, List.set_cons_zero, List.set_cons_succ]
            refine takeD (i := 2) (d := 60) (v := .pointer (some ⟨ba, oa, none⟩)) rfl rfl (by kernel_rfl) (by kernel_rfl) (by kernel_rfl) (fun _ _ _ h => h) (Or.inl ⟨by rfl, by intro W hW; clear hW; go_simp⟩) hd.out ?_
            simp only [List.setIfInBounds_toArray, List.set_cons_zero, List.set_cons_succ]
            refine takeD (i := 3) (d := 61) (v := .string x.1) rfl rfl (by kernel_rfl) (by kernel_rfl) (by kernel_rfl) (fun _ _ _ h => h) (Or.inl ⟨by rfl, by intro W hW; have cc := NA.out W hW; clear hW; go_simp⟩) hd.out ?_
            simp only [List.setIfInBounds_toArray, List.set_cons_zero, List.set_cons_succ]
            refine takeD (i := 4) (d := 62) (v := .slice (some ⟨ba, oa, none⟩) na ca) rfl rfl (by kernel_rfl) (by kernel_rfl) (by kernel_rfl) (fun _ _ _ h => h) (Or.inl ⟨by rfl, by intro W hW; clear hW; go_simp⟩) hd.out ?_
            simp only [List.setIfInBounds_toArray, List.set_cons_zero, List.set_cons_succ]
            refine takeD (i := 5) (d := 63) (v := .pointer (some ⟨ba, oa, none⟩)) rfl rfl (by kernel_rfl) (by kernel_rfl) (by kernel_rfl) (fun _ _ _ h => h) (Or.inl ⟨by rfl, by intro W hW; clear hW; go_simp⟩) hd.out ?_
            simp only [List.setIfInBounds_toArray, List.set_cons_zero, List.set_cons_succ]
            refine takeD (i := 6) (d := 64) (v := .pointer (some ⟨ba, oa + 1, none⟩)) rfl rfl (by kernel_rfl) (by kernel_rfl) (by kernel_rfl) (fun _ _ _ h => h) (Or.inl ⟨by rfl, by intro W hW; clear hW; go_simp⟩) hd.out ?_
            simp only [List.setIfInBounds_toArray, List.set_cons_zero, List.set_cons_succ]
            refine takeD (i := 7) (d := 65) rfl rfl (by kernel_rfl) (by kernel_rfl) (by kernel_rfl) (fun _ _ _ h => h) (yieldsIf_load_mid (by rfl) 35 _ rfl ba (oa + 1) rfl (encKy x.2) _ KA.out Try.underlying35 rfl (by rw [l32.out]; exact hi32.out)) hd.out ?_
            simp only [List.setIfInBounds_toArray, List.set_cons_zero, List.set_cons_succ]
            refine takeD (i := 8) (d := 66) rfl rfl (by kernel_rfl) (by kernel_rfl) (by kernel_rfl) (fun _ _ _ h => h) (yieldsIf_build (by rfl) 55 _ rfl #[(0, .string x.1), (1, .bool true), (3, .agg (encKy x.2).toArray)] (by rw [List.map_toArray]; rfl) _ (fun W _ => buildOff x.1 x.2 W)) hd.out ?_
            simp only [List.setIfInBounds_toArray, List.set_cons_zero, List.set_cons_succ]
            refine wpAnyH_ready (rs := [9]) (by kernel_rfl) (by simp) ?_
            refine AllReadyH.cons rfl (fun K hK => ?_) AllReadyH.nil
            rw [if_pos (by rfl)]
            refine wp_store_mid 55 _ _ rfl T 0 (encT (tOff x)).toArray rfl rfl (by rw [List.size_toArray, l67.out]; exact hPd.out.ta.there) (by rw [List.size_toArray, l67.out]; exact hi67.out) (oneT.out _) ?_
            have hP1 : Hid (PTO wr (Wd.setCells T 0 (encT (tOff x))) T (tOff x)) := Lib.hid (hPd.out.all _)
            refine hK.out _ _ (hB.out _ _ _ hP1.out) (fun _ => ?_)
            clear hK K
            refine wpAnyH_done (by kernel_rfl) ?_ _
            rw [List.toList_toArray]
            obtain ⟨W1, hW1⟩ : ∃ W1, Hid (∀ _ : Unit, Wd.setCells T 0 (encT (tOff x)) = W1) := ⟨_, Lib.hid fun _ => rfl⟩
            rw [hW1.out ()] at hP1 ⊢
            clear hW1 hPd hd
            have dy1 := NB.out W1 (hB.out _ _ _ hP1.out)
            have dn1 : W1.cell? ⟨T, 0, none⟩ = some (.string x.1) := hP1.out.ta.nm
            go_wp2_with (refine wpList_slL1 rfl _ _ rfl rfl rfl (by omega) ?_)
            go_quiet (fail)
            go_wp2_with fail
            generalize hwq : World.drewN W1 _ = Wp
            have hWp : Hid (PTO wr Wp T (tOff x)) := Lib.hid (by rw [← hwq]; exact hP1.out.drew _)
            clear hwq
            refine wp_region_held (S := fun W => Below w2.heap.size w2 W) (by kernel_rfl) ?_
            change wpAnyH _ _ _ _ _ _ _ _ (World.drew _)
            obtain ⟨Wd, hWd⟩ : ∃ Wd, Hid (∀ _ : Unit, World.drew Wp = Wd) := ⟨_, Lib.hid fun _ => rfl⟩
            have hPd := Lib.hid hWp.out.drew1
            rw [hWd.out ()] at hPd ⊢
            have hd : Hid (Below w2.heap.size w2 Wd) := Lib.hid (hB.out _ _ _ hPd.out)
            clear hWd
            have f2 : Wd.frozen? ⟨T, 2, none⟩ = false := hPd.out.ta.frozen (by decide)
            have c2 : Wd.cell? ⟨T, 2, none⟩ = some (.bool (tOff x).has) := hPd.out.ta.hs
            refine takeD (i := 0) (d := 86) (v := .slice (some ⟨bb, ob, none⟩) nb cb) rfl rfl (by kernel_rfl) (by kernel_rfl) (by kernel_rfl) (fun _ _ _ h => h) (Or.inl ⟨by rfl, by intro W hW; clear hW; go_simp⟩) hd.out ?_
            simp only [List.setIfInBounds_toArray, List.set_cons_zero, List.set_cons_succ]
            refine takeD (i := 1) (d := 87) (v := .pointer (some ⟨bb, ob, none⟩)) rfl rfl (by kernel_rfl) (by kernel_rfl) (by kernel_rfl) (fun _ _ _ h => h) (Or.inl ⟨by rfl, by intro W hW; clear hW; go_simp⟩) hd.out ?_
            simp only [List.setIfInBounds_toArray, List.set_cons_zero, List.set_cons_succ]
            refine takeD (i := 2) (d := 88) (v := .pointer (some ⟨bb, ob + 1, none⟩)) rfl rfl (by kernel_rfl) (by kernel_rfl) (by kernel_rfl) (fun _ _ _ h => h) (Or.inl ⟨by rfl, by intro W hW; clear hW; go_simp⟩) hd.out ?_
            simp only [List.setIfInBounds_toArray, List.set_cons_zero, List.set_cons_succ]
            refine takeD (i := 3) (d := 89) rfl rfl (by kernel_rfl) (by kernel_rfl) (by kernel_rfl) (fun _ _ _ h => h) (yieldsIf_load_mid (by rfl) 35 _ rfl bb (ob + 1) rfl (encKy y.2) _ KB.out Try.underlying35 rfl (by rw [l32.out]; exact hi32.out)) hd.out ?_
            simp only [List.setIfInBounds_toArray, List.set_cons_zero, List.set_cons_succ]
            refine takeD (i := 4) (d := 90) (v := .pointer (some ⟨T, 2, none⟩)) rfl rfl (by kernel_rfl) (by kernel_rfl) (by kernel_rfl) (fun _ _ _ h => h) (Or.inl ⟨by rfl, by intro W hW; clear hW; go_simp⟩) hd.out ?_
            simp only [List.setIfInBounds_toArray, List.set_cons_zero, List.set_cons_succ]
            refine wpAnyH_ready (rs := [5]) (by kernel_rfl) (by simp) ?_
            refine AllReadyH.cons rfl (fun K hK => ?_) AllReadyH.nil
            go_simp
            have hP2 : Hid (PTO wr (Wd.setCell ⟨T, 2, none⟩ (.bool true)) T { tOff x with has := true }) := Lib.hid (hPd.out.has true)
            obtain ⟨We, hWe⟩ : ∃ We, Hid (∀ _ : Unit, Wd.setCell ⟨T, 2, none⟩ (.bool true) = We) := ⟨_, Lib.hid fun _ => rfl⟩
            rw [hWe.out ()] at hP2 ⊢
            refine hK.out _ _ (hB.out _ _ _ hP2.out) (fun _ => ?_)
            clear hK K hWe hPd hd f2 c2
            have hd : Hid (Below w2.heap.size w2 We) := Lib.hid (hB.out _ _ _ hP2.out)
            refine takeD (i := 6) (d := 91) (v := .pointer (some ⟨T, 35, none⟩)) rfl rfl (by kernel_rfl) (by kernel_rfl) (by kernel_rfl) (fun _ _ _ h => h) (Or.inl ⟨by rfl, by intro W hW; clear hW; go_simp⟩) hd.out ?_
            simp only [List.setIfInBounds_toArray, List.set_cons_zero, List.set_cons_succ]
            refine wpAnyH_ready (rs := [7]) (by kernel_rfl) (by simp) ?_
            refine AllReadyH.cons rfl (fun K hK => ?_) AllReadyH.nil
            rw [if_pos (by rfl)]
            refine wp_store_mid 35 _ _ rfl T 35 (encKy y.2).toArray rfl rfl (by rw [List.size_toArray, l32.out]; exact hP2.out.ta.k35) (by rw [List.size_toArray, l32.out]; exact hi32.out) (oneK.out _) ?_
            have hW3 : Hid (PTO wr (We.setCells T 35 (encKy y.2)) T { { tOff x with has := true } with new := y.2 }) := Lib.hid (hP2.out.key y.2)
            refine hK.out _ _ (hB.out _ _ _ hW3.out) (fun _ => ?_)
            clear hK K
            refine wpAnyH_done (by kernel_rfl) ?_ _
            rw [List.toList_toArray]
            obtain ⟨W3, hWf⟩ : ∃ Wf, Hid (∀ _ : Unit, We.setCells T 35 (encKy y.2) = Wf) := ⟨_, Lib.hid fun _ => rfl⟩
            rw [hWf.out ()] at hW3 ⊢
            clear hWf hP2
            have hW3 : Hid (PTO wr W3 T (tBoth x y)) := hW3
            by_cases hke0 : x.2 = y.2
            · have hmq : Hid (mergeQ (x :: ra') (y :: rb') = mergeQ ra' rb') := Lib.hid (by rw [mergeQ_xy, if_neg (by rw [hxy]; decide), if_neg (by rw [hyx]; decide), if_pos hke0])
              have hke := Lib.hid hke0
              clear hke0
              obtain ⟨Wr, hWr0⟩ : ∃ Wr, W3 = Wr := ⟨_, rfl⟩
              rw [hWr0] at hW3 ⊢
              have hWr := hW3
              clear hWr0
              have hgu := guT .neq
              have e0 : Wr.cell? ⟨T, 0, none⟩ = some (.string x.1) := hWr.out.ta.nm
              have e1 : Wr.cell? ⟨T, 1, none⟩ = some (.bool true) := hWr.out.ta.hd
              have e2 : Wr.cell? ⟨T, 2, none⟩ = some (.bool true) := hWr.out.ta.hs
              have hO := Lib.hid (hI.out.below hWr.out.bel).own
              have hne : ∀ W, (binOp .neq 55 (.agg (encT ⟨x.1, true, true, y.2, x.2⟩).toArray) (.agg (encT (tBoth x y)).toArray)).run Try.prog W = .ok (.bool false) W := fun W => by rw [neT, show decide (⟨x.1, true, true, y.2, x.2⟩ = tBoth x y) = true from decide_eq_true ((tBoth_back x y).2 hke.out)]; rfl
              have hsz : Hid (w2.heap.size ≤ Wr.heap.size) := Lib.hid (hB.out _ _ _ hWr.out).size
              go_wp2_with (first
                | (refine wpList_slL1 rfl _ _ rfl rfl rfl (by omega) ?_)
                | (refine wpList_load_mid rfl 35 _ rfl T 35 rfl (encKy y.2) _ hWr.out.ta.new_ Try.underlying35 rfl (by rw [l32.out]; exact hi32.out) ?_)
                | (refine wpList_load_mid rfl 35 _ rfl T 3 rfl (encKy x.2) _ hWr.out.ta.old Try.underlying35 rfl (by rw [l32.out]; exact hi32.out) ?_)
                | (refine wpList_load_mid rfl 55 _ rfl T 0 rfl (encT (tBoth x y)) _ hWr.out.ta.row Try.underlying55 rfl (by rw [l67.out]; exact hi67.out) ?_)
                | (refine wpList_buildTn rfl _ rfl x.1 true true y.2 x.2 (by rw [List.map_toArray]; rfl) ?_)
                | fail)
              go_roundw
              case rel => exact ⟨ra', rb', na - 1, ca - 1, nb - 1, cb - 1, no, co, cutR (some ⟨ba, oa, none⟩) 1 ca, cutR (some ⟨bb, ob, none⟩) 1 cb, Ao, O, by omega, by omega, rfl, rfl, rfl, LA', LB', Lib.hid ((hI.out.below hWr.out.bel).skip (by simp only [List.length_cons]; omega) hmq.out)⟩
              case measure => simp [slLen]; omega
            · have hmq : Hid (mergeQ (x :: ra') (y :: rb') = tBoth x y :: mergeQ ra' rb') := Lib.hid (by rw [mergeQ_xy, if_neg (by rw [hxy]; decide), if_neg (by rw [hyx]; decide), if_neg hke0])
              have hke := Lib.hid hke0
              clear hke0
              obtain ⟨Wr, hWr0⟩ : ∃ Wr, W3 = Wr := ⟨_, rfl⟩
              rw [hWr0] at hW3 ⊢
              have hWr := hW3
              clear hWr0
              have hgu := guT .neq
              have e0 : Wr.cell? ⟨T, 0, none⟩ = some (.string x.1) := hWr.out.ta.nm
              have e1 : Wr.cell? ⟨T, 1, none⟩ = some (.bool true) := hWr.out.ta.hd
              have e2 : Wr.cell? ⟨T, 2, none⟩ = some (.bool true) := hWr.out.ta.hs
              have hO := Lib.hid (hI.out.below hWr.out.bel).own
              have hne : ∀ W, (binOp .neq 55 (.agg (encT ⟨x.1, true, true, y.2, x.2⟩).toArray) (.agg (encT (tBoth x y)).toArray)).run Try.prog W = .ok (.bool true) W := fun W => by rw [neT, show decide (⟨x.1, true, true, y.2, x.2⟩ = tBoth x y) = false from decide_eq_false (fun h => hke.out ((tBoth_back x y).1 h))]; rfl
              have hsz : Hid (w2.heap.size ≤ Wr.heap.size) := Lib.hid (hB.out _ _ _ hWr.out).size
              go_wp2_with (first
                | (refine wpList_slL1 rfl _ _ rfl rfl rfl (by omega) ?_)
                | (refine wpList_load_mid rfl 35 _ rfl T 35 rfl (encKy y.2) _ hWr.out.ta.new_ Try.underlying35 rfl (by rw [l32.out]; exact hi32.out) ?_)
                | (refine wpList_load_mid rfl 35 _ rfl T 3 rfl (encKy x.2) _ hWr.out.ta.old Try.underlying35 rfl (by rw [l32.out]; exact hi32.out) ?_)
                | (refine wpList_load_mid rfl 55 _ rfl T 0 rfl (encT (tBoth x y)) _ hWr.out.ta.row Try.underlying55 rfl (by rw [l67.out]; exact hi67.out) ?_)
                | (refine wpList_buildTn rfl _ rfl x.1 true true y.2 x.2 (by rw [List.map_toArray]; rfl) ?_)
                | (refine wpList_bslT rfl (tBoth x y) _ rfl rfl ?_)
                | (at_builtin; refine wpList_app1 elT _ (encT (tBoth x y)).toArray (by simp [encT_length]) rfl _ _ rfl rfl hO.out rfl (by intro u hu; exact encT_one (tBoth x y) u (by simpa using hu)) (by unfold maxLen; omega) (by omega) hsz.out (no + 1) rfl (rowsT O ++ encT (tBoth x y)) (by simp) ?_
                   intro A4 c4 w4 o4 at4 b4
                   have hN := Lib.hid ((hI.out.below hWr.out.bel).more (t := tBoth x y) o4 b4 (by simp only [List.length_cons]; omega) hmq.out)
                   clear o4 at4 b4))
              go_roundw
              case rel => exact ⟨ra', rb', na - 1, ca - 1, nb - 1, cb - 1, no + 1, c4, cutR (some ⟨ba, oa, none⟩) 1 ca, cutR (some ⟨bb, ob, none⟩) 1 cb, A4, _, by omega, by omega, rfl, rfl, rfl, LA', LB', hN⟩
              case measure => simp [slLen]; omega
          · skip
            have q4 : (x.1.toList == y.1.toList) = false := by rw [bytes_eq]; exact decide_eq_false hxe
            have hyx : ltS y.1 x.1 = true := by
              cases hyx : ltS y.1 x.1 with
              | true => rfl
              | false => exact absurd (of_decide_eq_true ((bytes_eq _ _).symm.trans (beq_iff_eq.2 (ltS_three hxy hyx)))) hxe
            have hmq : Hid (mergeQ (x :: ra') (y :: rb') = tOn y :: mergeQ (x :: ra') rb') := Lib.hid (by rw [mergeQ_xy, if_neg (by rw [hxy]; decide), if_pos hyx])
            go_quiet (fail)
            generalize hwq : World.drewN W0 _ = Wq
            have hWq : Hid (PTO wr Wq T zT) := Lib.hid (by rw [← hwq]; exact hP0.out.drew _)
            clear hwq
            have dy1 := NB.out Wq (hB.out _ _ _ hWq.out)
            have c0 : Wq.cell? ⟨T, 0, none⟩ = some (.string zT.name) := hWq.out.ta.nm
            have f0 : Wq.frozen? ⟨T, 0, none⟩ = false := hWq.out.ta.frozen (by decide)
            go_wp2_with fail
            have hP1 : Hid (PTO wr (Wq.setCell ⟨T, 0, none⟩ (.string y.1)) T { zT with name := y.1 }) := Lib.hid (hWq.out.name y.1)
            obtain ⟨W1, hW1⟩ : ∃ W1, Hid (∀ _ : Unit, Wq.setCell ⟨T, 0, none⟩ (.string y.1) = W1) := ⟨_, Lib.hid fun _ => rfl⟩
            rw [hW1.out ()] at hP1 ⊢
            clear hW1 c0 f0 dy1
            have dy1 := NB.out W1 (hB.out _ _ _ hP1.out)
            have dn1 : W1.cell? ⟨T, 0, none⟩ = some (.string y.1) := hP1.out.ta.nm
            have q5 : (y.1.toList == y.1.toList) = true := by simp
            go_quiet (fail)
            go_wp2_with fail
            generalize hwq : World.drewN W1 _ = Wp
            have hWp : Hid (PTO wr Wp T (({ zT with name := y.1 } : TurnT))) := Lib.hid (by rw [← hwq]; exact hP1.out.drew _)
            clear hwq
            refine wp_region_held (S := fun W => Below w2.heap.size w2 W) (by kernel_rfl) ?_
            change wpAnyH _ _ _ _ _ _ _ _ (World.drew _)
            obtain ⟨Wd, hWd⟩ : ∃ Wd, Hid (∀ _ : Unit, World.drew Wp = Wd) := ⟨_, Lib.hid fun _ => rfl⟩
            have hPd := Lib.hid hWp.out.drew1
            rw [hWd.out ()] at hPd ⊢
            have hd : Hid (Below w2.heap.size w2 Wd) := Lib.hid (hB.out _ _ _ hPd.out)
            clear hWd
            have f2 : Wd.frozen? ⟨T, 2, none⟩ = false := hPd.out.ta.frozen (by decide)
            have c2 : Wd.cell? ⟨T, 2, none⟩ = some (.bool (({ zT with name := y.1 } : TurnT)).has) := hPd.out.ta.hs
            refine takeD (i := 0) (d := 86) (v := .slice (some ⟨bb, ob, none⟩) nb cb) rfl rfl (by kernel_rfl) (by kernel_rfl) (by kernel_rfl) (fun _ _ _ h => h) (Or.inl ⟨by rfl, by intro W hW; clear hW; go_simp⟩) hd.out ?_
            simp only [List.setIfInBounds_toArray, List.set_cons_zero, List.set_cons_succ]
            refine takeD (i := 1) (d := 87) (v := .pointer (some ⟨bb, ob, none⟩)) rfl rfl (by kernel_rfl) (by kernel_rfl) (by kernel_rfl) (fun _ _ _ h => h) (Or.inl ⟨by rfl, by intro W hW; clear hW; go_simp⟩) hd.out ?_
            simp only [List.setIfInBounds_toArray, List.set_cons_zero, List.set_cons_succ]
            refine takeD (i := 2) (d := 88) (v := .pointer (some ⟨bb, ob + 1, none⟩)) rfl rfl (by kernel_rfl) (by kernel_rfl) (by kernel_rfl) (fun _ _ _ h => h) (Or.inl ⟨by rfl, by intro W hW; clear hW; go_simp⟩) hd.out ?_
            simp only [List.setIfInBounds_toArray, List.set_cons_zero, List.set_cons_succ]
            refine takeD (i := 3) (d := 89) rfl rfl (by kernel_rfl) (by kernel_rfl) (by kernel_rfl) (fun _ _ _ h => h) (yieldsIf_load_mid (by rfl) 35 _ rfl bb (ob + 1) rfl (encKy y.2) _ KB.out Try.underlying35 rfl (by rw [l32.out]; exact hi32.out)) hd.out ?_
            simp only [List.setIfInBounds_toArray, List.set_cons_zero, List.set_cons_succ]
            refine takeD (i := 4) (d := 90) (v := .pointer (some ⟨T, 2, none⟩)) rfl rfl (by kernel_rfl) (by kernel_rfl) (by kernel_rfl) (fun _ _ _ h => h) (Or.inl ⟨by rfl, by intro W hW; clear hW; go_simp⟩) hd.out ?_
            simp only [List.setIfInBounds_toArray, List.set_cons_zero, List.set_cons_succ]
            refine wpAnyH_ready (rs := [5]) (by kernel_rfl) (by simp) ?_
            refine AllReadyH.cons rfl (fun K hK => ?_) AllReadyH.nil
            go_simp
            have hP2 : Hid (PTO wr (Wd.setCell ⟨T, 2, none⟩ (.bool true)) T { ({ zT with name := y.1 } : TurnT) with has := true }) := Lib.hid (hPd.out.has true)
            obtain ⟨We, hWe⟩ : ∃ We, Hid (∀ _ : Unit, Wd.setCell ⟨T, 2, none⟩ (.bool true) = We) := ⟨_, Lib.hid fun _ => rfl⟩
            rw [hWe.out ()] at hP2 ⊢
            refine hK.out _ _ (hB.out _ _ _ hP2.out) (fun _ => ?_)
            clear hK K hWe hPd hd f2 c2
            have hd : Hid (Below w2.heap.size w2 We) := Lib.hid (hB.out _ _ _ hP2.out)
            refine takeD (i := 6) (d := 91) (v := .pointer (some ⟨T, 35, none⟩)) rfl rfl (by kernel_rfl) (by kernel_rfl) (by kernel_rfl) (fun _ _ _ h => h) (Or.inl ⟨by rfl, by intro W hW; clear hW; go_simp⟩) hd.out ?_
            simp only [List.setIfInBounds_toArray, List.set_cons_zero, List.set_cons_succ]
            refine wpAnyH_ready (rs := [7]) (by kernel_rfl) (by simp) ?_
            refine AllReadyH.cons rfl (fun K hK => ?_) AllReadyH.nil
            rw [if_pos (by rfl)]
            refine wp_store_mid 35 _ _ rfl T 35 (encKy y.2).toArray rfl rfl (by rw [List.size_toArray, l32.out]; exact hP2.out.ta.k35) (by rw [List.size_toArray, l32.out]; exact hi32.out) (oneK.out _) ?_
            have hW3 : Hid (PTO wr (We.setCells T 35 (encKy y.2)) T { { ({ zT with name := y.1 } : TurnT) with has := true } with new := y.2 }) := Lib.hid (hP2.out.key y.2)
            refine hK.out _ _ (hB.out _ _ _ hW3.out) (fun _ => ?_)
            clear hK K
            refine wpAnyH_done (by kernel_rfl) ?_ _
            rw [List.toList_toArray]
            obtain ⟨W3, hWf⟩ : ∃ Wf, Hid (∀ _ : Unit, We.setCells T 35 (encKy y.2) = Wf) := ⟨_, Lib.hid fun _ => rfl⟩
            rw [hWf.out ()] at hW3 ⊢
            clear hWf hP2
            have hW3 : Hid (PTO wr W3 T (tOn y)) := hW3
            obtain ⟨Wr, hWr0⟩ : ∃ Wr, W3 = Wr := ⟨_, rfl⟩
            rw [hWr0] at hW3 ⊢
            have hWr := hW3
            clear hWr0
            have hgu := guT .neq
            have e0 : Wr.cell? ⟨T, 0, none⟩ = some (.string y.1) := hWr.out.ta.nm
            have e1 : Wr.cell? ⟨T, 1, none⟩ = some (.bool false) := hWr.out.ta.hd
            have e2 : Wr.cell? ⟨T, 2, none⟩ = some (.bool true) := hWr.out.ta.hs
            have hO := Lib.hid (hI.out.below hWr.out.bel).own
            have hne : ∀ W, (binOp .neq 55 (.agg (encT ⟨y.1, true, false, y.2, kZ⟩).toArray) (.agg (encT (tOn y)).toArray)).run Try.prog W = .ok (.bool true) W := fun W => by rw [neT, show decide (⟨y.1, true, false, y.2, kZ⟩ = tOn y) = false from decide_eq_false (tOn_back y)]; rfl
            have hsz : Hid (w2.heap.size ≤ Wr.heap.size) := Lib.hid (hB.out _ _ _ hWr.out).size
            go_wp2_with (first
              | (refine wpList_slL1 rfl _ _ rfl rfl rfl (by omega) ?_)
              | (refine wpList_load_mid rfl 35 _ rfl T 35 rfl (encKy y.2) _ hWr.out.ta.new_ Try.underlying35 rfl (by rw [l32.out]; exact hi32.out) ?_)
              | (refine wpList_load_mid rfl 35 _ rfl T 3 rfl (encKy kZ) _ hWr.out.ta.old Try.underlying35 rfl (by rw [l32.out]; exact hi32.out) ?_)
              | (refine wpList_load_mid rfl 55 _ rfl T 0 rfl (encT (tOn y)) _ hWr.out.ta.row Try.underlying55 rfl (by rw [l67.out]; exact hi67.out) ?_)
              | (refine wpList_buildTn rfl _ rfl y.1 true false y.2 kZ (by rw [List.map_toArray]; rfl) ?_)
              | (refine wpList_bslT rfl (tOn y) _ rfl rfl ?_)
              | (at_builtin; refine wpList_app1 elT _ (encT (tOn y)).toArray (by simp [encT_length]) rfl _ _ rfl rfl hO.out rfl (by intro u hu; exact encT_one (tOn y) u (by simpa using hu)) (by unfold maxLen; omega) (by omega) hsz.out (no + 1) rfl (rowsT O ++ encT (tOn y)) (by simp) ?_
                 intro A4 c4 w4 o4 at4 b4
                 have hN := Lib.hid ((hI.out.below hWr.out.bel).more (t := tOn y) o4 b4 (by simp only [List.length_cons]; omega) hmq.out)
                 clear o4 at4 b4))
            go_roundw
            case rel => exact ⟨x :: ra', rb', na, ca, nb - 1, cb - 1, no + 1, c4, some ⟨ba, oa, none⟩, cutR (some ⟨bb, ob, none⟩) 1 cb, A4, _, by omega, by omega, rfl, rfl, rfl, LA, LB', hN⟩
            case measure => simp [slLen]; omega
      · have gj : decide (0 < nb) = false := decide_eq_false hb
        have gj0 : ((nb : Int) == 0) = true := by simp; omega
        have hrb : rb = [] := by
          obtain rfl : nb = 0 := by omega
          exact LB.out.nil
        subst hrb
        have hmq : Hid (mergeQ (x :: ra') [] = tOff x :: mergeQ ra' []) := Lib.hid (by rw [mergeQ_xn])
        go_wp2_with fail
        have hP0 : Hid (PTO wr (wr.alloc (.cells (encT zT).toArray 55)) wr.heap.size zT) := Lib.hid (PTO.new wr zT)
        obtain ⟨W0, hW0⟩ : ∃ W0, Hid (∀ _ : Unit, wr.alloc (.cells (encT zT).toArray 55) = W0) := ⟨_, Lib.hid fun _ => rfl⟩
        obtain ⟨T, hT⟩ : ∃ T, Hid (∀ _ : Unit, wr.heap.size = T) := ⟨_, Lib.hid fun _ => rfl⟩
        rw [hW0.out ()] at hP0 ⊢
        rw [hT.out ()] at hP0 ⊢
        clear hW0 hT
        have dx := NA.out W0 (hB.out _ _ _ hP0.out)
        go_quiet (fail)
        go_wp2_with fail
        generalize hwq : World.drewN W0 _ = Wq
        have hWq : Hid (PTO wr Wq T zT) := Lib.hid (by rw [← hwq]; exact hP0.out.drew _)
        clear hwq
        refine wp_region_held (S := fun W => Below w2.heap.size w2 W) (by kernel_rfl) ?_
        change wpAnyH _ _ _ _ _ _ _ _ (World.drew _)
        obtain ⟨Wd, hWd⟩ : ∃ Wd, Hid (∀ _ : Unit, World.drew Wq = Wd) := ⟨_, Lib.hid fun _ => rfl⟩
        have hPd := Lib.hid hWq.out.drew1
        rw [hWd.out ()] at hPd ⊢
        have hd : Hid (Below w2.heap.size w2 Wd) := Lib.hid (hB.out _ _ _ hPd.out)
        clear hWd
        refine takeD (i := 0) (d := 58) (v := .slice (some ⟨ba, oa, none⟩) na ca) rfl rfl (by kernel_rfl) (by kernel_rfl) (by kernel_rfl) (fun _ _ _ h => h) (Or.inl ⟨by rfl, by intro W hW; clear hW; go_simp⟩) hd.out ?_
        simp only [List.setIfInBounds_toArray, List.set_cons_zero, List.set_cons_succ]
        refine takeD (i := 1) (d := 59) (v := .pointer (some ⟨ba, oa, none⟩)) rfl rfl (by kernel_rfl) (by kernel_rfl) (by kernel_rfl) (fun _ _ _ h => h) (Or.inl ⟨by rfl, by intro W hW; clear hW; go_simp⟩) hd.out ?_
        simp only [List.setIfInBounds_toArray, List.set_cons_zero, List.set_cons_succ]
        refine takeD (i := 2) (d := 60) (v := .pointer (some ⟨ba, oa, none⟩)) rfl rfl (by kernel_rfl) (by kernel_rfl) (by kernel_rfl) (fun _ _ _ h => h) (Or.inl ⟨by rfl, by intro W hW; clear hW; go_simp⟩) hd.out ?_
        simp only [List.setIfInBounds_toArray, List.set_cons_zero, List.set_cons_succ]
        refine takeD (i := 3) (d := 61) (v := .string x.1) rfl rfl (by kernel_rfl) (by kernel_rfl) (by kernel_rfl) (fun _ _ _ h => h) (Or.inl ⟨by rfl, by intro W hW; have cc := NA.out W hW; clear hW; go_simp⟩) hd.out ?_
        simp only [List.setIfInBounds_toArray, List.set_cons_zero, List.set_cons_succ]
        refine takeD (i := 4) (d := 62) (v := .slice (some ⟨ba, oa, none⟩) na ca) rfl rfl (by kernel_rfl) (by kernel_rfl) (by kernel_rfl) (fun _ _ _ h => h) (Or.inl ⟨by rfl, by intro W hW; clear hW; go_simp⟩) hd.out ?_
        simp only [List.setIfInBounds_toArray, List.set_cons_zero, List.set_cons_succ]
        refine takeD (i := 5) (d := 63) (v := .pointer (some ⟨ba, oa, none⟩)) rfl rfl (by kernel_rfl) (by kernel_rfl) (by kernel_rfl) (fun _ _ _ h => h) (Or.inl ⟨by rfl, by intro W hW; clear hW; go_simp⟩) hd.out ?_
        simp only [List.setIfInBounds_toArray, List.set_cons_zero, List.set_cons_succ]
        refine takeD (i := 6) (d := 64) (v := .pointer (some ⟨ba, oa + 1, none⟩)) rfl rfl (by kernel_rfl) (by kernel_rfl) (by kernel_rfl) (fun _ _ _ h => h) (Or.inl ⟨by rfl, by intro W hW; clear hW; go_simp⟩) hd.out ?_
        simp only [List.setIfInBounds_toArray, List.set_cons_zero, List.set_cons_succ]
        refine takeD (i := 7) (d := 65) rfl rfl (by kernel_rfl) (by kernel_rfl) (by kernel_rfl) (fun _ _ _ h => h) (yieldsIf_load_mid (by rfl) 35 _ rfl ba (oa + 1) rfl (encKy x.2) _ KA.out Try.underlying35 rfl (by rw [l32.out]; exact hi32.out)) hd.out ?_
        simp only [List.setIfInBounds_toArray, List.set_cons_zero, List.set_cons_succ]
        refine takeD (i := 8) (d := 66) rfl rfl (by kernel_rfl) (by kernel_rfl) (by kernel_rfl) (fun _ _ _ h => h) (yieldsIf_build (by rfl) 55 _ rfl #[(0, .string x.1), (1, .bool true), (3, .agg (encKy x.2).toArray)] (by rw [List.map_toArray]; rfl) _ (fun W _ => buildOff x.1 x.2 W)) hd.out ?_
        simp only [List.setIfInBounds_toArray, List.set_cons_zero, List.set_cons_succ]
        refine wpAnyH_ready (rs := [9]) (by kernel_rfl) (by simp) ?_
        refine AllReadyH.cons rfl (fun K hK => ?_) AllReadyH.nil
        rw [if_pos (by rfl)]
        refine wp_store_mid 55 _ _ rfl T 0 (encT (tOff x)).toArray rfl rfl (by rw [List.size_toArray, l67.out]; exact hPd.out.ta.there) (by rw [List.size_toArray, l67.out]; exact hi67.out) (oneT.out _) ?_
        have hP1 : Hid (PTO wr (Wd.setCells T 0 (encT (tOff x))) T (tOff x)) := Lib.hid (hPd.out.all _)
        refine hK.out _ _ (hB.out _ _ _ hP1.out) (fun _ => ?_)
        clear hK K
        refine wpAnyH_done (by kernel_rfl) ?_ _
        rw [List.toList_toArray]
        obtain ⟨W1, hW1⟩ : ∃ W1, Hid (∀ _ : Unit, Wd.setCells T 0 (encT (tOff x)) = W1) := ⟨_, Lib.hid fun _ => rfl⟩
        rw [hW1.out ()] at hP1 ⊢
        clear hW1 hPd hd
        have dn1 : W1.cell? ⟨T, 0, none⟩ = some (.string x.1) := hP1.out.ta.nm
        go_wp2_with (refine wpList_slL1 rfl _ _ rfl rfl rfl (by omega) ?_)
        go_quiet (fail)
        generalize hwq : World.drewN W1 _ = Wr
        have hWr : Hid (PTO wr Wr T (tOff x)) := Lib.hid (by rw [← hwq]; exact hP1.out.drew _)
        clear hwq
        have hgu := guT .neq
        have e0 : Wr.cell? ⟨T, 0, none⟩ = some (.string x.1) := hWr.out.ta.nm
        have e1 : Wr.cell? ⟨T, 1, none⟩ = some (.bool true) := hWr.out.ta.hd
        have e2 : Wr.cell? ⟨T, 2, none⟩ = some (.bool false) := hWr.out.ta.hs
        have hO := Lib.hid (hI.out.below hWr.out.bel).own
        have hne : ∀ W, (binOp .neq 55 (.agg (encT ⟨x.1, false, true, kZ, x.2⟩).toArray) (.agg (encT (tOff x)).toArray)).run Try.prog W = .ok (.bool true) W := fun W => by rw [neT, show decide (⟨x.1, false, true, kZ, x.2⟩ = tOff x) = false from decide_eq_false (tOff_back x)]; rfl
        have hsz : Hid (w2.heap.size ≤ Wr.heap.size) := Lib.hid (hB.out _ _ _ hWr.out).size
        go_wp2_with (first
          | (refine wpList_slL1 rfl _ _ rfl rfl rfl (by omega) ?_)
          | (refine wpList_load_mid rfl 35 _ rfl T 35 rfl (encKy kZ) _ hWr.out.ta.new_ Try.underlying35 rfl (by rw [l32.out]; exact hi32.out) ?_)
          | (refine wpList_load_mid rfl 35 _ rfl T 3 rfl (encKy x.2) _ hWr.out.ta.old Try.underlying35 rfl (by rw [l32.out]; exact hi32.out) ?_)
          | (refine wpList_load_mid rfl 55 _ rfl T 0 rfl (encT (tOff x)) _ hWr.out.ta.row Try.underlying55 rfl (by rw [l67.out]; exact hi67.out) ?_)
          | (refine wpList_buildTn rfl _ rfl x.1 false true kZ x.2 (by rw [List.map_toArray]; rfl) ?_)
          | (refine wpList_bslT rfl (tOff x) _ rfl rfl ?_)
          | (at_builtin; refine wpList_app1 elT _ (encT (tOff x)).toArray (by simp [encT_length]) rfl _ _ rfl rfl hO.out rfl (by intro u hu; exact encT_one (tOff x) u (by simpa using hu)) (by unfold maxLen; omega) (by omega) hsz.out (no + 1) rfl (rowsT O ++ encT (tOff x)) (by simp) ?_
             intro A4 c4 w4 o4 at4 b4
             have hN := Lib.hid ((hI.out.below hWr.out.bel).more (t := tOff x) o4 b4 (by simp only [List.length_cons]; omega) hmq.out)
             clear o4 at4 b4))
        go_roundw
        case rel => exact ⟨ra', [], na - 1, ca - 1, nb, cb, no + 1, c4, cutR (some ⟨ba, oa, none⟩) 1 ca, Ab, A4, _, by omega, by omega, rfl, rfl, rfl, LA', LB, hN⟩
        case measure => simp [slLen]; omega
    · have gi : decide (0 < na) = false := decide_eq_false ha
      by_cases hb : 0 < nb
      · have gj : decide (0 < nb) = true := decide_eq_true hb
        have gj0 : ((nb : Int) == 0) = false := by simp; omega
        have b3 : (0 : Int) < (nb : Int) := by omega
        obtain ⟨y, rb', rfl⟩ : ∃ x r, rb = x :: r := by
          cases rb with
          | nil => have := LB.out.len; simp at this; omega
          | cons x r => exact ⟨x, r, rfl⟩
        obtain ⟨bb, ob, rfl, hbb, nb0, kb0, lb0⟩ := LB.out.cons
        have NB := Lib.hid nb0
        have KB := Lib.hid kb0
        have LB' := Lib.hid lb0
        clear nb0 kb0 lb0
        have hra : ra = [] := by
          obtain rfl : na = 0 := by omega
          exact LA.out.nil
        subst hra
        have hmq : Hid (mergeQ [] (y :: rb') = tOn y :: mergeQ [] rb') := Lib.hid (by rw [mergeQ_ny])
        go_wp2_with fail
        have hP0 : Hid (PTO wr (wr.alloc (.cells (encT zT).toArray 55)) wr.heap.size zT) := Lib.hid (PTO.new wr zT)
        obtain ⟨W0, hW0⟩ : ∃ W0, Hid (∀ _ : Unit, wr.alloc (.cells (encT zT).toArray 55) = W0) := ⟨_, Lib.hid fun _ => rfl⟩
        obtain ⟨T, hT⟩ : ∃ T, Hid (∀ _ : Unit, wr.heap.size = T) := ⟨_, Lib.hid fun _ => rfl⟩
        rw [hW0.out ()] at hP0 ⊢
        rw [hT.out ()] at hP0 ⊢
        clear hW0 hT
        have dy := NB.out W0 (hB.out _ _ _ hP0.out)
        go_quiet (fail)
        generalize hwq : World.drewN W0 _ = Wq
        have hWq : Hid (PTO wr Wq T zT) := Lib.hid (by rw [← hwq]; exact hP0.out.drew _)
        clear hwq
        have dy1 := NB.out Wq (hB.out _ _ _ hWq.out)
        have c0 : Wq.cell? ⟨T, 0, none⟩ = some (.string zT.name) := hWq.out.ta.nm
        have f0 : Wq.frozen? ⟨T, 0, none⟩ = false := hWq.out.ta.frozen (by decide)
        go_wp2_with fail
        have hP1 : Hid (PTO wr (Wq.setCell ⟨T, 0, none⟩ (.string y.1)) T { zT with name := y.1 }) := Lib.hid (hWq.out.name y.1)
        obtain ⟨W1, hW1⟩ : ∃ W1, Hid (∀ _ : Unit, Wq.setCell ⟨T, 0, none⟩ (.string y.1) = W1) := ⟨_, Lib.hid fun _ => rfl⟩
        rw [hW1.out ()] at hP1 ⊢
        clear hW1 c0 f0 dy1
        have dy1 := NB.out W1 (hB.out _ _ _ hP1.out)
        have dn1 : W1.cell? ⟨T, 0, none⟩ = some (.string y.1) := hP1.out.ta.nm
        have q5 : (y.1.toList == y.1.toList) = true := by simp
        go_quiet (fail)
        go_wp2_with fail
        generalize hwq : World.drewN W1 _ = Wp
        have hWp : Hid (PTO wr Wp T (({ zT with name := y.1 } : TurnT))) := Lib.hid (by rw [← hwq]; exact hP1.out.drew _)
        clear hwq
        refine wp_region_held (S := fun W => Below w2.heap.size w2 W) (by kernel_rfl) ?_
        change wpAnyH _ _ _ _ _ _ _ _ (World.drew _)
        obtain ⟨Wd, hWd⟩ : ∃ Wd, Hid (∀ _ : Unit, World.drew Wp = Wd) := ⟨_, Lib.hid fun _ => rfl⟩
        have hPd := Lib.hid hWp.out.drew1
        rw [hWd.out ()] at hPd ⊢
        have hd : Hid (Below w2.heap.size w2 Wd) := Lib.hid (hB.out _ _ _ hPd.out)
        clear hWd
        have f2 : Wd.frozen? ⟨T, 2, none⟩ = false := hPd.out.ta.frozen (by decide)
        have c2 : Wd.cell? ⟨T, 2, none⟩ = some (.bool (({ zT with name := y.1 } : TurnT)).has) := hPd.out.ta.hs
        refine takeD (i := 0) (d := 86) (v := .slice (some ⟨bb, ob, none⟩) nb cb) rfl rfl (by kernel_rfl) (by kernel_rfl) (by kernel_rfl) (fun _ _ _ h => h) (Or.inl ⟨by rfl, by intro W hW; clear hW; go_simp⟩) hd.out ?_
        simp only [List.setIfInBounds_toArray, List.set_cons_zero, List.set_cons_succ]
        refine takeD (i := 1) (d := 87) (v := .pointer (some ⟨bb, ob, none⟩)) rfl rfl (by kernel_rfl) (by kernel_rfl) (by kernel_rfl) (fun _ _ _ h => h) (Or.inl ⟨by rfl, by intro W hW; clear hW; go_simp⟩) hd.out ?_
        simp only [List.setIfInBounds_toArray, List.set_cons_zero, List.set_cons_succ]
        refine takeD (i := 2) (d := 88) (v := .pointer (some ⟨bb, ob + 1, none⟩)) rfl rfl (by kernel_rfl) (by kernel_rfl) (by kernel_rfl) (fun _ _ _ h => h) (Or.inl ⟨by rfl, by intro W hW; clear hW; go_simp⟩) hd.out ?_
        simp only [List.setIfInBounds_toArray, List.set_cons_zero, List.set_cons_succ]
        refine takeD (i := 3) (d := 89) rfl rfl (by kernel_rfl) (by kernel_rfl) (by kernel_rfl) (fun _ _ _ h => h) (yieldsIf_load_mid (by rfl) 35 _ rfl bb (ob + 1) rfl (encKy y.2) _ KB.out Try.underlying35 rfl (by rw [l32.out]; exact hi32.out)) hd.out ?_
        simp only [List.setIfInBounds_toArray, List.set_cons_zero, List.set_cons_succ]
        refine takeD (i := 4) (d := 90) (v := .pointer (some ⟨T, 2, none⟩)) rfl rfl (by kernel_rfl) (by kernel_rfl) (by kernel_rfl) (fun _ _ _ h => h) (Or.inl ⟨by rfl, by intro W hW; clear hW; go_simp⟩) hd.out ?_
        simp only [List.setIfInBounds_toArray, List.set_cons_zero, List.set_cons_succ]
        refine wpAnyH_ready (rs := [5]) (by kernel_rfl) (by simp) ?_
        refine AllReadyH.cons rfl (fun K hK => ?_) AllReadyH.nil
        go_simp
        have hP2 : Hid (PTO wr (Wd.setCell ⟨T, 2, none⟩ (.bool true)) T { ({ zT with name := y.1 } : TurnT) with has := true }) := Lib.hid (hPd.out.has true)
        obtain ⟨We, hWe⟩ : ∃ We, Hid (∀ _ : Unit, Wd.setCell ⟨T, 2, none⟩ (.bool true) = We) := ⟨_, Lib.hid fun _ => rfl⟩
        rw [hWe.out ()] at hP2 ⊢
        refine hK.out _ _ (hB.out _ _ _ hP2.out) (fun _ => ?_)
        clear hK K hWe hPd hd f2 c2
        have hd : Hid (Below w2.heap.size w2 We) := Lib.hid (hB.out _ _ _ hP2.out)
        refine takeD (i := 6) (d := 91) (v := .pointer (some ⟨T, 35, none⟩)) rfl rfl (by kernel_rfl) (by kernel_rfl) (by kernel_rfl) (fun _ _ _ h => h) (Or.inl ⟨by rfl, by intro W hW; clear hW; go_simp⟩) hd.out ?_
        simp only [List.setIfInBounds_toArray, List.set_cons_zero, List.set_cons_succ]
        refine wpAnyH_ready (rs := [7]) (by kernel_rfl) (by simp) ?_
        refine AllReadyH.cons rfl (fun K hK => ?_) AllReadyH.nil
        rw [if_pos (by rfl)]
        refine wp_store_mid 35 _ _ rfl T 35 (encKy y.2).toArray rfl rfl (by rw [List.size_toArray, l32.out]; exact hP2.out.ta.k35) (by rw [List.size_toArray, l32.out]; exact hi32.out) (oneK.out _) ?_
        have hW3 : Hid (PTO wr (We.setCells T 35 (encKy y.2)) T { { ({ zT with name := y.1 } : TurnT) with has := true } with new := y.2 }) := Lib.hid (hP2.out.key y.2)
        refine hK.out _ _ (hB.out _ _ _ hW3.out) (fun _ => ?_)
        clear hK K
        refine wpAnyH_done (by kernel_rfl) ?_ _
        rw [List.toList_toArray]
        obtain ⟨W3, hWf⟩ : ∃ Wf, Hid (∀ _ : Unit, We.setCells T 35 (encKy y.2) = Wf) := ⟨_, Lib.hid fun _ => rfl⟩
        rw [hWf.out ()] at hW3 ⊢
        clear hWf hP2
        have hW3 : Hid (PTO wr W3 T (tOn y)) := hW3
        obtain ⟨Wr, hWr0⟩ : ∃ Wr, W3 = Wr := ⟨_, rfl⟩
        rw [hWr0] at hW3 ⊢
        have hWr := hW3
        clear hWr0
        have hgu := guT .neq
        have e0 : Wr.cell? ⟨T, 0, none⟩ = some (.string y.1) := hWr.out.ta.nm
        have e1 : Wr.cell? ⟨T, 1, none⟩ = some (.bool false) := hWr.out.ta.hd
        have e2 : Wr.cell? ⟨T, 2, none⟩ = some (.bool true) := hWr.out.ta.hs
        have hO := Lib.hid (hI.out.below hWr.out.bel).own
        have hne : ∀ W, (binOp .neq 55 (.agg (encT ⟨y.1, true, false, y.2, kZ⟩).toArray) (.agg (encT (tOn y)).toArray)).run Try.prog W = .ok (.bool true) W := fun W => by rw [neT, show decide (⟨y.1, true, false, y.2, kZ⟩ = tOn y) = false from decide_eq_false (tOn_back y)]; rfl
        have hsz : Hid (w2.heap.size ≤ Wr.heap.size) := Lib.hid (hB.out _ _ _ hWr.out).size
        go_wp2_with (first
          | (refine wpList_slL1 rfl _ _ rfl rfl rfl (by omega) ?_)
          | (refine wpList_load_mid rfl 35 _ rfl T 35 rfl (encKy y.2) _ hWr.out.ta.new_ Try.underlying35 rfl (by rw [l32.out]; exact hi32.out) ?_)
          | (refine wpList_load_mid rfl 35 _ rfl T 3 rfl (encKy kZ) _ hWr.out.ta.old Try.underlying35 rfl (by rw [l32.out]; exact hi32.out) ?_)
          | (refine wpList_load_mid rfl 55 _ rfl T 0 rfl (encT (tOn y)) _ hWr.out.ta.row Try.underlying55 rfl (by rw [l67.out]; exact hi67.out) ?_)
          | (refine wpList_buildTn rfl _ rfl y.1 true false y.2 kZ (by rw [List.map_toArray]; rfl) ?_)
          | (refine wpList_bslT rfl (tOn y) _ rfl rfl ?_)
          | (at_builtin; refine wpList_app1 elT _ (encT (tOn y)).toArray (by simp [encT_length]) rfl _ _ rfl rfl hO.out rfl (by intro u hu; exact encT_one (tOn y) u (by simpa using hu)) (by unfold maxLen; omega) (by omega) hsz.out (no + 1) rfl (rowsT O ++ encT (tOn y)) (by simp) ?_
             intro A4 c4 w4 o4 at4 b4
             have hN := Lib.hid ((hI.out.below hWr.out.bel).more (t := tOn y) o4 b4 (by simp only [List.length_cons]; omega) hmq.out)
             clear o4 at4 b4))
        go_roundw
        case rel => exact ⟨[], rb', na, ca, nb - 1, cb - 1, no + 1, c4, Aa, cutR (some ⟨bb, ob, none⟩) 1 cb, A4, _, by omega, by omega, rfl, rfl, rfl, LA, LB', hN⟩
        case measure => simp [slLen]; omega
      · have gj : decide (0 < nb) = false := decide_eq_false hb
        have hO : Hid (O = mergeQ a b) := Lib.hid (by
          have := hI.out.eq
          obtain rfl : na = 0 := by omega
          obtain rfl : nb = 0 := by omega
          rw [LA.out.nil, LB.out.nil, mergeQ_nn, List.append_nil] at this
          exact this)
        go_wp2_with fail
        go_ret2
        have hlen : (mergeQ a b).length = no := by rw [← hO.out]; exact hI.out.len
        refine ⟨.inl ⟨a, b, Ao, co, hu'.out, hv'.out, ?_, ?_⟩, hw2.out.trans (hI.out.bel.mono s2.out)⟩
        · rw [hlen]
          rfl
        · rw [hlen, ← hO.out]
          exact hI.out.own.base s2.out
end Go.Proofs.Ytakcnkmlglkkpaa

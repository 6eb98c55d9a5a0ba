/- ShaPieces: the law's walk. -/
import Derived.Test.YtfibfaablpoilaaDoorPieceM
import Derived.Test.YtfibfaablpoilaaDoorGearN
namespace Go.Proofs.YtfibfaablpoilaaDoor
open Go.RowKit
set_option linter.unusedSimpArgs false

set_option maxRecDepth 100000 in
set_option maxHeartbeats 8000000 in
theorem pieces_any (w : World) (ks : List Nat) (hT : Tabs w ks) (hk : ks.length = 64) (hkl : ∀ x ∈ ks, x < 4294967296) (hne : digest ks [97, 98] ≠ digest ks [97, 98, 99])
    (zP : List Pt) (AP : Option Addr) (P cP : Nat) (hP : zP.length = P) (rP : Rd w w.heap.size AP P (fun j => (zP[j]?.getD Pt.none_).v))
    (hb : ∀ i : Nat, Byt w w.heap.size (zP[i]?.getD Pt.none_).A (zP[i]?.getD Pt.none_).l) (h256 : ∀ i : Nat, ∀ b ∈ (zP[i]?.getD Pt.none_).l, b < 256) (hlen : ∀ i : Nat, (zP[i]?.getD Pt.none_).l.length ≤ (zP[i]?.getD Pt.none_).c ∧ (zP[i]?.getD Pt.none_).c ≤ 9223372036854775807) (hlb : ∀ i : Nat, (zP[i]?.getD Pt.none_).l.length ≤ 140737488351232) (hPb : P ≤ 5864062014635) :
    Calls Tryd.prog 6 #[.slice AP P cP] w fun e w' => e = .returned (.bool true) ∧ Below w.heap.size w w' := by
  have hz := zeroK
  have hzh := zeroH
  have hi74 : (Tryd.prog.info? 45).map (·.size) = some 74 := by kernel_rfl
  have hi32 : (Tryd.prog.info? 34).map (·.size) = some 32 := by kernel_rfl
  have hi74' := Lib.hid hi74
  have hi32' := Lib.hid hi32
  have hT' := Lib.hid hT
  have hk' := Lib.hid hk
  have hkl' := Lib.hid hkl
  have hP' := Lib.hid hP
  have rP' := Lib.hid rP
  have hb' := Lib.hid hb
  have h256' := Lib.hid h256
  have hlen' := Lib.hid hlen
  have hlb' := Lib.hid hlb
  have hlv := Lib.hid (lives_any w ks hT hk hkl hne)
  clear hi74 hi32 hT hk hkl hP rP hb h256 hlen hne hlb
  go_enter Tryd.func6, Tryd.ntmps6
  go_wp2_with fail
  refine hlv.out.mono ?_
  rintro e w1 ⟨rfl, hb1⟩
  have hB1 := Lib.hid hb1
  clear hb1 hlv
  go_wp2_with fail
  go_loop [3, 4] (fun tv iv => ∃ k L : Nat, k ≤ P ∧ L ≤ 1048576 ∧ iv = .int .i64 (k : Int) ∧ tv = .int .i64 (L : Int) ∧ Hid (∀ _ : Unit, (flatL zP k).length = L)) (fun _ iv => P - (intOf iv).toNat)
  case atStart => exact ⟨0, 0, by omega, by omega, rfl, rfl, Lib.hid fun _ => rfl⟩
  case round =>
    obtain ⟨k, L, hk, hL, rfl, rfl, hfl⟩ := hrel
    by_cases hlt : k < P
    · obtain ⟨bp, op, rfl, _, qp⟩ := (rP'.out.below hB1.out).get (k := k) hlt
      have hfs := flatL_succ (zs := zP) (k := k) (by rw [hP'.out]; exact hlt)
      have hzl := hlb'.out k
      generalize zP[k]?.getD Pt.none_ = z at qp hfs hzl
      obtain ⟨Az, lz, cz⟩ := z
      simp only [Pt.v] at qp
      simp only at hfs hzl
      obtain ⟨nz, hnz⟩ : ∃ n, Hid (lz.length = n) := ⟨_, Lib.hid rfl⟩
      rw [hnz.out] at qp hzl
      have hnew : Hid (∀ _ : Unit, (flatL zP (k + 1)).length = L + nz) := Lib.hid fun _ => by rw [hfs, List.length_append, hfl.out (), hnz.out]
      clear hfs
      by_cases hbig : (1048576 : Int) < (L : Int) + (nz : Int)
      · go_wp2_with fail
        go_ret
        exact ⟨rfl, hB1.out⟩
      · have hbig' : (L : Int) + (nz : Int) ≤ 1048576 := by omega
        clear hbig
        go_wp2_with fail
        go_round
        case rel => exact ⟨k + 1, L + nz, by omega, by omega, by go_num, by go_num, hnew⟩
        case measure => simp [intOf]; omega
    · obtain rfl : P = k := by omega
      clear hlt hk
      have hPS0 : PS w1 w1.heap.size (w1.heap.size + 1) ks ((w1.alloc (.cells (hcells (zeros 8) (zeros 64) 0 false).toArray 45)).alloc (.cells (hcells (zeros 8) (zeros 64) 0 false).toArray 45)) [] [] none 0 0 [] none 0 0 [] :=
        ⟨((Below.refl _ _).alloc (Nat.le_refl _) _).alloc (by simp) _, has_zero (HR.of_row (heap_alloc2_old w1 _ _) (by simp [zeros]) (by simp [zeros])), has_zero (HR.of_row (heap_alloc2_new w1 _ _) (by simp [zeros]) (by simp [zeros])), ownB_nil _ _ _, ownB_nil _ _ _, (fun k hk => by cases hk), by simp [blockOf], by simp [blockOf], by simp [blockOf], by simp [blockOf], by omega, Nat.le_refl _, by omega⟩
      have hPS0' := Lib.hid hPS0
      clear hPS0
      go_wp2_with fail
      generalize ((w1.alloc (.cells (hcells (zeros 8) (zeros 64) 0 false).toArray 45)).alloc (.cells (hcells (zeros 8) (zeros 64) 0 false).toArray 45)) = w2 at hPS0' ⊢
      generalize hgH : w1.heap.size = gH at hPS0' ⊢
      generalize hgF : gH + 1 = gF at hPS0' ⊢
      have hgH' := Lib.hid hgH
      have hgF' := Lib.hid hgF
      clear hgH hgF
      go_loopw [5, 8, 9, 10] (fun sv wv ov iv wr => ∃ (k s : Nat) (mf2 : List Nat) (Aw : Option Addr) (nw cw : Nat) (Ao2 : Option Addr) (no2 co2 : Nat), k ≤ P ∧ s ≤ k * 1048640 ∧ nw ≤ L ∧ no2 ≤ L ∧ iv = .int .i64 (k : Int) ∧ sv = .int .i64 (s : Int) ∧ wv = .slice Aw nw cw ∧ ov = .slice Ao2 no2 co2 ∧ Hid (PS w1 gH gF ks wr (flatL zP k) mf2 Aw nw cw (flatL zP k) Ao2 no2 co2 mf2) ∧ Hid (∀ b ∈ mf2, b < 256) ∧ Hid (k ≤ P / 2 → mf2 = [])) (fun _ _ _ iv _ => P - (intOf iv).toNat)
      case atStart => exact ⟨0, 0, [], none, 0, 0, none, 0, 0, by omega, by omega, by omega, by omega, rfl, rfl, rfl, rfl, hPS0', Lib.hid (by simp), Lib.hid fun _ => rfl⟩
      case round =>
        clear hPS0'
        obtain ⟨k, s, mf2, Aw, nw, cw, Ao2, no2, co2, hk, hs, hnw, hno, rfl, rfl, rfl, rfl, hPS2, hmb, hmid0⟩ := hrel
        by_cases hlt : k < P
        · have hBel := Lib.hid (hB1.out.trans (hPS2.out.bel.mono hB1.out.size))
          obtain ⟨bp, op, hAPe, hbpw, qp0⟩ := (rP'.out.below hB1.out).get (k := k) hlt
          have hmono := flatL_mono zP (show k + 1 ≤ P by omega)
          rw [hfl.out ()] at hmono
          have hfs := flatL_succ (zs := zP) (k := k) (by rw [hP'.out]; exact hlt)
          have hzb0 := hb'.out k
          have hz256 := h256'.out k
          have hzc := hlen'.out k
          have hfb := Lib.hid (flatL_bytes h256'.out k)
          generalize zP[k]?.getD Pt.none_ = z at qp0 hfs hzb0 hz256 hzc
          obtain ⟨Az, lz, cz⟩ := z
          simp only [Pt.v] at qp0
          simp only at hfs hzb0 hz256 hzc
          obtain ⟨nz, hnz⟩ : ∃ n, Hid (lz.length = n) := ⟨_, Lib.hid rfl⟩
          rw [hnz.out] at qp0 hzc
          have hcw := Lib.hid fun W (h : Below w1.heap.size w1 W) => (h.cell (p := ⟨bp, op + k, none⟩) (Nat.lt_of_lt_of_le hbpw hB1.out.size)).trans qp0
          have hzw := Lib.hid fun W (h : Below w1.heap.size w1 W) => (show Byt W W.heap.size Az lz from (hzb0.below (hB1.out.trans (h.mono hB1.out.size))).mono (hB1.out.trans (h.mono hB1.out.size)).size)
          have hwr := Lib.hid fun W (hh : Has W gH 0 ks (flatL zP k)) (h : Below w1.heap.size w1 W) => by
            have hx := hB1.out.trans (h.mono hB1.out.size)
            have htl := hT'.out.t.lt
            have hlk : (flatL zP k).length ≤ L := by
              have := flatL_mono zP (show k ≤ P by omega)
              rwa [hfl.out ()] at this
            have hgl : w.heap.size ≤ gH := by rw [← hgH'.out]; exact hB1.out.size
            have hw := write_any W ks (flatL zP k) lz Az cz hh (hT'.out.below hx).t (by omega) hk'.out hkl'.out hfb.out hz256 (hzw.out W h) (fun hpos a ha => by
              obtain ⟨b, off, hA, hbl, _⟩ := hzb0 hpos
              rw [hA] at ha
              cases ha
              show b ≠ gH
              omega) (by rw [hnz.out]; exact hzc.1) hzc.2 (by rw [hnz.out]; omega)
            rw [hnz.out] at hw
            exact hw
          have hnwl := Lib.hid (show (flatL zP k).length = nw by have := hPS2.out.ow.len; rw [u8s_length] at this; omega)
          have hsum : nw + nz ≤ L := by
            have : (flatL zP (k + 1)).length = nw + nz := by rw [hfs, List.length_append, hnwl.out, hnz.out]
            omega
          subst hAPe
          have hfs' := Lib.hid hfs
          have hz256' := Lib.hid hz256
          clear hfs hzb0 hz256 hfb
          by_cases hmid : k = P / 2
          · have hm1 : (P : Int) / 2 = (k : Int) := by omega
            have hmf0 := hmid0.out (by omega)
            subst hmf0
            obtain ⟨rsH, ⟨stH, bgH, hHR, hstH⟩, hrsH⟩ := hPS2.out.hh
            obtain ⟨rsF, ⟨stF, bgF, hFR, _⟩, _⟩ := hPS2.out.hf
            have hcp := hFR.copy (n := (flatL zP k).length) (bg := bgH) hHR.l1 hHR.l2
            have h74 : (hcells stH rsH (flatL zP k).length bgH).length = 74 := hcells_length hHR.l1 hHR.l2
            have hrg := hHR.range
            have hone : ∀ v ∈ hcells stH rsH (flatL zP k).length bgH, v.oneCell' = true := by
              intro v hv
              simp only [hcells, u32s, u8s, List.mem_append, List.mem_map, List.mem_cons, List.not_mem_nil, or_false] at hv
              rcases hv with ⟨x, _, rfl⟩ | ⟨x, _, rfl⟩ | rfl | rfl <;> rfl
            have hPS3 := Lib.hid (hPS2.out.wrF (b := flatL zP k) ⟨rsH, ⟨stH, bgH, hcp.2, hstH⟩, hrsH⟩ (Chg.cells wr gF (Nat.le_refl 0) (by rw [h74]; exact Nat.le_refl _)))
            have hth := hcp.1
            generalize hcells stH rsH (flatL zP k).length bgH = hc at hcp h74 hrg hone hPS3 hth
            have hrg' := Lib.hid hrg
            have hth' := Lib.hid hth
            have hone' := Lib.hid (all_oneCell_toArray hone)
            have h74' := Lib.hid h74
            have hno0 : no2 = 0 := by have := hPS2.out.oo.len; simp [u8s] at this; omega
            subst hno0
            clear hcp hrg hone h74 hHR hFR hstH hrsH hPS2 hth hmid
            go_wp2_with (first
              | (refine wpList_load_mid rfl 45 _ rfl gH 0 rfl hc _ hrg'.out Tryd.underlying45 rfl (by rw [h74'.out]; exact hi74'.out) ?_)
              | (refine wpList_store_mid rfl 45 _ _ rfl gF 0 hc.toArray rfl rfl (by rw [List.size_toArray]; exact hth'.out) (by rw [List.size_toArray, h74'.out]; exact hi74'.out) hone'.out ?_; rw [List.toList_toArray]; generalize wr.setCells gF 0 hc = wA at hPS3 ⊢)
              | (at_builtin; refine wpList_appB elB _ rfl (.tmp 44) (.tmp 45) rfl rfl hPS3.out.oo rfl hnwl.out hPS3.out.ow.byt (by omega) hPS3.out.bel.size nw (by omega) ?_; intro Ao5 co5 wB o5 at5 _; have hPS4 := Lib.hid (hPS3.out.appO o5 at5); have qp4 := hcw.out _ hPS4.out.bel; clear o5 at5))
            rw [List.nil_append] at hPS4
            clear hPS3
            refine (hwr.out wB hPS4.out.hh hPS4.out.bel).mono ?_
            rintro e wC ⟨⟨v, rfl⟩, hhC, hcC⟩
            have hPSC := Lib.hid (hPS4.out.wrH hhC hcC)
            have qpC := hcw.out _ hPSC.out.bel
            clear hhC hcC hPS4 hwr
            by_cases hc1 : (1048576 : Int) < (s : Int) + ((nw : Int) + (nz : Int) + 64)
            · by_cases hc2 : (k : Int) < (P : Int) - 1
              · have hcx : ((1048576 : Int) < (s : Int) + ((nw : Int) + (nz : Int) + 64) ∧ (k : Int) < (P : Int) - 1) := ⟨hc1, hc2⟩
                clear hcx
                go_wp2_with (at_builtin; refine wpList_appB elB _ rfl (.tmp 52) (.tmp 56) rfl rfl hPSC.out.ow rfl hnz.out (hzw.out _ hPSC.out.bel) (by omega) hPSC.out.bel.size (nw + nz) rfl ?_; intro Aw6 cw6 wD o6 at6 _; have hPSD := Lib.hid (hPSC.out.appW o6 at6); clear o6 at6)
                go_roundw
                case rel => exact ⟨k + 1, s + (nw + nz + 64), flatL zP k, Aw6, nw + nz, cw6, Ao5, nw, co5, by omega, by omega, by omega, by omega, by go_num, by go_num, rfl, rfl, Lib.hid (by rw [hfs'.out]; exact hPSD.out), Lib.hid (flatL_bytes h256'.out k), Lib.hid fun h => absurd h (by omega)⟩
                case measure => simp [intOf]; omega
              · have hc3 : (P : Int) - 1 ≤ (k : Int) := by omega
                clear hc2
                go_wp2_with (at_builtin; refine wpList_appB elB _ rfl (.tmp 52) (.tmp 56) rfl rfl hPSC.out.ow rfl hnz.out (hzw.out _ hPSC.out.bel) (by omega) hPSC.out.bel.size (nw + nz) rfl ?_; intro Aw6 cw6 wD o6 at6 _; have hPSD := Lib.hid (hPSC.out.appW o6 at6); clear o6 at6)
                have hML := Lib.hid (show (flatL zP k ++ lz).length = nw + nz by rw [List.length_append, hnwl.out, hnz.out])
                have hM256 := Lib.hid (show ∀ b ∈ flatL zP k ++ lz, b < 256 from fun b hb => by rcases List.mem_append.1 hb with h | h; exact flatL_bytes h256'.out k b h; exact hz256'.out b h)
                have hBD := Lib.hid (hB1.out.trans (hPSD.out.bel.mono hB1.out.size))
                have hle6 := hPSD.out.ow.le
                have hcs := Lib.hid (shaSum_any wD ks (flatL zP k ++ lz) Aw6 cw6 (hT'.out.below hBD.out).t hk'.out hkl'.out hM256.out hPSD.out.ow.byt (by rw [hML.out]; exact hle6.1) (by have := hle6.2; unfold maxLen at this; omega))
                obtain ⟨D, hD⟩ : ∃ D, Hid (∀ _ : Unit, digest ks (flatL zP k ++ lz) = D) := ⟨_, Lib.hid fun _ => rfl⟩
                have hDn : D.length = 32 := by rw [← hD.out ()]; exact digest_length _ _
                rw [hML.out, hD.out ()] at hcs
                have hsD : (u8s D).toArray.size = 32 := by simp [u8s, hDn]
                have hsDl : (u8s D).length = 32 := by simp [u8s, hDn]
                have qD : ∀ W, (binOp .neq 34 (.agg (u8s D).toArray) (.agg (u8s D).toArray)).run Tryd.prog W = .ok (.bool false) W := fun W => by rw [neK hDn hDn]; simp
                have hsu := Lib.hid fun W (h : Has W gH 0 ks (flatL zP k ++ lz)) (hb : Below w.heap.size w W) => sum_any W ks (flatL zP k ++ lz) h (hT'.out.below hb).t hk'.out hkl'.out hM256.out (by rw [hML.out]; omega)
                have hln := Lib.hid fun W (h : Has W gH 0 ks (flatL zP k ++ lz)) => len_any W h
                simp only [hD.out (), hML.out, Int.natCast_add] at hsu hln
                clear hle6 hDn
                refine hcs.out.mono ?_
                rintro e wE ⟨rfl, hbE⟩
                have hPSE := Lib.hid (hPSD.out.keep hbE)
                clear hcs hbE hBD
                go_wp2_with (refine wpList_store_row rfl 34 _ _ rfl wE.heap.size (u8s D).toArray rfl rfl 34 _ (heap_alloc_new wE _) (by rw [hsD]; exact hi32'.out) (by rw [hsD]; simp [u8s, zeros]) (all_oneCell_toArray u8s_one) ?_; obtain ⟨k8, hb8⟩ := key_new wE D; have k8' := Lib.hid k8; have hPSq := Lib.hid (hPSE.out.keep hb8); clear k8 hb8; generalize ((wE.alloc (.cells (u8s (zeros 32)).toArray 34)).setRow wE.heap.size (u8s D).toArray) = wq at k8' hPSq ⊢; generalize wE.heap.size = g8 at k8' ⊢)
                have rg := Lib.hid fun (W : World) (h : Blk8 W g8 D) => show W.rangeAt g8 0 (u8s D) from fun j v hv => by
                  rw [Nat.zero_add, cell_of_row _ _ _ _ _ _ h]
                  simpa using hv
                refine wp_region_held (S := fun W => Blk8 W g8 D ∧ PS w1 gH gF ks W (flatL zP k ++ lz) (flatL zP k) Aw6 (nw + nz) cw6 (flatL zP k ++ lz) Ao5 nw co5 (flatL zP k)) (by kernel_rfl) ?_
                change wpAnyH _ _ _ _ _ _ _ _ (World.drew _)
                have hd := Lib.hid (show Blk8 wq.drew g8 D ∧ PS w1 gH gF ks wq.drew (flatL zP k ++ lz) (flatL zP k) Aw6 (nw + nz) cw6 (flatL zP k ++ lz) Ao5 nw co5 (flatL zP k) from ⟨k8'.out, hPSq.out.keep (below_drewN (Below.refl _ _) 1)⟩)
                refine wpAnyH_take (i := 1) rfl (by kernel_rfl) (by kernel_rfl) (by kernel_rfl) (fun _ _ _ h => h) (yieldsIf_load_mid (by rfl) 34 _ rfl g8 0 rfl (u8s D) _ (fun _ h => rg.out _ h.1) Tryd.underlying34 rfl (by rw [hsDl]; exact hi32'.out)) hd.out ?_
                simp only [Act.put, List.setIfInBounds_toArray, List.set_cons_zero, List.set_cons_succ]
                refine wpAnyH_ready (rs := [0]) (by kernel_rfl) (by simp) ?_
                refine AllReadyH.cons rfl (fun K hK => ?_) AllReadyH.nil
                go_simp
                go_wp2_with (go_at_call 19; refine (hsu.out _ hd.out.2.hh (hB1.out.trans (hd.out.2.bel.mono hB1.out.size))).mono ?_; rintro e wz ⟨rfl, hbz⟩; skip)
                have hz2 := Lib.hid (show Blk8 wz g8 D ∧ PS w1 gH gF ks wz (flatL zP k ++ lz) (flatL zP k) Aw6 (nw + nz) cw6 (flatL zP k ++ lz) Ao5 nw co5 (flatL zP k) from ⟨hd.out.1.below hbz, hd.out.2.keep hbz⟩)
                clear hbz hd
                refine hK.out _ _ hz2.out (fun _ => ?_)
                clear hK K
                refine wpAnyH_ready (rs := [2]) (by kernel_rfl) (by simp) ?_
                refine AllReadyH.cons rfl (fun K hK => ?_) AllReadyH.nil
                go_simp
                refine hK.out _ _ hz2.out (fun _ => ?_)
                clear hK K
                refine wpAnyH_ready (rs := [3]) (by kernel_rfl) (by simp) ?_
                refine AllReadyH.cons rfl (fun K hK => ?_) AllReadyH.nil
                go_simp
                refine hK.out _ _ hz2.out (fun _ => ?_)
                clear hK K
                refine wpAnyH_take (i := 5) (v := .slice Aw6 (nw + nz) cw6) rfl (by kernel_rfl) (by kernel_rfl) (by kernel_rfl) (fun _ _ _ h => h) (Or.inl ⟨by rfl, by intro W _; go_simp⟩) hz2.out ?_
                simp only [Act.put, List.setIfInBounds_toArray, List.set_cons_zero, List.set_cons_succ]
                refine wpAnyH_take (i := 6) (v := .int .i64 ((nw : Int) + (nz : Int))) rfl (by kernel_rfl) (by kernel_rfl) (by kernel_rfl) (fun _ _ _ h => h) (Or.inl ⟨by rfl, by intro W _; go_simp⟩) hz2.out ?_
                simp only [Act.put, List.setIfInBounds_toArray, List.set_cons_zero, List.set_cons_succ]
                refine wpAnyH_take (i := 7) (v := .int .u64 ((nw : Int) + (nz : Int))) rfl (by kernel_rfl) (by kernel_rfl) (by kernel_rfl) (fun _ _ _ h => h) (Or.inl ⟨by rfl, by intro W _; go_simp; rw [IntKind.wrap_u64]; omega⟩) hz2.out ?_
                simp only [Act.put, List.setIfInBounds_toArray, List.set_cons_zero, List.set_cons_succ]
                refine wpAnyH_ready (rs := [4]) (by kernel_rfl) (by simp) ?_
                refine AllReadyH.cons rfl (fun K hK => ?_) AllReadyH.nil
                go_simp
                go_wp2_with (go_at_call 20; refine (hln.out _ hz2.out.2.hh).mono ?_; rintro e wy ⟨rfl, rfl⟩; skip)
                refine hK.out _ _ hz2.out (fun _ => ?_)
                clear hK K
                refine wpAnyH_ready (rs := [8]) (by kernel_rfl) (by simp) ?_
                refine AllReadyH.cons rfl (fun K hK => ?_) AllReadyH.nil
                go_simp
                refine hK.out _ _ hz2.out (fun _ => ?_)
                clear hK K
                refine wpAnyH_ready (rs := [9]) (by kernel_rfl) (by simp) ?_
                refine AllReadyH.cons rfl (fun K hK => ?_) AllReadyH.nil
                go_simp
                refine hK.out _ _ hz2.out (fun _ => ?_)
                clear hK K
                refine wpAnyH_done (by kernel_rfl) ?_ _
                have hPSz := Lib.hid hz2.out.2
                clear hz2 hsu hln rg k8' hPSq hPSE hPSD
                go_wp2_with fail
                go_roundw
                case rel => exact ⟨k + 1, s + (nw + nz + 64), flatL zP k, Aw6, nw + nz, cw6, Ao5, nw, co5, by omega, by omega, by omega, by omega, by go_num, by go_num, rfl, rfl, Lib.hid (by rw [hfs'.out]; exact hPSz.out), Lib.hid (flatL_bytes h256'.out k), Lib.hid fun h => absurd h (by omega)⟩
                case measure => simp [intOf]; omega
            · have hc3 : decide ((1048576 : Int) < (s : Int) + ((nw : Int) + (nz : Int) + 64)) = false := decide_eq_false hc1
              clear hc1
              go_wp2_with (at_builtin; refine wpList_appB elB _ rfl (.tmp 52) (.tmp 56) rfl rfl hPSC.out.ow rfl hnz.out (hzw.out _ hPSC.out.bel) (by omega) hPSC.out.bel.size (nw + nz) rfl ?_; intro Aw6 cw6 wD o6 at6 _; have hPSD := Lib.hid (hPSC.out.appW o6 at6); clear o6 at6)
              have hML := Lib.hid (show (flatL zP k ++ lz).length = nw + nz by rw [List.length_append, hnwl.out, hnz.out])
              have hM256 := Lib.hid (show ∀ b ∈ flatL zP k ++ lz, b < 256 from fun b hb => by rcases List.mem_append.1 hb with h | h; exact flatL_bytes h256'.out k b h; exact hz256'.out b h)
              have hBD := Lib.hid (hB1.out.trans (hPSD.out.bel.mono hB1.out.size))
              have hle6 := hPSD.out.ow.le
              have hcs := Lib.hid (shaSum_any wD ks (flatL zP k ++ lz) Aw6 cw6 (hT'.out.below hBD.out).t hk'.out hkl'.out hM256.out hPSD.out.ow.byt (by rw [hML.out]; exact hle6.1) (by have := hle6.2; unfold maxLen at this; omega))
              obtain ⟨D, hD⟩ : ∃ D, Hid (∀ _ : Unit, digest ks (flatL zP k ++ lz) = D) := ⟨_, Lib.hid fun _ => rfl⟩
              have hDn : D.length = 32 := by rw [← hD.out ()]; exact digest_length _ _
              rw [hML.out, hD.out ()] at hcs
              have hsD : (u8s D).toArray.size = 32 := by simp [u8s, hDn]
              have hsDl : (u8s D).length = 32 := by simp [u8s, hDn]
              have qD : ∀ W, (binOp .neq 34 (.agg (u8s D).toArray) (.agg (u8s D).toArray)).run Tryd.prog W = .ok (.bool false) W := fun W => by rw [neK hDn hDn]; simp
              have hsu := Lib.hid fun W (h : Has W gH 0 ks (flatL zP k ++ lz)) (hb : Below w.heap.size w W) => sum_any W ks (flatL zP k ++ lz) h (hT'.out.below hb).t hk'.out hkl'.out hM256.out (by rw [hML.out]; omega)
              have hln := Lib.hid fun W (h : Has W gH 0 ks (flatL zP k ++ lz)) => len_any W h
              simp only [hD.out (), hML.out, Int.natCast_add] at hsu hln
              clear hle6 hDn
              refine hcs.out.mono ?_
              rintro e wE ⟨rfl, hbE⟩
              have hPSE := Lib.hid (hPSD.out.keep hbE)
              clear hcs hbE hBD
              go_wp2_with (refine wpList_store_row rfl 34 _ _ rfl wE.heap.size (u8s D).toArray rfl rfl 34 _ (heap_alloc_new wE _) (by rw [hsD]; exact hi32'.out) (by rw [hsD]; simp [u8s, zeros]) (all_oneCell_toArray u8s_one) ?_; obtain ⟨k8, hb8⟩ := key_new wE D; have k8' := Lib.hid k8; have hPSq := Lib.hid (hPSE.out.keep hb8); clear k8 hb8; generalize ((wE.alloc (.cells (u8s (zeros 32)).toArray 34)).setRow wE.heap.size (u8s D).toArray) = wq at k8' hPSq ⊢; generalize wE.heap.size = g8 at k8' ⊢)
              have rg := Lib.hid fun (W : World) (h : Blk8 W g8 D) => show W.rangeAt g8 0 (u8s D) from fun j v hv => by
                rw [Nat.zero_add, cell_of_row _ _ _ _ _ _ h]
                simpa using hv
              refine wp_region_held (S := fun W => Blk8 W g8 D ∧ PS w1 gH gF ks W (flatL zP k ++ lz) (flatL zP k) Aw6 (nw + nz) cw6 (flatL zP k ++ lz) Ao5 nw co5 (flatL zP k)) (by kernel_rfl) ?_
              change wpAnyH _ _ _ _ _ _ _ _ (World.drew _)
              have hd := Lib.hid (show Blk8 wq.drew g8 D ∧ PS w1 gH gF ks wq.drew (flatL zP k ++ lz) (flatL zP k) Aw6 (nw + nz) cw6 (flatL zP k ++ lz) Ao5 nw co5 (flatL zP k) from ⟨k8'.out, hPSq.out.keep (below_drewN (Below.refl _ _) 1)⟩)
              refine wpAnyH_take (i := 1) rfl (by kernel_rfl) (by kernel_rfl) (by kernel_rfl) (fun _ _ _ h => h) (yieldsIf_load_mid (by rfl) 34 _ rfl g8 0 rfl (u8s D) _ (fun _ h => rg.out _ h.1) Tryd.underlying34 rfl (by rw [hsDl]; exact hi32'.out)) hd.out ?_
              simp only [Act.put, List.setIfInBounds_toArray, List.set_cons_zero, List.set_cons_succ]
              refine wpAnyH_ready (rs := [0]) (by kernel_rfl) (by simp) ?_
              refine AllReadyH.cons rfl (fun K hK => ?_) AllReadyH.nil
              go_simp
              go_wp2_with (go_at_call 19; refine (hsu.out _ hd.out.2.hh (hB1.out.trans (hd.out.2.bel.mono hB1.out.size))).mono ?_; rintro e wz ⟨rfl, hbz⟩; skip)
              have hz2 := Lib.hid (show Blk8 wz g8 D ∧ PS w1 gH gF ks wz (flatL zP k ++ lz) (flatL zP k) Aw6 (nw + nz) cw6 (flatL zP k ++ lz) Ao5 nw co5 (flatL zP k) from ⟨hd.out.1.below hbz, hd.out.2.keep hbz⟩)
              clear hbz hd
              refine hK.out _ _ hz2.out (fun _ => ?_)
              clear hK K
              refine wpAnyH_ready (rs := [2]) (by kernel_rfl) (by simp) ?_
              refine AllReadyH.cons rfl (fun K hK => ?_) AllReadyH.nil
              go_simp
              refine hK.out _ _ hz2.out (fun _ => ?_)
              clear hK K
              refine wpAnyH_ready (rs := [3]) (by kernel_rfl) (by simp) ?_
              refine AllReadyH.cons rfl (fun K hK => ?_) AllReadyH.nil
              go_simp
              refine hK.out _ _ hz2.out (fun _ => ?_)
              clear hK K
              refine wpAnyH_take (i := 5) (v := .slice Aw6 (nw + nz) cw6) rfl (by kernel_rfl) (by kernel_rfl) (by kernel_rfl) (fun _ _ _ h => h) (Or.inl ⟨by rfl, by intro W _; go_simp⟩) hz2.out ?_
              simp only [Act.put, List.setIfInBounds_toArray, List.set_cons_zero, List.set_cons_succ]
              refine wpAnyH_take (i := 6) (v := .int .i64 ((nw : Int) + (nz : Int))) rfl (by kernel_rfl) (by kernel_rfl) (by kernel_rfl) (fun _ _ _ h => h) (Or.inl ⟨by rfl, by intro W _; go_simp⟩) hz2.out ?_
              simp only [Act.put, List.setIfInBounds_toArray, List.set_cons_zero, List.set_cons_succ]
              refine wpAnyH_take (i := 7) (v := .int .u64 ((nw : Int) + (nz : Int))) rfl (by kernel_rfl) (by kernel_rfl) (by kernel_rfl) (fun _ _ _ h => h) (Or.inl ⟨by rfl, by intro W _; go_simp; rw [IntKind.wrap_u64]; omega⟩) hz2.out ?_
              simp only [Act.put, List.setIfInBounds_toArray, List.set_cons_zero, List.set_cons_succ]
              refine wpAnyH_ready (rs := [4]) (by kernel_rfl) (by simp) ?_
              refine AllReadyH.cons rfl (fun K hK => ?_) AllReadyH.nil
              go_simp
              go_wp2_with (go_at_call 20; refine (hln.out _ hz2.out.2.hh).mono ?_; rintro e wy ⟨rfl, rfl⟩; skip)
              refine hK.out _ _ hz2.out (fun _ => ?_)
              clear hK K
              refine wpAnyH_ready (rs := [8]) (by kernel_rfl) (by simp) ?_
              refine AllReadyH.cons rfl (fun K hK => ?_) AllReadyH.nil
              go_simp
              refine hK.out _ _ hz2.out (fun _ => ?_)
              clear hK K
              refine wpAnyH_ready (rs := [9]) (by kernel_rfl) (by simp) ?_
              refine AllReadyH.cons rfl (fun K hK => ?_) AllReadyH.nil
              go_simp
              refine hK.out _ _ hz2.out (fun _ => ?_)
              clear hK K
              refine wpAnyH_done (by kernel_rfl) ?_ _
              have hPSz := Lib.hid hz2.out.2
              clear hz2 hsu hln rg k8' hPSq hPSE hPSD
              go_wp2_with fail
              go_roundw
              case rel => exact ⟨k + 1, s + (nw + nz + 64), flatL zP k, Aw6, nw + nz, cw6, Ao5, nw, co5, by omega, by omega, by omega, by omega, by go_num, by go_num, rfl, rfl, Lib.hid (by rw [hfs'.out]; exact hPSz.out), Lib.hid (flatL_bytes h256'.out k), Lib.hid fun h => absurd h (by omega)⟩
              case measure => simp [intOf]; omega
          · have hm1 : ¬ (k : Int) = (P : Int) / 2 := by omega
            have qp4 := hcw.out _ hPS2.out.bel
            go_wp2_with fail
            refine (hwr.out wr hPS2.out.hh hPS2.out.bel).mono ?_
            rintro e wC ⟨⟨v, rfl⟩, hhC, hcC⟩
            have hPSC := Lib.hid (hPS2.out.wrH hhC hcC)
            have qpC := hcw.out _ hPSC.out.bel
            clear hhC hcC hPS2 hwr
            by_cases hc1 : (1048576 : Int) < (s : Int) + ((nw : Int) + (nz : Int) + 64)
            · by_cases hc2 : (k : Int) < (P : Int) - 1
              · have hcx : ((1048576 : Int) < (s : Int) + ((nw : Int) + (nz : Int) + 64) ∧ (k : Int) < (P : Int) - 1) := ⟨hc1, hc2⟩
                clear hcx
                go_wp2_with (at_builtin; refine wpList_appB elB _ rfl (.tmp 52) (.tmp 56) rfl rfl hPSC.out.ow rfl hnz.out (hzw.out _ hPSC.out.bel) (by omega) hPSC.out.bel.size (nw + nz) rfl ?_; intro Aw6 cw6 wD o6 at6 _; have hPSD := Lib.hid (hPSC.out.appW o6 at6); clear o6 at6)
                go_roundw
                case rel => exact ⟨k + 1, s + (nw + nz + 64), mf2, Aw6, nw + nz, cw6, Ao2, no2, co2, by omega, by omega, by omega, by omega, by go_num, by go_num, rfl, rfl, Lib.hid (by rw [hfs'.out]; exact hPSD.out), hmb, Lib.hid fun h => hmid0.out (by omega)⟩
                case measure => simp [intOf]; omega
              · have hc3 : (P : Int) - 1 ≤ (k : Int) := by omega
                clear hc2
                go_wp2_with (at_builtin; refine wpList_appB elB _ rfl (.tmp 52) (.tmp 56) rfl rfl hPSC.out.ow rfl hnz.out (hzw.out _ hPSC.out.bel) (by omega) hPSC.out.bel.size (nw + nz) rfl ?_; intro Aw6 cw6 wD o6 at6 _; have hPSD := Lib.hid (hPSC.out.appW o6 at6); clear o6 at6)
                have hML := Lib.hid (show (flatL zP k ++ lz).length = nw + nz by rw [List.length_append, hnwl.out, hnz.out])
                have hM256 := Lib.hid (show ∀ b ∈ flatL zP k ++ lz, b < 256 from fun b hb => by rcases List.mem_append.1 hb with h | h; exact flatL_bytes h256'.out k b h; exact hz256'.out b h)
                have hBD := Lib.hid (hB1.out.trans (hPSD.out.bel.mono hB1.out.size))
                have hle6 := hPSD.out.ow.le
                have hcs := Lib.hid (shaSum_any wD ks (flatL zP k ++ lz) Aw6 cw6 (hT'.out.below hBD.out).t hk'.out hkl'.out hM256.out hPSD.out.ow.byt (by rw [hML.out]; exact hle6.1) (by have := hle6.2; unfold maxLen at this; omega))
                obtain ⟨D, hD⟩ : ∃ D, Hid (∀ _ : Unit, digest ks (flatL zP k ++ lz) = D) := ⟨_, Lib.hid fun _ => rfl⟩
                have hDn : D.length = 32 := by rw [← hD.out ()]; exact digest_length _ _
                rw [hML.out, hD.out ()] at hcs
                have hsD : (u8s D).toArray.size = 32 := by simp [u8s, hDn]
                have hsDl : (u8s D).length = 32 := by simp [u8s, hDn]
                have qD : ∀ W, (binOp .neq 34 (.agg (u8s D).toArray) (.agg (u8s D).toArray)).run Tryd.prog W = .ok (.bool false) W := fun W => by rw [neK hDn hDn]; simp
                have hsu := Lib.hid fun W (h : Has W gH 0 ks (flatL zP k ++ lz)) (hb : Below w.heap.size w W) => sum_any W ks (flatL zP k ++ lz) h (hT'.out.below hb).t hk'.out hkl'.out hM256.out (by rw [hML.out]; omega)
                have hln := Lib.hid fun W (h : Has W gH 0 ks (flatL zP k ++ lz)) => len_any W h
                simp only [hD.out (), hML.out, Int.natCast_add] at hsu hln
                clear hle6 hDn
                refine hcs.out.mono ?_
                rintro e wE ⟨rfl, hbE⟩
                have hPSE := Lib.hid (hPSD.out.keep hbE)
                clear hcs hbE hBD
                go_wp2_with (refine wpList_store_row rfl 34 _ _ rfl wE.heap.size (u8s D).toArray rfl rfl 34 _ (heap_alloc_new wE _) (by rw [hsD]; exact hi32'.out) (by rw [hsD]; simp [u8s, zeros]) (all_oneCell_toArray u8s_one) ?_; obtain ⟨k8, hb8⟩ := key_new wE D; have k8' := Lib.hid k8; have hPSq := Lib.hid (hPSE.out.keep hb8); clear k8 hb8; generalize ((wE.alloc (.cells (u8s (zeros 32)).toArray 34)).setRow wE.heap.size (u8s D).toArray) = wq at k8' hPSq ⊢; generalize wE.heap.size = g8 at k8' ⊢)
                have rg := Lib.hid fun (W : World) (h : Blk8 W g8 D) => show W.rangeAt g8 0 (u8s D) from fun j v hv => by
                  rw [Nat.zero_add, cell_of_row _ _ _ _ _ _ h]
                  simpa using hv
                refine wp_region_held (S := fun W => Blk8 W g8 D ∧ PS w1 gH gF ks W (flatL zP k ++ lz) (mf2) Aw6 (nw + nz) cw6 (flatL zP k ++ lz) Ao2 no2 co2 (mf2)) (by kernel_rfl) ?_
                change wpAnyH _ _ _ _ _ _ _ _ (World.drew _)
                have hd := Lib.hid (show Blk8 wq.drew g8 D ∧ PS w1 gH gF ks wq.drew (flatL zP k ++ lz) (mf2) Aw6 (nw + nz) cw6 (flatL zP k ++ lz) Ao2 no2 co2 (mf2) from ⟨k8'.out, hPSq.out.keep (below_drewN (Below.refl _ _) 1)⟩)
                refine wpAnyH_take (i := 1) rfl (by kernel_rfl) (by kernel_rfl) (by kernel_rfl) (fun _ _ _ h => h) (yieldsIf_load_mid (by rfl) 34 _ rfl g8 0 rfl (u8s D) _ (fun _ h => rg.out _ h.1) Tryd.underlying34 rfl (by rw [hsDl]; exact hi32'.out)) hd.out ?_
                simp only [Act.put, List.setIfInBounds_toArray, List.set_cons_zero, List.set_cons_succ]
                refine wpAnyH_ready (rs := [0]) (by kernel_rfl) (by simp) ?_
                refine AllReadyH.cons rfl (fun K hK => ?_) AllReadyH.nil
                go_simp
                go_wp2_with (go_at_call 19; refine (hsu.out _ hd.out.2.hh (hB1.out.trans (hd.out.2.bel.mono hB1.out.size))).mono ?_; rintro e wz ⟨rfl, hbz⟩; skip)
                have hz2 := Lib.hid (show Blk8 wz g8 D ∧ PS w1 gH gF ks wz (flatL zP k ++ lz) (mf2) Aw6 (nw + nz) cw6 (flatL zP k ++ lz) Ao2 no2 co2 (mf2) from ⟨hd.out.1.below hbz, hd.out.2.keep hbz⟩)
                clear hbz hd
                refine hK.out _ _ hz2.out (fun _ => ?_)
                clear hK K
                refine wpAnyH_ready (rs := [2]) (by kernel_rfl) (by simp) ?_
                refine AllReadyH.cons rfl (fun K hK => ?_) AllReadyH.nil
                go_simp
                refine hK.out _ _ hz2.out (fun _ => ?_)
                clear hK K
                refine wpAnyH_ready (rs := [3]) (by kernel_rfl) (by simp) ?_
                refine AllReadyH.cons rfl (fun K hK => ?_) AllReadyH.nil
                go_simp
                refine hK.out _ _ hz2.out (fun _ => ?_)
                clear hK K
                refine wpAnyH_take (i := 5) (v := .slice Aw6 (nw + nz) cw6) rfl (by kernel_rfl) (by kernel_rfl) (by kernel_rfl) (fun _ _ _ h => h) (Or.inl ⟨by rfl, by intro W _; go_simp⟩) hz2.out ?_
                simp only [Act.put, List.setIfInBounds_toArray, List.set_cons_zero, List.set_cons_succ]
                refine wpAnyH_take (i := 6) (v := .int .i64 ((nw : Int) + (nz : Int))) rfl (by kernel_rfl) (by kernel_rfl) (by kernel_rfl) (fun _ _ _ h => h) (Or.inl ⟨by rfl, by intro W _; go_simp⟩) hz2.out ?_
                simp only [Act.put, List.setIfInBounds_toArray, List.set_cons_zero, List.set_cons_succ]
                refine wpAnyH_take (i := 7) (v := .int .u64 ((nw : Int) + (nz : Int))) rfl (by kernel_rfl) (by kernel_rfl) (by kernel_rfl) (fun _ _ _ h => h) (Or.inl ⟨by rfl, by intro W _; go_simp; rw [IntKind.wrap_u64]; omega⟩) hz2.out ?_
                simp only [Act.put, List.setIfInBounds_toArray, List.set_cons_zero, List.set_cons_succ]
                refine wpAnyH_ready (rs := [4]) (by kernel_rfl) (by simp) ?_
                refine AllReadyH.cons rfl (fun K hK => ?_) AllReadyH.nil
                go_simp
                go_wp2_with (go_at_call 20; refine (hln.out _ hz2.out.2.hh).mono ?_; rintro e wy ⟨rfl, rfl⟩; skip)
                refine hK.out _ _ hz2.out (fun _ => ?_)
                clear hK K
                refine wpAnyH_ready (rs := [8]) (by kernel_rfl) (by simp) ?_
                refine AllReadyH.cons rfl (fun K hK => ?_) AllReadyH.nil
                go_simp
                refine hK.out _ _ hz2.out (fun _ => ?_)
                clear hK K
                refine wpAnyH_ready (rs := [9]) (by kernel_rfl) (by simp) ?_
                refine AllReadyH.cons rfl (fun K hK => ?_) AllReadyH.nil
                go_simp
                refine hK.out _ _ hz2.out (fun _ => ?_)
                clear hK K
                refine wpAnyH_done (by kernel_rfl) ?_ _
                have hPSz := Lib.hid hz2.out.2
                clear hz2 hsu hln rg k8' hPSq hPSE hPSD
                go_wp2_with fail
                go_roundw
                case rel => exact ⟨k + 1, s + (nw + nz + 64), mf2, Aw6, nw + nz, cw6, Ao2, no2, co2, by omega, by omega, by omega, by omega, by go_num, by go_num, rfl, rfl, Lib.hid (by rw [hfs'.out]; exact hPSz.out), hmb, Lib.hid fun h => hmid0.out (by omega)⟩
                case measure => simp [intOf]; omega
            · have hc3 : decide ((1048576 : Int) < (s : Int) + ((nw : Int) + (nz : Int) + 64)) = false := decide_eq_false hc1
              clear hc1
              go_wp2_with (at_builtin; refine wpList_appB elB _ rfl (.tmp 52) (.tmp 56) rfl rfl hPSC.out.ow rfl hnz.out (hzw.out _ hPSC.out.bel) (by omega) hPSC.out.bel.size (nw + nz) rfl ?_; intro Aw6 cw6 wD o6 at6 _; have hPSD := Lib.hid (hPSC.out.appW o6 at6); clear o6 at6)
              have hML := Lib.hid (show (flatL zP k ++ lz).length = nw + nz by rw [List.length_append, hnwl.out, hnz.out])
              have hM256 := Lib.hid (show ∀ b ∈ flatL zP k ++ lz, b < 256 from fun b hb => by rcases List.mem_append.1 hb with h | h; exact flatL_bytes h256'.out k b h; exact hz256'.out b h)
              have hBD := Lib.hid (hB1.out.trans (hPSD.out.bel.mono hB1.out.size))
              have hle6 := hPSD.out.ow.le
              have hcs := Lib.hid (shaSum_any wD ks (flatL zP k ++ lz) Aw6 cw6 (hT'.out.below hBD.out).t hk'.out hkl'.out hM256.out hPSD.out.ow.byt (by rw [hML.out]; exact hle6.1) (by have := hle6.2; unfold maxLen at this; omega))
              obtain ⟨D, hD⟩ : ∃ D, Hid (∀ _ : Unit, digest ks (flatL zP k ++ lz) = D) := ⟨_, Lib.hid fun _ => rfl⟩
              have hDn : D.length = 32 := by rw [← hD.out ()]; exact digest_length _ _
              rw [hML.out, hD.out ()] at hcs
              have hsD : (u8s D).toArray.size = 32 := by simp [u8s, hDn]
              have hsDl : (u8s D).length = 32 := by simp [u8s, hDn]
              have qD : ∀ W, (binOp .neq 34 (.agg (u8s D).toArray) (.agg (u8s D).toArray)).run Tryd.prog W = .ok (.bool false) W := fun W => by rw [neK hDn hDn]; simp
              have hsu := Lib.hid fun W (h : Has W gH 0 ks (flatL zP k ++ lz)) (hb : Below w.heap.size w W) => sum_any W ks (flatL zP k ++ lz) h (hT'.out.below hb).t hk'.out hkl'.out hM256.out (by rw [hML.out]; omega)
              have hln := Lib.hid fun W (h : Has W gH 0 ks (flatL zP k ++ lz)) => len_any W h
              simp only [hD.out (), hML.out, Int.natCast_add] at hsu hln
              clear hle6 hDn
              refine hcs.out.mono ?_
              rintro e wE ⟨rfl, hbE⟩
              have hPSE := Lib.hid (hPSD.out.keep hbE)
              clear hcs hbE hBD
              go_wp2_with (refine wpList_store_row rfl 34 _ _ rfl wE.heap.size (u8s D).toArray rfl rfl 34 _ (heap_alloc_new wE _) (by rw [hsD]; exact hi32'.out) (by rw [hsD]; simp [u8s, zeros]) (all_oneCell_toArray u8s_one) ?_; obtain ⟨k8, hb8⟩ := key_new wE D; have k8' := Lib.hid k8; have hPSq := Lib.hid (hPSE.out.keep hb8); clear k8 hb8; generalize ((wE.alloc (.cells (u8s (zeros 32)).toArray 34)).setRow wE.heap.size (u8s D).toArray) = wq at k8' hPSq ⊢; generalize wE.heap.size = g8 at k8' ⊢)
              have rg := Lib.hid fun (W : World) (h : Blk8 W g8 D) => show W.rangeAt g8 0 (u8s D) from fun j v hv => by
                rw [Nat.zero_add, cell_of_row _ _ _ _ _ _ h]
                simpa using hv
              refine wp_region_held (S := fun W => Blk8 W g8 D ∧ PS w1 gH gF ks W (flatL zP k ++ lz) (mf2) Aw6 (nw + nz) cw6 (flatL zP k ++ lz) Ao2 no2 co2 (mf2)) (by kernel_rfl) ?_
              change wpAnyH _ _ _ _ _ _ _ _ (World.drew _)
              have hd := Lib.hid (show Blk8 wq.drew g8 D ∧ PS w1 gH gF ks wq.drew (flatL zP k ++ lz) (mf2) Aw6 (nw + nz) cw6 (flatL zP k ++ lz) Ao2 no2 co2 (mf2) from ⟨k8'.out, hPSq.out.keep (below_drewN (Below.refl _ _) 1)⟩)
              refine wpAnyH_take (i := 1) rfl (by kernel_rfl) (by kernel_rfl) (by kernel_rfl) (fun _ _ _ h => h) (yieldsIf_load_mid (by rfl) 34 _ rfl g8 0 rfl (u8s D) _ (fun _ h => rg.out _ h.1) Tryd.underlying34 rfl (by rw [hsDl]; exact hi32'.out)) hd.out ?_
              simp only [Act.put, List.setIfInBounds_toArray, List.set_cons_zero, List.set_cons_succ]
              refine wpAnyH_ready (rs := [0]) (by kernel_rfl) (by simp) ?_
              refine AllReadyH.cons rfl (fun K hK => ?_) AllReadyH.nil
              go_simp
              go_wp2_with (go_at_call 19; refine (hsu.out _ hd.out.2.hh (hB1.out.trans (hd.out.2.bel.mono hB1.out.size))).mono ?_; rintro e wz ⟨rfl, hbz⟩; skip)
              have hz2 := Lib.hid (show Blk8 wz g8 D ∧ PS w1 gH gF ks wz (flatL zP k ++ lz) (mf2) Aw6 (nw + nz) cw6 (flatL zP k ++ lz) Ao2 no2 co2 (mf2) from ⟨hd.out.1.below hbz, hd.out.2.keep hbz⟩)
              clear hbz hd
              refine hK.out _ _ hz2.out (fun _ => ?_)
              clear hK K
              refine wpAnyH_ready (rs := [2]) (by kernel_rfl) (by simp) ?_
              refine AllReadyH.cons rfl (fun K hK => ?_) AllReadyH.nil
              go_simp
              refine hK.out _ _ hz2.out (fun _ => ?_)
              clear hK K
              refine wpAnyH_ready (rs := [3]) (by kernel_rfl) (by simp) ?_
              refine AllReadyH.cons rfl (fun K hK => ?_) AllReadyH.nil
              go_simp
              refine hK.out _ _ hz2.out (fun _ => ?_)
              clear hK K
              refine wpAnyH_take (i := 5) (v := .slice Aw6 (nw + nz) cw6) rfl (by kernel_rfl) (by kernel_rfl) (by kernel_rfl) (fun _ _ _ h => h) (Or.inl ⟨by rfl, by intro W _; go_simp⟩) hz2.out ?_
              simp only [Act.put, List.setIfInBounds_toArray, List.set_cons_zero, List.set_cons_succ]
              refine wpAnyH_take (i := 6) (v := .int .i64 ((nw : Int) + (nz : Int))) rfl (by kernel_rfl) (by kernel_rfl) (by kernel_rfl) (fun _ _ _ h => h) (Or.inl ⟨by rfl, by intro W _; go_simp⟩) hz2.out ?_
              simp only [Act.put, List.setIfInBounds_toArray, List.set_cons_zero, List.set_cons_succ]
              refine wpAnyH_take (i := 7) (v := .int .u64 ((nw : Int) + (nz : Int))) rfl (by kernel_rfl) (by kernel_rfl) (by kernel_rfl) (fun _ _ _ h => h) (Or.inl ⟨by rfl, by intro W _; go_simp; rw [IntKind.wrap_u64]; omega⟩) hz2.out ?_
              simp only [Act.put, List.setIfInBounds_toArray, List.set_cons_zero, List.set_cons_succ]
              refine wpAnyH_ready (rs := [4]) (by kernel_rfl) (by simp) ?_
              refine AllReadyH.cons rfl (fun K hK => ?_) AllReadyH.nil
              go_simp
              go_wp2_with (go_at_call 20; refine (hln.out _ hz2.out.2.hh).mono ?_; rintro e wy ⟨rfl, rfl⟩; skip)
              refine hK.out _ _ hz2.out (fun _ => ?_)
              clear hK K
              refine wpAnyH_ready (rs := [8]) (by kernel_rfl) (by simp) ?_
              refine AllReadyH.cons rfl (fun K hK => ?_) AllReadyH.nil
              go_simp
              refine hK.out _ _ hz2.out (fun _ => ?_)
              clear hK K
              refine wpAnyH_ready (rs := [9]) (by kernel_rfl) (by simp) ?_
              refine AllReadyH.cons rfl (fun K hK => ?_) AllReadyH.nil
              go_simp
              refine hK.out _ _ hz2.out (fun _ => ?_)
              clear hK K
              refine wpAnyH_done (by kernel_rfl) ?_ _
              have hPSz := Lib.hid hz2.out.2
              clear hz2 hsu hln rg k8' hPSq hPSE hPSD
              go_wp2_with fail
              go_roundw
              case rel => exact ⟨k + 1, s + (nw + nz + 64), mf2, Aw6, nw + nz, cw6, Ao2, no2, co2, by omega, by omega, by omega, by omega, by go_num, by go_num, rfl, rfl, Lib.hid (by rw [hfs'.out]; exact hPSz.out), hmb, Lib.hid fun h => hmid0.out (by omega)⟩
              case measure => simp [intOf]; omega
        · obtain rfl : P = k := by omega
          have hLw := Lib.hid (show (flatL zP P).length = nw by have := hPS2.out.ow.len; rw [u8s_length] at this; omega)
          have hfb := Lib.hid (flatL_bytes h256'.out P)
          clear hlt hk hmid0
          go_wp2_with fail
          go_loopw [9, 12] (fun ov iv wr => ∃ (q no co : Nat) (Ao : Option Addr) (mo : List Nat), q ≤ P ∧ iv = .int .i64 ((q : Int) - 1) ∧ ov = .slice Ao no co ∧ Hid (no + (flatL zP q).length ≤ L + L) ∧ Hid (PS w1 gH gF ks wr (flatL zP P) mo Aw nw cw (flatL zP P) Ao no co mo) ∧ Hid (∀ b ∈ mo, b < 256)) (fun _ iv _ => (intOf iv + 1).toNat)
          case atStart => exact ⟨P, no2, co2, Ao2, mf2, by omega, rfl, rfl, Lib.hid (by rw [hfl.out ()]; omega), hPS2, hmb⟩
          case round =>
            clear hPS2 hmb
            obtain ⟨q, no, co, Ao, mo, hq, rfl, rfl, hbd, hPS, hmo⟩ := hrel
            have hnol := Lib.hid (show mo.length = no by have := hPS.out.oo.len; rw [u8s_length] at this; omega)
            by_cases h0 : q = 0
            · subst h0
              have hBx := Lib.hid (hB1.out.trans (hPS.out.bel.mono hB1.out.size))
              have hlw := hPS.out.ow.le
              have hlo := hPS.out.oo.le
              have hbd0 := hbd.out
              have hno2L : no ≤ L + L := by omega
              have hc1 := Lib.hid fun W (h : PS w1 gH gF ks W (flatL zP P) mo Aw nw cw (flatL zP P) Ao no co mo) => shaSum_any W ks (flatL zP P) Aw cw (hT'.out.below (hB1.out.trans (h.bel.mono hB1.out.size))).t hk'.out hkl'.out hfb.out h.ow.byt (by rw [hLw.out]; exact hlw.1) (by have := hlw.2; unfold maxLen at this; omega)
              have hc2 := Lib.hid fun W (h : PS w1 gH gF ks W (flatL zP P) mo Aw nw cw (flatL zP P) Ao no co mo) => shaSum_any W ks mo Ao co (hT'.out.below (hB1.out.trans (h.bel.mono hB1.out.size))).t hk'.out hkl'.out hmo.out h.oo.byt (by rw [hnol.out]; exact hlo.1) (by have := hlo.2; unfold maxLen at this; omega)
              have hs1 := Lib.hid fun W (h : PS w1 gH gF ks W (flatL zP P) mo Aw nw cw (flatL zP P) Ao no co mo) => sum_any W ks (flatL zP P) h.hh (hT'.out.below (hB1.out.trans (h.bel.mono hB1.out.size))).t hk'.out hkl'.out hfb.out (by rw [hLw.out]; omega)
              have hs2 := Lib.hid fun W (h : PS w1 gH gF ks W (flatL zP P) mo Aw nw cw (flatL zP P) Ao no co mo) => sum_any W ks mo h.hf (hT'.out.below (hB1.out.trans (h.bel.mono hB1.out.size))).t hk'.out hkl'.out hmo.out (by rw [hnol.out]; omega)
              obtain ⟨D1, hD1⟩ : ∃ D, Hid (∀ _ : Unit, digest ks (flatL zP P) = D) := ⟨_, Lib.hid fun _ => rfl⟩
              obtain ⟨D2, hD2⟩ : ∃ D, Hid (∀ _ : Unit, digest ks mo = D) := ⟨_, Lib.hid fun _ => rfl⟩
              have n1 : D1.length = 32 := by rw [← hD1.out ()]; exact digest_length _ _
              have n2 : D2.length = 32 := by rw [← hD2.out ()]; exact digest_length _ _
              simp only [hLw.out, hnol.out, hD1.out (), hD2.out ()] at hc1 hc2 hs1 hs2
              have l1 : (u8s D1).toArray.size = 32 := by simp [u8s, n1]
              have l2 : (u8s D2).toArray.size = 32 := by simp [u8s, n2]
              have ll1 : (u8s D1).length = 32 := by simp [u8s, n1]
              have ll2 : (u8s D2).length = 32 := by simp [u8s, n2]
              have q1 : ∀ W, (binOp .eql 34 (.agg (u8s D1).toArray) (.agg (u8s D1).toArray)).run Tryd.prog W = .ok (.bool true) W := fun W => by rw [eqK n1 n1]; simp
              have q2 : ∀ W, (binOp .eql 34 (.agg (u8s D2).toArray) (.agg (u8s D2).toArray)).run Tryd.prog W = .ok (.bool true) W := fun W => by rw [eqK n2 n2]; simp
              clear hlw hlo hbd0 hBx n1 n2
              go_wp2_with fail
              refine (hc1.out _ hPS.out).mono ?_
              rintro e wE ⟨rfl, hbE⟩
              have hPSE := Lib.hid (hPS.out.keep hbE)
              clear hbE hPS
              go_wp2_with (refine wpList_store_row rfl 34 _ _ rfl wE.heap.size (u8s D1).toArray rfl rfl 34 _ (heap_alloc_new wE _) (by rw [l1]; exact hi32'.out) (by rw [l1]; simp [u8s, zeros]) (all_oneCell_toArray u8s_one) ?_; obtain ⟨k8, hb8⟩ := key_new wE D1; have k1' := Lib.hid k8; have hPSq := Lib.hid (hPSE.out.keep hb8); clear k8 hb8; generalize ((wE.alloc (.cells (u8s (zeros 32)).toArray 34)).setRow wE.heap.size (u8s D1).toArray) = wq at k1' hPSq ⊢; generalize wE.heap.size = g1 at k1' ⊢)
              refine (hc2.out _ hPSq.out).mono ?_
              rintro e wF ⟨rfl, hbF⟩
              have hPSF := Lib.hid (hPSq.out.keep hbF)
              have k1F := Lib.hid (k1'.out.below hbF)
              clear hbF hPSq hPSE k1'
              go_wp2_with (refine wpList_store_row rfl 34 _ _ rfl wF.heap.size (u8s D2).toArray rfl rfl 34 _ (heap_alloc_new wF _) (by rw [l2]; exact hi32'.out) (by rw [l2]; simp [u8s, zeros]) (all_oneCell_toArray u8s_one) ?_; obtain ⟨k8, hb8⟩ := key_new wF D2; have k2' := Lib.hid k8; have hPSq := Lib.hid (hPSF.out.keep hb8); have k1' := Lib.hid (k1F.out.below hb8); clear k8 hb8; generalize ((wF.alloc (.cells (u8s (zeros 32)).toArray 34)).setRow wF.heap.size (u8s D2).toArray) = wq at k1' k2' hPSq ⊢; generalize wF.heap.size = g2 at k2' ⊢)
              have rg1 := Lib.hid fun (W : World) (h : Blk8 W g1 D1) => show W.rangeAt g1 0 (u8s D1) from fun j v hv => by
                rw [Nat.zero_add, cell_of_row _ _ _ _ _ _ h]
                simpa using hv
              have rg2 := Lib.hid fun (W : World) (h : Blk8 W g2 D2) => show W.rangeAt g2 0 (u8s D2) from fun j v hv => by
                rw [Nat.zero_add, cell_of_row _ _ _ _ _ _ h]
                simpa using hv
              refine wp_region_held (S := fun W => Blk8 W g1 D1 ∧ Blk8 W g2 D2 ∧ PS w1 gH gF ks W (flatL zP P) mo Aw nw cw (flatL zP P) Ao no co mo) (by kernel_rfl) ?_
              change wpAnyH _ _ _ _ _ _ _ _ (World.drew _)
              have hd := Lib.hid (show Blk8 wq.drew g1 D1 ∧ Blk8 wq.drew g2 D2 ∧ PS w1 gH gF ks wq.drew (flatL zP P) mo Aw nw cw (flatL zP P) Ao no co mo from ⟨k1'.out, k2'.out, hPSq.out.keep (below_drewN (Below.refl _ _) 1)⟩)
              refine wpAnyH_take (i := 1) rfl (by kernel_rfl) (by kernel_rfl) (by kernel_rfl) (fun _ _ _ h => h) (yieldsIf_load_mid (by rfl) 34 _ rfl g1 0 rfl (u8s D1) _ (fun _ h => rg1.out _ h.1) Tryd.underlying34 rfl (by rw [ll1]; exact hi32'.out)) hd.out ?_
              simp only [Act.put, List.setIfInBounds_toArray, List.set_cons_zero, List.set_cons_succ]
              refine wpAnyH_ready (rs := [0]) (by kernel_rfl) (by simp) ?_
              refine AllReadyH.cons rfl (fun K hK => ?_) AllReadyH.nil
              go_simp
              go_wp2_with (go_at_call 19; refine (hs1.out _ hd.out.2.2).mono ?_; rintro e wz ⟨rfl, hbz⟩; skip)
              have hz2 := Lib.hid (show Blk8 wz g1 D1 ∧ Blk8 wz g2 D2 ∧ PS w1 gH gF ks wz (flatL zP P) mo Aw nw cw (flatL zP P) Ao no co mo from ⟨hd.out.1.below hbz, hd.out.2.1.below hbz, hd.out.2.2.keep hbz⟩)
              clear hbz hd
              refine hK.out _ _ hz2.out (fun _ => ?_)
              clear hK K
              refine wpAnyH_ready (rs := [2]) (by kernel_rfl) (by simp) ?_
              refine AllReadyH.cons rfl (fun K hK => ?_) AllReadyH.nil
              go_simp
              refine hK.out _ _ hz2.out (fun _ => ?_)
              clear hK K
              refine wpAnyH_ready (rs := [3]) (by kernel_rfl) (by simp) ?_
              refine AllReadyH.cons rfl (fun K hK => ?_) AllReadyH.nil
              go_simp
              refine hK.out _ _ hz2.out (fun _ => ?_)
              clear hK K
              refine wpAnyH_take (i := 5) rfl (by kernel_rfl) (by kernel_rfl) (by kernel_rfl) (fun _ _ _ h => h) (yieldsIf_load_mid (by rfl) 34 _ rfl g2 0 rfl (u8s D2) _ (fun _ h => rg2.out _ h.2.1) Tryd.underlying34 rfl (by rw [ll2]; exact hi32'.out)) hz2.out ?_
              simp only [Act.put, List.setIfInBounds_toArray, List.set_cons_zero, List.set_cons_succ]
              refine wpAnyH_ready (rs := [4]) (by kernel_rfl) (by simp) ?_
              refine AllReadyH.cons rfl (fun K hK => ?_) AllReadyH.nil
              go_simp
              go_wp2_with (go_at_call 19; refine (hs2.out _ hz2.out.2.2).mono ?_; rintro e wy ⟨rfl, hby⟩; skip)
              have hz3 := Lib.hid (show Blk8 wy g1 D1 ∧ Blk8 wy g2 D2 ∧ PS w1 gH gF ks wy (flatL zP P) mo Aw nw cw (flatL zP P) Ao no co mo from ⟨hz2.out.1.below hby, hz2.out.2.1.below hby, hz2.out.2.2.keep hby⟩)
              clear hby hz2
              refine hK.out _ _ hz3.out (fun _ => ?_)
              clear hK K
              refine wpAnyH_ready (rs := [6]) (by kernel_rfl) (by simp) ?_
              refine AllReadyH.cons rfl (fun K hK => ?_) AllReadyH.nil
              go_simp
              refine hK.out _ _ hz3.out (fun _ => ?_)
              clear hK K
              refine wpAnyH_ready (rs := [7]) (by kernel_rfl) (by simp) ?_
              refine AllReadyH.cons rfl (fun K hK => ?_) AllReadyH.nil
              go_simp
              refine hK.out _ _ hz3.out (fun _ => ?_)
              clear hK K
              refine wpAnyH_ready (rs := [8]) (by kernel_rfl) (by simp) ?_
              refine AllReadyH.cons rfl (fun K hK => ?_) AllReadyH.nil
              go_simp
              refine hK.out _ _ hz3.out (fun _ => ?_)
              clear hK K
              refine wpAnyH_done (by kernel_rfl) ?_ _
              have hBz := Lib.hid (hB1.out.trans (hz3.out.2.2.bel.mono hB1.out.size))
              clear hz3
              go_wp2_with fail
              go_ret
              exact ⟨rfl, hBz.out⟩
            · obtain ⟨r, rfl⟩ : ∃ r, q = r + 1 := ⟨q - 1, by omega⟩
              rw [show (((r + 1 : Nat) : Int) - 1) = (r : Int) by omega]
              obtain ⟨bp, op, hAPe, hbpw, qp0⟩ := (rP'.out.below hB1.out).get (k := r) (by omega)
              have hfs := flatL_succ (zs := zP) (k := r) (by rw [hP'.out]; omega)
              have hzb0 := hb'.out r
              have hz256 := h256'.out r
              have hzc := hlen'.out r
              generalize zP[r]?.getD Pt.none_ = z at qp0 hfs hzb0 hz256 hzc
              obtain ⟨Az, lz, cz⟩ := z
              simp only [Pt.v] at qp0
              simp only at hfs hzb0 hz256 hzc
              obtain ⟨nz, hnz⟩ : ∃ n, Hid (lz.length = n) := ⟨_, Lib.hid rfl⟩
              rw [hnz.out] at qp0 hzc
              have hbd2 := hbd.out
              rw [hfs, List.length_append, hnz.out] at hbd2
              have hcw := Lib.hid fun W (h : Below w1.heap.size w1 W) => (h.cell (p := ⟨bp, op + r, none⟩) (Nat.lt_of_lt_of_le hbpw hB1.out.size)).trans qp0
              have hzw := Lib.hid fun W (h : Below w1.heap.size w1 W) => (show Byt W W.heap.size Az lz from (hzb0.below (hB1.out.trans (h.mono hB1.out.size))).mono (hB1.out.trans (h.mono hB1.out.size)).size)
              have hwr := Lib.hid (show Calls Tryd.prog 18 #[.pointer (some ⟨gF, 0, none⟩), .slice Az nz cz] wr fun e w' => (∃ v, e = .returned v) ∧ Has w' gF 0 ks (mo ++ lz) ∧ Chg wr w' gF 0 74 by
                have hx := hB1.out.trans (hPS.out.bel.mono hB1.out.size)
                have htl := hT'.out.t.lt
                have hgl : w.heap.size ≤ gF := by rw [← hgF'.out, ← hgH'.out]; have := hB1.out.size; omega
                have hw := write_any wr ks mo lz Az cz hPS.out.hf (hT'.out.below hx).t (by omega) hk'.out hkl'.out hmo.out hz256 (hzw.out wr hPS.out.bel) (fun hpos a ha => by
                  obtain ⟨b, off, hA, hbl, _⟩ := hzb0 hpos
                  rw [hA] at ha
                  cases ha
                  show b ≠ gF
                  omega) (by rw [hnz.out]; exact hzc.1) hzc.2 (by rw [hnz.out, hnol.out]; omega)
                rw [hnz.out] at hw
                exact hw)
              have hmo2 := Lib.hid (show ∀ b ∈ mo ++ lz, b < 256 from fun b hb => by rcases List.mem_append.1 hb with h | h; exact hmo.out b h; exact hz256 b h)
              have hbd3 := Lib.hid (show no + nz + (flatL zP r).length ≤ L + L by omega)
              have hno3 : no + nz ≤ L + L := by omega
              have qpr := hcw.out _ hPS.out.bel
              subst hAPe
              clear hfs hzb0 hz256 hbd2 hmo
              go_wp2_with fail
              refine hwr.out.mono ?_
              rintro e wC ⟨⟨v, rfl⟩, hhC, hcC⟩
              have hPSC := Lib.hid (hPS.out.wrF hhC hcC)
              have qpC := hcw.out _ hPSC.out.bel
              clear hhC hcC hPS hwr qpr
              go_wp2_with (at_builtin; refine wpList_appB elB _ rfl (.tmp 96) (.tmp 100) rfl rfl hPSC.out.oo rfl hnz.out (hzw.out _ hPSC.out.bel) (by omega) hPSC.out.bel.size (no + nz) rfl ?_; intro Ao6 co6 wD o6 at6 _; have hPSD := Lib.hid (hPSC.out.appO o6 at6); clear o6 at6)
              go_roundw
              case rel => exact ⟨r, no + nz, co6, Ao6, mo ++ lz, by omega, by go_num, rfl, hbd3, hPSD, hmo2⟩
              case measure => simp [intOf]
end Go.Proofs.YtfibfaablpoilaaDoor

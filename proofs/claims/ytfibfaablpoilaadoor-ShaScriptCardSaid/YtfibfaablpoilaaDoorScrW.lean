/- ShaScript: the law's walk. -/
import Derived.Test.YtfibfaablpoilaaDoorScrM
import Derived.Deep.RegionHeld3
import Derived.Deep.QuietTactic
namespace Go.Proofs.YtfibfaablpoilaaDoor
open Go.RowKit
set_option linter.unusedSimpArgs false

section
variable {P : Program} {ops : Array Oper} {rest : List Oper} {o : Oper} {a : Act} {w : World} {Q : Exit → Act → World → Prop}
theorem wpList_built (hw : Region.wanted o (yielded ops a.tmps) = true) (t : TypeId) (parts : Array (Nat × Operand)) (vs : Array (Nat × Value)) (ho : o.op = .build t parts) (hv : (parts.map fun (i, x) => (i, a.eval x)) = vs) (v : Value)
    (hr : (Instr.build t vs).run P w = .ok v w) (h : wpList P ops Q rest (a.put o.dst v) w) : wpList P ops Q (o :: rest) a w :=
  wpList_step fun K hK => by
    rw [if_pos hw]
    unfold Oper.wp execOp
    simp only [ho, hv, Sem.run_bind, hr, Result.andThen_ok]
    exact hK _ _ h
end
theorem hz_one : ∀ v ∈ hz74, v.oneCell' = true := by
  intro v hv
  simp only [hz74, hcells, u32s, u8s, List.mem_append, List.mem_map, List.mem_cons, List.not_mem_nil, or_false] at hv
  rcases hv with ⟨x, _, rfl⟩ | ⟨x, _, rfl⟩ | rfl | rfl <;> rfl
theorem hcells_one (st rs : List Nat) (n : Nat) (bg : Bool) : ∀ v ∈ hcells st rs n bg, v.oneCell' = true := by
  intro v hv
  simp only [hcells, u32s, u8s, List.mem_append, List.mem_map, List.mem_cons, List.not_mem_nil, or_false] at hv
  rcases hv with ⟨x, _, rfl⟩ | ⟨x, _, rfl⟩ | rfl | rfl <;> rfl
abbrev hz74V : Value := .agg hz74.toArray
theorem buildH (w : World) : (Instr.build 45 #[]).run Tryd.prog w = .ok hz74V w := run_build w _ _ _ (by kernel_rfl)
theorem step_new (w : World) (x : StT) : ((w.alloc (.cells (encS zS).toArray 41)).setRow w.heap.size (encS x).toArray).heap[w.heap.size]? = some (.cells (encS x).toArray 41 (0, 0)) ∧ Below w.heap.size w ((w.alloc (.cells (encS zS).toArray 41)).setRow w.heap.size (encS x).toArray) :=
  ⟨setRow_heap _ w.heap.size _ _ _ _ (heap_alloc_new w _), setRow_below ((Below.refl _ _).alloc (Nat.le_refl _) _) (Nat.le_refl _) _⟩
/-- A step's cells. -/
structure StB (w : World) (g : Nat) (x : StT) : Prop where
  c0 : w.cell? ⟨g, 0, none⟩ = some (.int .i64 x.d)
  c1 : w.cell? ⟨g, 1, none⟩ = some (.int .i64 x.a)
  c2 : w.cell? ⟨g, 2, none⟩ = some (.int .i64 x.f)
  c3 : w.cell? ⟨g, 3, none⟩ = some (.slice x.A x.l.length x.c)
theorem StB.of {w : World} {g : Nat} {x : StT} (h : w.heap[g]? = some (.cells (encS x).toArray 41 (0, 0))) : StB w g x :=
  ⟨cell_of_row _ _ _ _ _ _ h, cell_of_row _ _ _ _ _ _ h, cell_of_row _ _ _ _ _ _ h, cell_of_row _ _ _ _ _ _ h⟩
theorem StB.lt {w : World} {g : Nat} {x : StT} (h : StB w g x) : g < w.heap.size := World.block_lt_of_cell? w _ h.c0
theorem StB.block {w w' : World} {g : Nat} {x : StT} (h : StB w g x) (hb : w'.heap[g]? = w.heap[g]?) : StB w' g x :=
  ⟨(World.cell?_of_block hb).trans h.c0, (World.cell?_of_block hb).trans h.c1, (World.cell?_of_block hb).trans h.c2, (World.cell?_of_block hb).trans h.c3⟩
/-- What the steps are. -/
structure Steps (w : World) (zs : List StT) (AS : Option Addr) : Prop where
  row : Row encS 4 w w.heap.size AS zs
  byt : ∀ x ∈ zs, Byt w w.heap.size x.A x.l
  b256 : ∀ x ∈ zs, ∀ b ∈ x.l, b < 256
  len : ∀ x ∈ zs, x.l.length ≤ x.c ∧ x.c ≤ 9223372036854775807
  big : ∀ x ∈ zs, x.l.length ≤ 140737488351232

theorem marked_byt {w : World} {B : Nat} {e : TypeId} {c n : Nat} {A : Option Addr} {l : List Nat} {k : Nat} (h : Own w B e 1 A n c (u8s (marked l k))) : Byt w w.heap.size A l := by
  have h1 := h.byt
  have := Rd.take h1 (m := l.length) (by rw [marked_length]; omega)
  refine Rd.congr this fun j hj => ?_
  rw [marked, List.getElem?_append_left hj]
set_option maxRecDepth 100000 in
set_option maxHeartbeats 8000000 in
theorem script_any (w : World) (ks : List Nat) (hT : Tabs w ks) (hk : ks.length = 64) (hkl : ∀ x ∈ ks, x < 4294967296) (hne : digest ks [97, 98] ≠ digest ks [97, 98, 99])
    (zs : List StT) (AS : Option Addr) (P cS : Nat) (hP : zs.length = P) (hS : Steps w zs AS) (hPb : P ≤ 4398046510976) :
    Calls Tryd.prog 5 #[.slice AS P cS] w fun e w' => e = .returned (.bool true) ∧ Below w.heap.size w w' := by
  have zk := zeroK
  have z4 := zeroH4
  have zt := zeroT4
  have zst := zeroSt
  have hi74' := Lib.hid (show (Tryd.prog.info? 45).map (·.size) = some 74 by kernel_rfl)
  have hi32' := Lib.hid (show (Tryd.prog.info? 34).map (·.size) = some 32 by kernel_rfl)
  have hi4' := Lib.hid (show (Tryd.prog.info? 41).map (·.size) = some 4 by kernel_rfl)
  have hT' := Lib.hid hT
  have hk' := Lib.hid hk
  have hkl' := Lib.hid hkl
  have hP' := Lib.hid hP
  have hS' := Lib.hid hS
  have hlv := Lib.hid fun W (h : Below w.heap.size w W) => lives_any W ks (hT.below h) hk hkl hne
  obtain ⟨AP, hAP⟩ : ∃ A, Hid (∀ _ : Unit, AS = A) := ⟨_, Lib.hid fun _ => rfl⟩
  rw [hAP.out ()]
  clear hT hk hkl hP hS hne
  go_enter Tryd.func5, Tryd.ntmps5
  go_wp2_with fail
  go_loop [3, 4] (fun tv iv => ∃ k L : Nat, k ≤ P ∧ L ≤ 1048576 ∧ iv = .int .i64 (k : Int) ∧ tv = .int .i64 (L : Int) ∧ Hid (∀ _ : Unit, totS zs k = L)) (fun _ iv => P - (intOf iv).toNat)
  case atStart => exact ⟨0, 0, by omega, by omega, rfl, rfl, Lib.hid fun _ => rfl⟩
  case round =>
    obtain ⟨k, L, hk, hL, rfl, rfl, hfl⟩ := hrel
    by_cases hlt : k < P
    · have hkz : k < zs.length := by rw [hP'.out]; exact hlt
      obtain ⟨bp, op, hA, _, qe⟩ := Row.elem hS'.out.row encS_length (by decide) hkz
      have qp := qe 3 _ rfl
      rw [hAP.out ()] at hA
      subst hA
      have hts := totS_succ hkz
      have hzl := hS'.out.big _ (List.getElem_mem hkz)
      generalize zs[k] = z at qp hts hzl
      clear qe
      obtain ⟨nz, hnz⟩ : ∃ n, Hid (z.l.length = n) := ⟨_, Lib.hid rfl⟩
      rw [hnz.out] at qp hzl hts
      have hnew : Hid (∀ _ : Unit, totS zs (k + 1) = L + nz) := Lib.hid fun _ => by rw [hts, hfl.out ()]
      clear hts hkz
      by_cases hbig : (1048576 : Int) < (L : Int) + (nz : Int)
      · go_wp2_with (refine (hlv.out _ (Below.refl _ _)).mono ?_; rintro e w1 ⟨rfl, hb1⟩)
        go_ret
        exact ⟨rfl, hb1⟩
      · have hbig' : (L : Int) + (nz : Int) ≤ 1048576 := by omega
        clear hbig
        go_wp2_with fail
        go_round
        case rel => exact ⟨k + 1, L + nz, by omega, by omega, by go_num, by go_num, hnew⟩
        case measure => simp [intOf]; omega
    · obtain rfl : P = k := by omega
      clear hlt hk
      have hS0 := S4.start w ks
      have hS0' := Lib.hid hS0
      clear hS0
      go_wp2_with fail
      generalize ((w.alloc (.cells hz4.toArray 46)).alloc (.cells nil4.toArray 47)) = w1 at hS0' ⊢
      generalize hgH : w.heap.size = gH at hS0' ⊢
      generalize hgT : gH + 1 = gT at hS0' ⊢
      have hgH' := Lib.hid hgH
      have hgT' := Lib.hid hgT
      clear hgH hgT
      have mono := Lib.hid fun (i : Nat) (h : i ≤ P) => show totS zs i ≤ L from by rw [← hfl.out ()]; exact totS_mono h
      go_loopw [7] (fun iv wr => ∃ (k : Nat) (m : Nat → List Nat) (A : Nat → Option Addr) (c : Nat → Nat), k ≤ P ∧ iv = .int .i64 (k : Int) ∧ Hid (S4 w wr gH gT ks (totS zs k) m m A c)) (fun iv _ => P - (intOf iv).toNat)
      case atStart => exact ⟨0, _, _, _, by omega, rfl, hS0'⟩
      case round =>
        clear hS0'
        obtain ⟨k, m, A, c, hk, rfl, h4⟩ := hrel
        by_cases hlt : k < P
        · have hkz : k < zs.length := by rw [hP'.out]; exact hlt
          have hB := h4.out.bel
          obtain ⟨bp, op, hA, _, qe⟩ := Row.elem (Rd.below hS'.out.row hB) encS_length (by decide) hkz
          rw [hAP.out ()] at hA
          subst hA
          have hts := totS_succ hkz
          have hzm := List.getElem_mem hkz
          have hmo := mono.out (k + 1) (by omega)
          have hzb := (hS'.out.byt _ hzm)
          have hz256 := hS'.out.b256 _ hzm
          have hzc := hS'.out.len _ hzm
          generalize zs[k] = z at qe hts hzb hz256 hzc
          have hrg := Lib.hid (show wr.rangeAt bp (op + k * 4) (encS z) from fun j v hv => qe j v hv)
          have hnew := step_new wr z
          have hN := Lib.hid (StB.of hnew.1)
          have h4b := Lib.hid (h4.out.keep hnew.2)
          have hs4 := Lib.hid (show (encS z).toArray.size = 4 from rfl)
          have hz4 := Lib.hid (show (encS zS).toArray.size = 4 from rfl)
          have hone := Lib.hid (show (encS z).toArray.all (·.oneCell') = true from all_oneCell_toArray (encS_one z))
          have hgx := Lib.hid (show gT < wr.heap.size from h4.out.lt)
          have hzb' := Lib.hid fun W (h : Below w.heap.size w W) => (show Byt W W.heap.size z.A z.l from (hzb.below h).mono h.size)
          have hz256' := Lib.hid hz256
          have hzc' := Lib.hid hzc
          have hts' := Lib.hid hts
          clear qe hB hzm hnew h4 hzb hz256 hzc hts hkz
          obtain ⟨W0, hW0⟩ : ∃ W0, Hid (∀ _ : Unit, ((wr.alloc (.cells (encS zS).toArray 41)).setRow wr.heap.size (encS z).toArray) = W0) := ⟨_, Lib.hid fun _ => rfl⟩
          rw [hW0.out ()] at hN h4b
          go_wp2_with (first
            | (refine wpList_load_mid rfl 41 _ rfl bp (op + k * 4) rfl (encS z) _ hrg.out Tryd.underlying41 rfl (by rw [encS_length]; exact hi4'.out) ?_)
            | (refine wpList_store_row rfl 41 _ _ rfl wr.heap.size (encS z).toArray rfl rfl 41 _ (heap_alloc_new wr _) (by rw [hs4.out]; exact hi4'.out) (by rw [hs4.out, hz4.out]) hone.out ?_
               rw [hW0.out ()]
               generalize wr.heap.size = gx at hN hgx ⊢
               have d1 := hN.out.c1))
          refine (four_any z.a W0).mono ?_
          rintro e w2 ⟨rfl, rfl⟩
          have hat := fourN_lt z.a
          generalize fourN z.a = at_ at hat ⊢
          obtain ⟨nz, hnz⟩ : ∃ n, Hid (z.l.length = n) := ⟨_, Lib.hid rfl⟩
          rw [hnz.out] at hzc' hts'
          have hnzL : nz ≤ L := by have := hts'.out; omega
          have hmk0 := mono.out k (by omega)
          have hBW := Lib.hid h4b.out.bel
          have d0 := hN.out.c0
          have hatz : (at_ : Int) < 4 := by omega
          clear d1 hrg hs4 hz4 hone hW0
          by_cases e0 : z.d = 0
          · rw [e0] at d0
            have d3 := hN.out.c3
            rw [hnz.out] at d3
            have hle := lent_any W0 z.l z.A z.c (hzb'.out _ hBW.out) (by rw [hnz.out]; omega)
            rw [hnz.out] at hle
            go_wp2_with fail
            refine hle.mono ?_
            rintro e w3 ⟨⟨ga, cc, rfl, oL⟩, b3⟩
            have h4c := Lib.hid (h4b.out.keep b3)
            have hN3 := Lib.hid (hN.out.block (b3.block gx hN.out.lt))
            have hga := Lib.hid (oL.lt ga rfl)
            have hgW := Lib.hid (show gx < W0.heap.size from hN.out.lt)
            have hAl := Lib.hid fun i (hi : i < 4) j hj => ((h4b.out.own i hi).lt j hj).2
            have hlc := oL.le
            have hB3 := Lib.hid h4c.out.bel
            have htl := hT'.out.t.lt
            have hgl : w.heap.size ≤ gH := by rw [← hgH'.out]; exact Nat.le_refl _
            have hml := h4c.out.len at_ hat
            have hwr := write_any w3 ks (m at_) z.l (some ⟨ga, 0, none⟩) cc (h4c.out.has at_ hat) (hT'.out.below hB3.out).t (by omega) hk'.out hkl'.out (h4c.out.byt at_ hat) hz256'.out (marked_byt oL) (fun _ a ha => by cases ha; have := hga.out.1; have := hgx.out; have := h4c.out.HT; have := hgW.out; show ga ≠ gH; omega) (by rw [hnz.out]; omega) (by have := hlc.2; unfold maxLen at this; omega) (by rw [hnz.out]; omega)
            rw [hnz.out] at hwr
            clear d0 d3 hle
            go_wp2_with fail
            refine hwr.mono ?_
            rintro e w4 ⟨⟨v, rfl⟩, hh4, hc4⟩
            have h4d := Lib.hid (h4c.out.hash hat hh4 hc4)
            have hN4 := Lib.hid (hN3.out.block (hc4.block gx hN3.out.lt (by have := hgx.out; have := h4c.out.HT; omega)))
            have oL4 := Lib.hid (oL.chg hc4 (by have := hga.out.1; have := hgx.out; have := h4c.out.HT; have := hgW.out; simp [blockOf]; omega))
            have hB4 := Lib.hid h4d.out.bel
            have e3 := hN4.out.c3
            rw [hnz.out] at e3
            have hlf := left_any w4 z.l z.A z.c cc ga (hzb'.out _ hB4.out) oL4.out.byt (by rw [hnz.out]; omega) (by rw [hnz.out]; exact hlc.1)
            rw [hnz.out] at hlf
            clear hwr hh4 hc4 oL hN3 h4c b3 hN h4b hB3
            go_wp2_with fail
            refine hlf.mono ?_
            rintro e w' ⟨rfl, qq, rfl⟩
            have h4e := Lib.hid (h4d.out.keep (below_drewN (Below.refl _ _) qq))
            have hN5 := Lib.hid (hN4.out.block (show (w4.drewN qq).heap[gx]? = w4.heap[gx]? from rfl))
            have oL5 : Hid (Own (w4.drewN qq) W0.heap.size 5 1 (some ⟨ga, 0, none⟩) (nz + 80) cc (u8s (marked z.l 80))) := Lib.hid (oL4.out.drewN qq)
            generalize w4.drewN qq = w5 at h4e hN5 oL5 ⊢
            have hmk : (marked z.l 80).length = nz + 80 := by rw [marked_length, hnz.out]
            clear e3 hlf h4d hN4 oL4 hB4
            generalize marked z.l 80 = ml at oL5 hmk
            go_wp2_with fail
            go_loopw [11] (fun jv wq => ∃ (j : Nat) (ls : List Nat), j ≤ nz ∧ jv = .int .i64 (j : Int) ∧ ls.length = nz + 80 ∧ Hid (Own wq W0.heap.size 5 1 (some ⟨ga, 0, none⟩) (nz + 80) cc (u8s ls)) ∧ Hid (S4 w wq gH gT ks (totS zs k) (upd m at_ (m at_ ++ z.l)) m A c) ∧ Hid (StB wq gx z)) (fun jv _ => nz - (intOf jv).toNat)
            case atStart => exact ⟨0, ml, by omega, rfl, hmk, oL5, h4e, hN5⟩
            case round =>
              clear oL5 h4e hN5
              obtain ⟨j, ls, hj, rfl, hls, oL6, h4f, hN6⟩ := hrel
              by_cases hjl : j < nz
              · have hcl := oL6.out.cell j (by omega)
                rw [u8s_get _ _ (by omega)] at hcl
                have hfz := oL6.out.frozen j
                have oS := Lib.hid (oL6.out.set j (.int .u8 90))
                have hus := Lib.hid (show (u8s ls).set j (.int .u8 90) = u8s (ls.set j 90) by simp [u8s, List.map_set])
                have hS6 := Lib.hid (h4f.out.far (p := ⟨ga, j, none⟩) (fun i hi b hb => Nat.lt_of_lt_of_le (hAl.out i hi b hb) hga.out.1) (Nat.lt_of_lt_of_le (Nat.lt_trans hgx.out hgW.out) hga.out.1) (.int .u8 90))
                have hN7 := Lib.hid (hN6.out.block (heap_setCell_other wr ⟨ga, j, none⟩ gx (.int .u8 90) (by have := hga.out.1; have := hgW.out; show gx ≠ ga; omega)))
                clear oL6 h4f hN6
                go_wp2_with fail
                go_roundw
                case rel => exact ⟨j + 1, ls.set j 90, by omega, by go_num, by simp [hls], Lib.hid (by rw [← hus.out]; exact oS.out), hS6, hN7⟩
                case measure => simp [intOf]; omega
              · have ct := h4f.out.cell at_ hat
                have cx := hN6.out.c3
                rw [hnz.out] at cx
                have hB6 := Lib.hid h4f.out.bel
                have hle6 := Lib.hid h4f.out.lt
                obtain ⟨nm, hnm⟩ : ∃ n, Hid ((m at_).length = n) := ⟨_, Lib.hid rfl⟩
                have hnmL : nm ≤ totS zs k := by rw [← hnm.out]; exact h4f.out.len at_ hat
                rw [hnm.out] at ct
                have hmk2 := mono.out k (by omega)
                have hown := Lib.hid (h4f.out.own at_ hat).byt
                clear oL6
                go_wp2_with (first
                  | (at_builtin; refine wpList_appB elB _ rfl (.tmp 72) (.tmp 75) rfl rfl (ownB_nil _ (gT + 1) _) rfl hnm.out hown.out (by omega) hle6.out nm (by omega) ?_
                     intro X1 x1 wA o1 at1 bb1
                     have hSA := Lib.hid (h4f.out.app at1 bb1 (fun i hi j hj => by cases hj))
                     have o1' := Lib.hid o1
                     have hNA := Lib.hid (hN6.out.block (at1.grown.block gx hN6.out.lt (by simp [blockOf])))
                     have ctA := hSA.out.1.cell at_ hat
                     have cxA := hNA.out.c3
                     rw [hnz.out] at cxA
                     rw [hnm.out] at ctA
                     have hBA := Lib.hid hSA.out.1.bel
                     have hleA := Lib.hid hSA.out.1.lt
                     clear o1 at1 bb1 ct cx h4f hN6 hown hB6 hle6)
                  | (at_builtin; refine wpList_appB elB _ rfl (.tmp 77) (.tmp 79) rfl rfl o1'.out rfl hnz.out (hzb'.out _ hBA.out) (by omega) hleA.out (nm + nz) rfl ?_
                     intro X2 x2 wB o2 at2 bb2
                     have hSB := Lib.hid (hSA.out.1.app at2 bb2 hSA.out.2).1
                     have o2' := Lib.hid o2
                     have ctB := hSB.out.cell at_ hat
                     rw [hnm.out] at ctB
                     have fzB := hSB.out.fz at_
                     clear o2 at2 bb2 ctA cxA hSA o1' hNA hBA hleA))
                go_roundw
                case rel =>
                  refine ⟨k + 1, upd m at_ (m at_ ++ z.l), upd A at_ X2, upd c at_ x2, by omega, by go_num, Lib.hid ?_⟩
                  refine hSB.out.list hat (by rw [List.length_append, hnm.out, hnz.out]) ?_ ?_ (by rw [hts'.out]; omega) (by rw [hts'.out, List.length_append, hnm.out, hnz.out]; omega)
                  · simpa using o2'.out
                  · intro b hb
                    rcases List.mem_append.1 hb with h | h
                    · exact hSB.out.byt at_ hat b h
                    · exact hz256'.out b h
                case measure => simp [intOf]; omega
          have n0 : (z.d == 0) = false := by rw [beq_eq_false_iff_ne]; exact e0
          have hmL := Lib.hid (show totS zs k ≤ totS zs (k + 1) by rw [hts'.out]; omega)
          obtain ⟨nm, hnm⟩ : ∃ n, Hid ((m at_).length = n) := ⟨_, Lib.hid rfl⟩
          have hnmL : nm ≤ totS zs k := by rw [← hnm.out]; exact h4b.out.len at_ hat
          have hmk2 := mono.out k (by omega)
          have ct := h4b.out.cell at_ hat
          rw [hnm.out] at ct
          by_cases e1 : z.d = 1
          · rw [e1] at d0
            clear n0
            have hTW := hT'.out.below hBW.out
            have hrs := refSum_any W0 ks (m at_) (A at_) (c at_) hTW.r hTW.b hk'.out hkl'.out (h4b.out.byt at_ hat) (h4b.out.own at_ hat).byt (by rw [hnm.out]; omega)
            obtain ⟨D, hD⟩ : ∃ D, Hid (∀ _ : Unit, digest ks (m at_) = D) := ⟨_, Lib.hid fun _ => rfl⟩
            have hDn : D.length = 32 := by rw [← hD.out ()]; exact digest_length _ _
            rw [hnm.out, hD.out ()] at hrs
            have hs2 := Lib.hid (show (u8s D).toArray.size = 32 by simp [u8s, hDn])
            have hs2l := Lib.hid (show (u8s D).length = 32 by simp [u8s, hDn])
            have hz32 := Lib.hid (show (u8s (zeros 32)).toArray.size = 32 by simp [u8s, zeros])
            have hone := Lib.hid (show (u8s D).toArray.all (·.oneCell') = true from all_oneCell_toArray u8s_one)
            have qN : ∀ W, (binOp .neq 34 (.agg (u8s D).toArray) (.agg (u8s D).toArray)).run Tryd.prog W = .ok (.bool false) W := fun W => by rw [neK hDn hDn]; simp
            have hrs' := Lib.hid hrs
            clear hrs hTW hDn
            go_wp2_with fail
            refine hrs'.out.mono ?_
            rintro e wp ⟨rfl, hbp⟩
            go_wp2_with (first
              | (refine wpList_store_row rfl 34 _ _ rfl wp.heap.size (u8s D).toArray rfl rfl 34 _ (heap_alloc_new wp _) (by rw [hs2.out]; exact hi32'.out) (by rw [hs2.out, hz32.out]) hone.out ?_
                 obtain ⟨k8, hb8⟩ := key_new wp D
                 have hb9 := hbp.trans (hb8.mono hbp.size)
                 clear hb8
                 generalize ((wp.alloc (.cells (u8s (zeros 32)).toArray 34)).setRow wp.heap.size (u8s D).toArray) = wq at k8 hb9 ⊢
                 generalize wp.heap.size = g8 at k8 ⊢))
            have h4q := Lib.hid (h4b.out.keep hb9)
            clear hb9 hbp hrs' ct d0
            have k8b : Blk8 wq g8 D := k8
            have rg' : Hid (∀ W : World, Blk8 W g8 D → W.rangeAt g8 0 (u8s D)) := Lib.hid fun W h j v hv => by
              rw [Nat.zero_add, cell_of_row _ _ _ _ _ _ h]
              simpa using hv
            refine wp_region_held (S := fun W => Blk8 W g8 D) (by kernel_rfl) ?_
            change wpAnyH _ _ _ _ _ _ _ _ (World.drew _)
            have hd : Hid (Blk8 wq.drew g8 D) := Lib.hid k8b
            refine wpAnyH_take (i := 0) (v := .int .i64 (at_ : Int)) rfl (by kernel_rfl) (by kernel_rfl) (by kernel_rfl) (fun _ _ _ h => h) (Or.inl ⟨by rfl, by intro W _; go_simp⟩) hd.out ?_
            simp only [Act.put, List.setIfInBounds_toArray, List.set_cons_zero, List.set_cons_succ]
            refine wpAnyH_take (i := 1) (v := .pointer (some ⟨gH, at_ * 74, none⟩)) rfl (by kernel_rfl) (by kernel_rfl) (by kernel_rfl) (fun _ _ _ h => h) (Or.inl ⟨by rfl, by intro W _; go_simp⟩) hd.out ?_
            simp only [Act.put, List.setIfInBounds_toArray, List.set_cons_zero, List.set_cons_succ]
            refine wpAnyH_take (i := 3) rfl (by kernel_rfl) (by kernel_rfl) (by kernel_rfl) (fun _ _ _ h => h) (yieldsIf_load_mid (by rfl) 34 _ rfl g8 0 rfl (u8s D) _ (fun _ h => rg'.out _ h) Tryd.underlying34 rfl (by rw [hs2l.out]; exact hi32'.out)) hd.out ?_
            simp only [Act.put, List.setIfInBounds_toArray, List.set_cons_zero, List.set_cons_succ]
            have hsm := sum_any wq.drew ks (m at_) (((h4q.out.has at_ hat).keep (below_drewN (Below.refl _ _) 1))) (hT'.out.below ((h4q.out.bel).drew)).t hk'.out hkl'.out (h4q.out.byt at_ hat) (by rw [hnm.out]; omega)
            rw [hD.out ()] at hsm
            have hsm' := Lib.hid hsm
            clear hsm k8 k8b
            refine wpAnyH_ready (rs := [2]) (by kernel_rfl) (by simp) ?_
            refine AllReadyH.cons rfl (fun K hK => ?_) AllReadyH.nil
            go_simp
            go_wp2_with (go_at_call 19; refine hsm'.out.mono ?_; rintro e wz ⟨rfl, hbz⟩; skip)
            have hz8 : Hid (Blk8 wz g8 D) := Lib.hid (hd.out.below hbz)
            have h4z := Lib.hid ((h4q.out.keep (below_drewN (Below.refl _ _) 1)).keep hbz)
            refine hK.out _ _ hz8.out (fun _ => ?_)
            clear hK K hbz hsm' hd h4q
            refine wpAnyH_ready (rs := [4]) (by kernel_rfl) (by simp) ?_
            refine AllReadyH.cons rfl (fun K hK => ?_) AllReadyH.nil
            go_simp
            refine hK.out _ _ hz8.out (fun _ => ?_)
            clear hK K
            refine wpAnyH_done (by kernel_rfl) ?_ _
            go_wp2_with fail
            go_roundw
            case rel => exact ⟨k + 1, m, A, c, by omega, by go_num, Lib.hid (h4z.out.mono hmL.out)⟩
            case measure => simp [intOf]; omega
          have n1 : (z.d == 1) = false := by rw [beq_eq_false_iff_ne]; exact e1
          by_cases e2 : z.d = 2
          · rw [e2] at d0
            clear n0 n1
            have hln : Hid (∀ n, Calls Tryd.prog 20 #[.pointer (some ⟨gH, at_ * 74, none⟩)] (W0.drewN n) fun e w' => e = .returned (.int .u64 (nm : Int)) ∧ W0.drewN n = w') := Lib.hid fun n => by
              have := len_any (W0.drewN n) ((h4b.out.has at_ hat).keep (below_drewN (Below.refl _ _) n))
              rwa [hnm.out] at this
            have hmod : (nm : Int) % 18446744073709551616 = (nm : Int) := by omega
            go_wp2_with fail
            go_quiet (exact quiet_e (hln.out _))
            go_wp2_with fail
            go_roundw
            case rel => exact ⟨k + 1, m, A, c, by omega, by go_num, Lib.hid ((h4b.out.keep (below_drewN (Below.refl _ _) _)).mono hmL.out)⟩
            case measure => simp [intOf]; omega
          have n2 : (z.d == 2) = false := by rw [beq_eq_false_iff_ne]; exact e2
          by_cases e3 : z.d = 3
          · rw [e3] at d0
            clear n0 n1 n2
            have d2 := hN.out.c2
            go_wp2_with fail
            refine (four_any z.f W0).mono ?_
            rintro e w' ⟨rfl, rfl⟩
            have hfr := fourN_lt z.f
            generalize fourN z.f = fr at hfr ⊢
            have hfrz : (fr : Int) < 4 := by omega
            obtain ⟨rsH, ⟨stH, bgH, hHR, hst⟩, hrsH⟩ := h4b.out.has fr hfr
            obtain ⟨_, ⟨_, _, hFR, _⟩, _⟩ := h4b.out.has at_ hat
            have hcp := hFR.copyO (n := (m fr).length) (bg := bgH) hHR.l1 hHR.l2
            have h74 : (hcells stH rsH (m fr).length bgH).length = 74 := hcells_length hHR.l1 hHR.l2
            have hrg := Lib.hid hHR.range
            have hone := Lib.hid (all_oneCell_toArray (hcells_one stH rsH (m fr).length bgH))
            have h4c := Lib.hid (h4b.out.hash hat (x := m fr) ⟨rsH, ⟨stH, bgH, hcp.2, hst⟩, hrsH⟩ (Chg.cells W0 gH (Nat.le_refl (at_ * 74)) (by rw [h74]; exact Nat.le_refl _)))
            have hth := Lib.hid hcp.1
            obtain ⟨nf, hnf⟩ : ∃ n, Hid ((m fr).length = n) := ⟨_, Lib.hid rfl⟩
            generalize hcells stH rsH (m fr).length bgH = hc at h74 hrg hone h4c hth
            have h74' := Lib.hid h74
            clear hcp h74 hHR hst hrsH hFR d2
            go_wp2_with (first
              | (refine wpList_load_mid rfl 45 _ rfl gH (fr * 74) rfl hc _ hrg.out Tryd.underlying45 rfl (by rw [h74'.out]; exact hi74'.out) ?_)
              | (refine wpList_store_mid rfl 45 _ _ rfl gH (at_ * 74) hc.toArray rfl rfl (by rw [List.size_toArray]; exact hth.out) (by rw [List.size_toArray, h74'.out]; exact hi74'.out) hone.out ?_
                 rw [List.toList_toArray]
                 generalize W0.setCells gH (at_ * 74) hc = wA at h4c ⊢
                 have cf := h4c.out.cell fr hfr
                 have ca := h4c.out.cell at_ hat
                 have fz := h4c.out.fz at_
                 rw [hnf.out] at cf
                 rw [hnm.out] at ca
                 clear ct d0))
            go_roundw
            case rel => exact ⟨k + 1, upd m at_ (m fr), upd A at_ (A fr), upd c at_ (c fr), by omega, by go_num, Lib.hid (h4c.out.list hat hnf.out.symm (by have := h4c.out.own fr hfr; rw [hnf.out] at this; exact this) (h4c.out.byt fr hfr) hmL.out (Nat.le_trans (h4c.out.len fr hfr) hmL.out))⟩
            case measure => simp [intOf]; omega
          have n3 : (z.d == 3) = false := by rw [beq_eq_false_iff_ne]; exact e3
          by_cases e4 : z.d = 4
          · rw [e4] at d0
            clear n0 n1 n2 n3
            obtain ⟨_, ⟨_, _, hFR, _⟩, _⟩ := h4b.out.has at_ hat
            have hcp := hFR.copyO (st := zeros 8) (rs := zeros 64) (n := 0) (bg := false) (by simp [zeros]) (by simp [zeros])
            have hth : Hid (W0.there gH (at_ * 74) hz74.length) := Lib.hid hcp.1
            have h74' := Lib.hid hz74_length
            have hone := Lib.hid (all_oneCell_toArray hz_one)
            have h4c : Hid (S4 w (W0.setCells gH (at_ * 74) hz74) gH gT ks (totS zs k) (upd m at_ []) m A c) := Lib.hid (h4b.out.hash hat (x := []) (has_zero hcp.2) (Chg.cells W0 gH (Nat.le_refl (at_ * 74)) (by rw [hz74_length]; exact Nat.le_refl _)))
            clear hcp hFR
            go_wp2_with (first
              | (refine wpList_built rfl 45 #[] #[] rfl (by simp) hz74V (buildH _) ?_)
              | (refine wpList_store_mid rfl 45 _ _ rfl gH (at_ * 74) hz74.toArray rfl rfl (by rw [List.size_toArray]; exact hth.out) (by rw [List.size_toArray, h74'.out]; exact hi74'.out) hone.out ?_
                 rw [List.toList_toArray]
                 generalize W0.setCells gH (at_ * 74) hz74 = wA at h4c ⊢
                 have ca := h4c.out.cell at_ hat
                 have fz := h4c.out.fz at_
                 rw [hnm.out] at ca
                 clear ct d0))
            go_roundw
            case rel => exact ⟨k + 1, upd m at_ [], upd A at_ none, upd c at_ 0, by omega, by go_num, Lib.hid (h4c.out.list hat (n' := 0) (x := []) rfl (Own.nil _ _ _ _) (fun b hb => by cases hb) hmL.out (by simp))⟩
            case measure => simp [intOf]; omega
          · have n4 : (z.d == 4) = false := by rw [beq_eq_false_iff_ne]; exact e4
            go_wp2_with fail
            go_roundw
            case rel => exact ⟨k + 1, m, A, c, by omega, by go_num, Lib.hid (h4b.out.mono hmL.out)⟩
            case measure => simp [intOf]; omega
        · have h4P : Hid (S4 w wr gH gT ks L m m A c) := Lib.hid (h4.out.mono (mono.out k hk))
          clear h4
          go_wp2_with fail
          go_loopw [15] (fun iv wq => ∃ i : Nat, i ≤ 4 ∧ iv = .int .i64 (i : Int) ∧ Hid (S4 w wq gH gT ks L m m A c)) (fun iv _ => 4 - (intOf iv).toNat)
          case atStart => exact ⟨0, by omega, rfl, h4P⟩
          case round =>
            clear h4P
            obtain ⟨i, hi, rfl, h4⟩ := hrel
            by_cases hi4 : i < 4
            · have hiz : (i : Int) < 4 := by omega
              obtain ⟨nm, hnm⟩ : ∃ n, Hid ((m i).length = n) := ⟨_, Lib.hid rfl⟩
              have hnmL : nm ≤ L := by rw [← hnm.out]; exact h4.out.len i hi4
              have ct := h4.out.cell i hi4
              rw [hnm.out] at ct
              have hBW := Lib.hid h4.out.bel
              have hTW := hT'.out.below hBW.out
              have hrs := refSum_any wr ks (m i) (A i) (c i) hTW.r hTW.b hk'.out hkl'.out (h4.out.byt i hi4) (h4.out.own i hi4).byt (by rw [hnm.out]; omega)
              obtain ⟨D, hD⟩ : ∃ D, Hid (∀ _ : Unit, digest ks (m i) = D) := ⟨_, Lib.hid fun _ => rfl⟩
              have hDn : D.length = 32 := by rw [← hD.out ()]; exact digest_length _ _
              rw [hnm.out, hD.out ()] at hrs
              have hs2 := Lib.hid (show (u8s D).toArray.size = 32 by simp [u8s, hDn])
              have hs2l := Lib.hid (show (u8s D).length = 32 by simp [u8s, hDn])
              have hz32 := Lib.hid (show (u8s (zeros 32)).toArray.size = 32 by simp [u8s, zeros])
              have hone := Lib.hid (show (u8s D).toArray.all (·.oneCell') = true from all_oneCell_toArray u8s_one)
              have qN : ∀ W, (binOp .neq 34 (.agg (u8s D).toArray) (.agg (u8s D).toArray)).run Tryd.prog W = .ok (.bool false) W := fun W => by rw [neK hDn hDn]; simp
              have hSum : Hid (∀ W, S4 w W gH gT ks L m m A c → Calls Tryd.prog 19 #[.pointer (some ⟨gH, i * 74, none⟩)] W fun e w' => e = .returned (.agg (u8s D).toArray) ∧ Below W.heap.size W w') := Lib.hid fun W h => by
                have := sum_any W ks (m i) (h.has i hi4) (hT'.out.below h.bel).t hk'.out hkl'.out (h.byt i hi4) (by rw [hnm.out]; omega)
                rwa [hD.out ()] at this
              have hLen : Hid (∀ W, S4 w W gH gT ks L m m A c → Calls Tryd.prog 20 #[.pointer (some ⟨gH, i * 74, none⟩)] W fun e w' => e = .returned (.int .u64 (nm : Int)) ∧ W = w') := Lib.hid fun W h => by
                have := len_any W (h.has i hi4)
                rwa [hnm.out] at this
              have hCt : Hid (∀ W, S4 w W gH gT ks L m m A c → W.cell? ⟨gT, i, none⟩ = some (.slice (A i) nm (c i))) := Lib.hid fun W h => by
                have := h.cell i hi4
                rwa [hnm.out] at this
              have hmod : (nm : Int) % 18446744073709551616 = (nm : Int) := by omega
              have hmod2 : IntKind.u64.wrap (nm : Int) = (nm : Int) := by rw [IntKind.wrap_u64]; omega
              have hrs' := Lib.hid hrs
              clear hrs hTW hDn hBW
              go_wp2_with fail
              refine hrs'.out.mono ?_
              rintro e wp ⟨rfl, hbp⟩
              go_wp2_with (first
                | (refine wpList_store_row rfl 34 _ _ rfl wp.heap.size (u8s D).toArray rfl rfl 34 _ (heap_alloc_new wp _) (by rw [hs2.out]; exact hi32'.out) (by rw [hs2.out, hz32.out]) hone.out ?_
                   obtain ⟨k8, hb8⟩ := key_new wp D
                   have hb9 := hbp.trans (hb8.mono hbp.size)
                   clear hb8
                   generalize ((wp.alloc (.cells (u8s (zeros 32)).toArray 34)).setRow wp.heap.size (u8s D).toArray) = wr2 at k8 hb9 ⊢
                   generalize wp.heap.size = g8 at k8 ⊢))
              have h4q := Lib.hid (h4.out.keep hb9)
              clear hb9 hbp hrs' ct h4
              have k8b : Blk8 wr2 g8 D := k8
              have rg' : Hid (∀ W : World, Blk8 W g8 D → W.rangeAt g8 0 (u8s D)) := Lib.hid fun W h j v hv => by
                rw [Nat.zero_add, cell_of_row _ _ _ _ _ _ h]
                simpa using hv
              · refine wp_region_held (S := fun W => Blk8 W g8 D ∧ S4 w W gH gT ks L m m A c) (by kernel_rfl) ?_
                change wpAnyH _ _ _ _ _ _ _ _ (World.drew _)
                have hd : Hid (Blk8 wr2.drew g8 D ∧ S4 w wr2.drew gH gT ks L m m A c) := Lib.hid ⟨k8b, h4q.out.keep (below_drewN (Below.refl _ _) 1)⟩
                clear k8 k8b h4q
                refine wpAnyH_take (i := 0) (v := .int .i64 (i : Int)) rfl (by kernel_rfl) (by kernel_rfl) (by kernel_rfl) (fun _ _ _ h => h) (Or.inl ⟨by rfl, by intro W hW; clear hW; go_simp⟩) hd.out ?_
                simp only [Act.put, List.setIfInBounds_toArray, List.set_cons_zero, List.set_cons_succ]
                refine wpAnyH_take (i := 1) (v := .pointer (some ⟨gH, i * 74, none⟩)) rfl (by kernel_rfl) (by kernel_rfl) (by kernel_rfl) (fun _ _ _ h => h) (Or.inl ⟨by rfl, by intro W hW; clear hW; go_simp⟩) hd.out ?_
                simp only [Act.put, List.setIfInBounds_toArray, List.set_cons_zero, List.set_cons_succ]
                refine wpAnyH_take (i := 3) rfl (by kernel_rfl) (by kernel_rfl) (by kernel_rfl) (fun _ _ _ h => h) (yieldsIf_load_mid (by rfl) 34 _ rfl g8 0 rfl (u8s D) _ (fun _ h => rg'.out _ h.1) Tryd.underlying34 rfl (by rw [hs2l.out]; exact hi32'.out)) hd.out ?_
                simp only [Act.put, List.setIfInBounds_toArray, List.set_cons_zero, List.set_cons_succ]
                refine wpAnyH_ready (rs := [2]) (by kernel_rfl) (by simp) ?_
                refine AllReadyH.cons rfl (fun K hK => ?_) AllReadyH.nil
                go_simp
                have hsm := Lib.hid (hSum.out _ hd.out.2)
                go_wp2_with (go_at_call 19; refine hsm.out.mono ?_; rintro e wz ⟨rfl, hbz⟩; skip)
                have hd2 : Hid (Blk8 wz g8 D ∧ S4 w wz gH gT ks L m m A c) := Lib.hid ⟨hd.out.1.below hbz, hd.out.2.keep hbz⟩
                refine hK.out _ _ hd2.out (fun _ => ?_)
                clear hK K hbz hsm hd
                refine wpAnyH_ready (rs := [4]) (by kernel_rfl) (by simp) ?_
                refine AllReadyH.cons rfl (fun K hK => ?_) AllReadyH.nil
                go_simp
                refine hK.out _ _ hd2.out (fun _ => ?_)
                clear hK K
                refine wpAnyH_ready (rs := [5]) (by kernel_rfl) (by simp) ?_
                refine AllReadyH.cons rfl (fun K hK => ?_) AllReadyH.nil
                go_simp
                refine hK.out _ _ hd2.out (fun _ => ?_)
                clear hK K
                refine wpAnyH_take (i := 6) (v := .int .i64 (i : Int)) rfl (by kernel_rfl) (by kernel_rfl) (by kernel_rfl) (fun _ _ _ h => h) (Or.inl ⟨by rfl, by intro W hW; clear hW; go_simp⟩) hd2.out ?_
                simp only [Act.put, List.setIfInBounds_toArray, List.set_cons_zero, List.set_cons_succ]
                refine wpAnyH_take (i := 7) (v := .pointer (some ⟨gH, i * 74, none⟩)) rfl (by kernel_rfl) (by kernel_rfl) (by kernel_rfl) (fun _ _ _ h => h) (Or.inl ⟨by rfl, by intro W hW; clear hW; go_simp⟩) hd2.out ?_
                simp only [Act.put, List.setIfInBounds_toArray, List.set_cons_zero, List.set_cons_succ]
                refine wpAnyH_take (i := 9) rfl (by kernel_rfl) (by kernel_rfl) (by kernel_rfl) (fun _ _ _ h => h) (yieldsIf_load_mid (by rfl) 34 _ rfl g8 0 rfl (u8s D) _ (fun _ h => rg'.out _ h.1) Tryd.underlying34 rfl (by rw [hs2l.out]; exact hi32'.out)) hd2.out ?_
                simp only [Act.put, List.setIfInBounds_toArray, List.set_cons_zero, List.set_cons_succ]
                refine wpAnyH_ready (rs := [8]) (by kernel_rfl) (by simp) ?_
                refine AllReadyH.cons rfl (fun K hK => ?_) AllReadyH.nil
                go_simp
                have hsm := Lib.hid (hSum.out _ hd2.out.2)
                go_wp2_with (go_at_call 19; refine hsm.out.mono ?_; rintro e wz2 ⟨rfl, hbz⟩; skip)
                have hd3 : Hid (Blk8 wz2 g8 D ∧ S4 w wz2 gH gT ks L m m A c) := Lib.hid ⟨hd2.out.1.below hbz, hd2.out.2.keep hbz⟩
                refine hK.out _ _ hd3.out (fun _ => ?_)
                clear hK K hbz hsm hd2
                refine wpAnyH_ready (rs := [10]) (by kernel_rfl) (by simp) ?_
                refine AllReadyH.cons rfl (fun K hK => ?_) AllReadyH.nil
                go_simp
                refine hK.out _ _ hd3.out (fun _ => ?_)
                clear hK K
                refine wpAnyH_ready (rs := [11]) (by kernel_rfl) (by simp) ?_
                refine AllReadyH.cons rfl (fun K hK => ?_) AllReadyH.nil
                go_simp
                refine hK.out _ _ hd3.out (fun _ => ?_)
                clear hK K
                refine wpAnyH_ready (rs := [12]) (by kernel_rfl) (by simp) ?_
                refine AllReadyH.cons rfl (fun K hK => ?_) AllReadyH.nil
                go_simp
                refine hK.out _ _ hd3.out (fun _ => ?_)
                clear hK K
                refine wpAnyH_take (i := 13) (v := .int .i64 (i : Int)) rfl (by kernel_rfl) (by kernel_rfl) (by kernel_rfl) (fun _ _ _ h => h) (Or.inl ⟨by rfl, by intro W hW; clear hW; go_simp⟩) hd3.out ?_
                simp only [Act.put, List.setIfInBounds_toArray, List.set_cons_zero, List.set_cons_succ]
                refine wpAnyH_take (i := 14) (v := .pointer (some ⟨gH, i * 74, none⟩)) rfl (by kernel_rfl) (by kernel_rfl) (by kernel_rfl) (fun _ _ _ h => h) (Or.inl ⟨by rfl, by intro W hW; clear hW; go_simp⟩) hd3.out ?_
                simp only [Act.put, List.setIfInBounds_toArray, List.set_cons_zero, List.set_cons_succ]
                refine wpAnyH_take (i := 16) (v := .int .i64 (i : Int)) rfl (by kernel_rfl) (by kernel_rfl) (by kernel_rfl) (fun _ _ _ h => h) (Or.inl ⟨by rfl, by intro W hW; clear hW; go_simp⟩) hd3.out ?_
                simp only [Act.put, List.setIfInBounds_toArray, List.set_cons_zero, List.set_cons_succ]
                refine wpAnyH_take (i := 17) (v := .pointer (some ⟨gT, i, none⟩)) rfl (by kernel_rfl) (by kernel_rfl) (by kernel_rfl) (fun _ _ _ h => h) (Or.inl ⟨by rfl, by intro W hW; clear hW; go_simp⟩) hd3.out ?_
                simp only [Act.put, List.setIfInBounds_toArray, List.set_cons_zero, List.set_cons_succ]
                refine wpAnyH_take (i := 18) (v := .slice (A i) nm (c i)) rfl (by kernel_rfl) (by kernel_rfl) (by kernel_rfl) (fun _ _ _ h => h) (Or.inl ⟨by rfl, by intro W hW; have ct := hCt.out W hW.2; clear hW; go_simp⟩) hd3.out ?_
                simp only [Act.put, List.setIfInBounds_toArray, List.set_cons_zero, List.set_cons_succ]
                refine wpAnyH_take (i := 19) (v := .int .i64 (nm : Int)) rfl (by kernel_rfl) (by kernel_rfl) (by kernel_rfl) (fun _ _ _ h => h) (Or.inl ⟨by rfl, by intro W hW; clear hW; go_simp⟩) hd3.out ?_
                simp only [Act.put, List.setIfInBounds_toArray, List.set_cons_zero, List.set_cons_succ]
                refine wpAnyH_take (i := 20) (v := .int .u64 (nm : Int)) rfl (by kernel_rfl) (by kernel_rfl) (by kernel_rfl) (fun _ _ _ h => h) (Or.inl ⟨by rfl, by intro W hW; clear hW; go_simp⟩) hd3.out ?_
                simp only [Act.put, List.setIfInBounds_toArray, List.set_cons_zero, List.set_cons_succ]
                refine wpAnyH_ready (rs := [15]) (by kernel_rfl) (by simp) ?_
                refine AllReadyH.cons rfl (fun K hK => ?_) AllReadyH.nil
                go_simp
                have hln := Lib.hid (hLen.out _ hd3.out.2)
                go_wp2_with (go_at_call 20; refine hln.out.mono ?_; rintro e w' ⟨rfl, rfl⟩; skip)
                refine hK.out _ _ hd3.out (fun _ => ?_)
                clear hK K
                refine wpAnyH_ready (rs := [21]) (by kernel_rfl) (by simp) ?_
                refine AllReadyH.cons rfl (fun K hK => ?_) AllReadyH.nil
                go_simp
                refine hK.out _ _ hd3.out (fun _ => ?_)
                clear hK K
                refine wpAnyH_ready (rs := [22]) (by kernel_rfl) (by simp) ?_
                refine AllReadyH.cons rfl (fun K hK => ?_) AllReadyH.nil
                go_simp
                refine hK.out _ _ hd3.out (fun _ => ?_)
                clear hK K
                refine wpAnyH_done (by kernel_rfl) ?_ _
                go_wp2_with fail
                go_roundw
                case rel => exact ⟨i + 1, by omega, by go_num, Lib.hid hd3.out.2⟩
                case measure => simp [intOf]; omega
            · go_wp2_with fail
              refine (hlv.out wr h4.out.bel).mono ?_
              rintro e we ⟨rfl, hbe⟩
              have hBe := Lib.hid (h4.out.bel.trans (hbe.mono h4.out.bel.size))
              clear hbe
              go_wp2_with fail
              go_ret
              exact ⟨rfl, hBe.out⟩
end Go.Proofs.YtfibfaablpoilaaDoor

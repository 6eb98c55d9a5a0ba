/- BloomFresh' walk. -/
import Derived.Test.YtlghgfnkckaebaaWTold0
import Derived.Test.YtlghgfnkckaebaaWKeys
import Derived.Test.YtlghgfnkckaebaaWStr
import Derived.Test.YtlghgfnkckaebaaWNew
import Derived.Test.YtlghgfnkckaebaaGearN
namespace Go.Proofs.Ytlghgfnkckaebaa
open Go.RowKit
set_option linter.unusedSimpArgs false
set_option linter.unusedVariables false

theorem zero_at (n j : Nat) (hj : j < n) : (u8s (List.replicate n 0)).toArray[0 + j]? = some (.int .u8 (((List.replicate n 0)[j]?.getD 0 : Nat) : Int)) := by
  simp [u8s, hj]
set_option maxRecDepth 20000 in
set_option maxHeartbeats 4000000 in
theorem bfresh_any (w : World) (A : Option Addr) (n c : Nat) (ks : Nat → List Nat) (hK : KeyRow w A n ks) (hn : n ≤ 140737488355328) :
    Calls Try.prog 9 #[.slice A n c] w fun e w' => e = .returned (.bool true) ∧ Below w.heap.size w w' := by
  have hK' := Lib.hid hK
  have hnew : Hid (∀ W, Calls Try.prog 23 #[.int .i64 128, .int .i64 3] W fun e w' => (∃ g A c, e = .returned (.tuple #[.pointer (some ⟨g, 0, none⟩), .int .i64 0]) ∧ Flt w' W.heap.size g A c (List.replicate 2 0) 3) ∧ Below W.heap.size W w') := Lib.hid fun W => fnew_yes 2 3 (by decide) (by decide) (by decide) (by decide) W
  have hi32 : Hid ((Try.prog.info? 51).map (·.size) = some 32) := Lib.hid (by kernel_rfl)
  clear hK
  go_enter Try.func9, Try.ntmps9
  go_wp2_with (go_at_call 23; refine (hnew.out _).mono ?_; rintro e w1 ⟨⟨g, A1, cf, rfl, hf⟩, hb⟩; have f1 := Lib.hid hf; have b1 := Lib.hid hb; clear hf hb)
  obtain ⟨A0, hA, hA0, _⟩ := f1.out.at
  subst hA
  have hA0' := Lib.hid hA0
  have hg0 : Hid (w.heap.size ≤ g) := Lib.hid f1.out.gB
  clear hA0 hnew
  go_loopw [5] (fun iv wr => ∃ (i : Nat) (l : List Nat), i ≤ n ∧ iv = .int .i64 (i : Int) ∧ Hid (l.length = 2) ∧ Hid (Flt wr w.heap.size g (some ⟨A0, 0, none⟩) cf l 3) ∧ Hid (Below w.heap.size w wr)) (fun iv _ => n - (intOf iv).toNat)
  case atStart => exact ⟨0, List.replicate 2 0, by omega, rfl, Lib.hid rfl, f1, b1⟩
  case round =>
    clear f1 b1
    obtain ⟨i, l, hi, rfl, hl2, hf, hb⟩ := hrel
    by_cases hlt : i < n
    · obtain ⟨b0, off, rfl, hb0, hr⟩ := hK'.out.row (by omega)
      have hri := Lib.hid (hr i hlt)
      have hkl : Hid ((u8s (ks i)).length = 32) := Lib.hid (by rw [u8s_length]; exact hK'.out.len i hlt)
      have hrw : Hid (wr.rangeAt b0 (off + i * 32) (u8s (ks i))) := Lib.hid fun j v hv => (hb.out.cell (p := ⟨b0, off + i * 32 + j, none⟩) hb0).trans (hri.out j v hv)
      have had := Lib.hid (add_any hf.out (ks i) (hK'.out.len i hlt) (hK'.out.lt i hlt))
      obtain ⟨kv, hkv⟩ : ∃ kv, u8s (ks i) = kv := ⟨_, rfl⟩
      rw [hkv] at hrw hkl had
      clear hr hb0 hri hkv
      go_wp2_with (first
        | (refine wpList_load_mid rfl 51 _ rfl b0 (off + i * 32) rfl kv _ hrw.out Try.underlying51 rfl (by rw [hkl.out]; exact hi32.out) ?_)
        | (go_at_call 24
           refine had.out.mono ?_
           rintro e w5 ⟨rfl, f5, r5⟩
           have f5' := Lib.hid f5
           have r5' := Lib.hid r5
           clear f5 r5))
      go_roundw
      case rel => exact ⟨i + 1, _, by omega, by go_num, Lib.hid (by rw [addQ_length]; exact hl2.out), f5', Lib.hid (hb.out.trans (r5'.out.below hb.out.size (fun k hk q => by have : k = A0 := q; have := hA0'.out; omega)))⟩
      case measure => simp [intOf]; omega
    · have hgl := Lib.hid hf.out.lt_
      obtain ⟨L, hL⟩ : ∃ L, Hid (fBy 3 l = L) := ⟨_, Lib.hid rfl⟩
      have hL19 : Hid (L.length = 19) := Lib.hid (by rw [← hL.out, fBy_length, hl2.out])
      have hL256 : Hid (∀ x ∈ L, x < 256) := Lib.hid fun x hx => by
        rw [← hL.out] at hx
        unfold fBy at hx
        rcases List.mem_append.1 hx with hx | hx
        · rcases List.mem_append.1 hx with hx | hx
          · exact fixF_lt _ _ x hx
          · exact fixF_lt _ _ x hx
        · obtain ⟨y, _, hy⟩ := List.mem_flatMap.1 hx
          exact fixF_lt _ _ x hy
      obtain ⟨S, hS⟩ : ∃ S, strB L = S := ⟨_, rfl⟩
      have hSz : S.size = 19 := by rw [← hS]; simp [strB, ByteArray.size, hL19.out]
      have hba := Lib.hid (fbytes_any hf.out)
      rw [hL.out] at hba
      unfold FByP at hba
      rw [hL19.out] at hba
      go_wp2_with (first
        | (go_at_call 22
           refine hbb.out.mono ?_
           rintro e wb ⟨⟨Ab, cb, rfl, ob⟩, bb⟩
           have hcv := conv_bytes wb L Ab cb _ (ob.byt) hL256.out
           rw [hL19.out, hS] at hcv
           have ob' := Lib.hid ob
           have oa' := Lib.hid (oa.out.below bb fun k hk => (oa.out.lt k hk).2)
           have fb' := Lib.hid (fa.out.below bb)
           have hBb := Lib.hid (hBa.out.trans (bb.mono hBa.out.size))
           clear ob bb hbb)
        | (go_at_call 22
           refine hba.out.mono ?_
           rintro e wa ⟨⟨Aa, ca, rfl, o1⟩, b1⟩
           have oa := Lib.hid o1
           have fa := Lib.hid (hf.out.below b1)
           have hBa := Lib.hid (hb.out.trans (b1.mono hb.out.size))
           have hbb := Lib.hid (fbytes_any fa.out)
           rw [hL.out] at hbb
           unfold FByP at hbb
           rw [hL19.out] at hbb
           clear o1 b1 hba))
      obtain ⟨Sa, hSa⟩ : ∃ Sa, Hid (wr.heap.size = Sa) := ⟨_, Lib.hid rfl⟩
      obtain ⟨Sb, hSb⟩ : ∃ Sb, Hid (wa.heap.size = Sb) := ⟨_, Lib.hid rfl⟩
      rw [hSa.out] at oa oa'
      rw [hSb.out] at ob'
      obtain ⟨a, hA⟩ := oa'.out.head (by decide)
      subst hA
      have hsa : Hid (w.heap.size ≤ Sa ∧ Sa ≤ a ∧ a < Sb ∧ g < Sa ∧ A0 < Sa) := Lib.hid ⟨hSa.out ▸ hb.out.size, (oa.out.lt a rfl).1, hSb.out ▸ (oa.out.lt a rfl).2, hSa.out ▸ hgl.out, hSa.out ▸ (by
        obtain ⟨A9, e9, _, h9, _⟩ := hf.out.at
        injection e9 with e9
        injection e9 with e9
        rw [e9]
        exact h9)⟩
      have hdis : Hid (Dis (some ⟨a, 0, none⟩) Ab) := Lib.hid fun k h1 h2 => by
        injection h1 with h1
        have h1 : a = k := h1
        have := (ob'.out.lt k h2).1
        have := hsa.out
        omega
      clear oa fa hBa hcv hf hb hgl hK'
      go_loopw [9] (fun iv wq => ∃ (j : Nat) (m : List Nat), j ≤ 19 ∧ iv = .int .i64 (j : Int) ∧ Hid (m.length = 19) ∧ Hid (∀ x ∈ m, x < 256) ∧ Hid (Own wq Sa 5 1 (some ⟨a, 0, none⟩) 19 ca (u8s m)) ∧ Hid (Own wq Sb 5 1 Ab 19 cb (u8s L)) ∧ Hid (Flt wq w.heap.size g (some ⟨A0, 0, none⟩) cf l 3) ∧ Hid (Below w.heap.size w wq)) (fun iv _ => 19 - (intOf iv).toNat)
      case atStart => exact ⟨0, L, by omega, rfl, hL19, hL256, oa', ob', fb', hBb⟩
      case round =>
        clear oa' ob' fb' hBb
        obtain ⟨j, m, hj, rfl, hml, hm256, oa, ob, hf, hb⟩ := hrel
        by_cases hlt2 : j < 19
        · obtain ⟨x, hx⟩ : ∃ x, Hid (m[j]? = some x) := ⟨_, Lib.hid (List.getElem?_eq_getElem (by rw [hml.out]; exact hlt2))⟩
          have hx256 : x < 256 := hm256.out x (List.mem_of_getElem? hx.out)
          have co := oa.out.cell j (by omega)
          have hu : (u8s m)[j]? = some (.int .u8 (x : Int)) := by simp [u8s, hx.out]
          rw [hu] at co
          have fo := oa.out.frozen j
          obtain ⟨y, hy⟩ : ∃ y, x ^^^ 255 = y := ⟨_, rfl⟩
          have hyx : bits .xor .u8 (x : Int) 255 = (y : Int) := by rw [← hy]; exact u8_xor_nat x 255 hx256 (by decide)
          have hy256 : y < 256 := by rw [← hy]; exact Nat.xor_lt_two_pow (n := 8) hx256 (by decide)
          have hms : Hid (∀ z ∈ m.set j y, z < 256) := Lib.hid fun z hz => by
            rcases List.mem_or_eq_of_mem_set hz with h | h
            · exact hm256.out z h
            · rw [h]
              exact hy256
          have hfr := Lib.hid (Fr.of_grown (oa.out.set_grown j (.int .u8 (y : Int))))
          clear hu hy
          go_wp2_with fail
          go_roundw
          case rel => exact ⟨j + 1, m.set j y, by omega, by go_num, Lib.hid (by rw [List.length_set]; exact hml.out), hms, Lib.hid (by have := oa.out.set j (.int .u8 (y : Int)); rwa [show (u8s m).set j (.int .u8 (y : Int)) = u8s (m.set j y) by simp [u8s, List.map_set]] at this), Lib.hid (ob.out.setFar (p := ⟨a, j, none⟩) hsa.out.2.2.1 _), Lib.hid (hf.out.fr hfr.out (fun q => by injection q with q; have := hsa.out; omega) (fun k hk q => by injection q with q; injection hk with hk; have hk : A0 = k := hk; have := hsa.out; omega)), Lib.hid (hb.out.trans (hfr.out.below hb.out.size (fun k hk q => by injection q with q; have := hsa.out; omega)))⟩
          case measure => simp [intOf]; omega
        · have dj : decide ((j : Int) < 19) = false := decide_eq_false (by omega)
          go_wp2_with fail
          clear hm256
          go_loopw [6, 10] (fun sv iv wq => ∃ (q : Nat) (A6 : Option Addr) (c6 : Nat) (m : List Nat), q ≤ 16 ∧ iv = .int .i64 (q : Int) ∧ sv = .slice A6 (19 + q) c6 ∧ Hid (Own wq Sa 5 1 A6 (19 + q) c6 (u8s m)) ∧ Hid (Dis A6 Ab) ∧ Hid (Own wq Sb 5 1 Ab 19 cb (u8s L)) ∧ Hid (Flt wq w.heap.size g (some ⟨A0, 0, none⟩) cf l 3) ∧ Hid (Below w.heap.size w wq)) (fun _ iv _ => 16 - (intOf iv).toNat)
          case atStart => exact ⟨0, _, ca, m, by omega, rfl, rfl, oa, hdis, ob, hf, hb⟩
          case round =>
            clear oa ob hf hb hml
            obtain ⟨q, A6, c6, m6, hq, rfl, rfl, oa, hdi, ob, hf, hb⟩ := hrel
            by_cases hlt3 : q < 16
            · have hsz : Hid (Sa ≤ wr.heap.size) := Lib.hid (by
                obtain ⟨a6, e6⟩ := oa.out.head (by omega)
                have := oa.out.lt a6 (by rw [e6]; rfl)
                omega)
              go_wp2_with (first | (at_builtin; refine wpList_app1 elB _ #[_] rfl rfl _ _ rfl rfl oa.out rfl (by intro u hu; simp at hu; subst hu; rfl) (by unfold maxLen; omega) (by omega) hsz.out (19 + (q + 1)) (by omega) (u8s (m6 ++ [119])) (by rw [u8s_append]; rfl) ?_; intro A7 c7 w7 o7 at7 b7; have o7' := Lib.hid o7; have at7' := Lib.hid at7; have b7' := Lib.hid b7; clear o7 at7 b7))
              have hfr := Lib.hid (Fr.of_grown at7'.out.grown)
              have hD6 : Hid (∀ k, blockOf A6 = some k → Sa ≤ k) := Lib.hid fun k hk => (oa.out.lt k hk).1
              go_roundw
              case rel => exact ⟨q + 1, A7, c7, m6 ++ [119], by omega, by go_num, rfl, o7', Lib.hid (at7'.out.dis ob.out hdi.out), Lib.hid (at7'.out.other ob.out hdi.out), Lib.hid (hf.out.fr hfr.out (fun q => by have := hD6.out _ q; have := hsa.out; omega) (fun k hk q => by injection hk with hk; have hk : A0 = k := hk; have := hD6.out _ q; have := hsa.out; omega)), Lib.hid (hb.out.trans (b7'.out.mono hsa.out.1))⟩
              case measure => simp [intOf]; omega
            · have hzc : Hid (Try.zeroCells52 = (u8s (List.replicate 100 0)).toArray) := Lib.hid (by kernel_rfl)
              have hsz : Hid (Sa ≤ wr.heap.size) := Lib.hid (by
                obtain ⟨a6, e6⟩ := oa.out.head (by omega)
                have := oa.out.lt a6 (by rw [e6]; rfl)
                omega)
              have hsw : Hid (w.heap.size ≤ wr.heap.size) := Lib.hid hb.out.size
              obtain ⟨wm, hwm⟩ : ∃ wm, wr.alloc (.cells Try.zeroCells52 52) = wm := ⟨_, rfl⟩
              obtain ⟨M, hM⟩ : ∃ M, wr.heap.size = M := ⟨_, rfl⟩
              have hbm : Hid (Below wr.heap.size wr wm) := Lib.hid (by rw [← hwm]; exact (Below.refl _ _).alloc (Nat.le_refl _) _)
              have hmy : Hid (Byt wm wm.heap.size (some ⟨M, 0, none⟩) (List.replicate 100 0)) := Lib.hid fun hp => by
                refine ⟨M, 0, rfl, by rw [← hwm, ← hM]; simp, fun j hj => ?_⟩
                rw [← hwm, ← hM, cell_of_row _ _ (0 + j) _ _ _ (heap_alloc_new wr _), hzc.out]
                rw [List.length_replicate] at hj
                exact zero_at 100 j hj
              have oam := Lib.hid (oa.out.below hbm.out fun k hk => (oa.out.lt k hk).2)
              have obm := Lib.hid (ob.out.below hbm.out fun k hk => (ob.out.lt k hk).2)
              have fm := Lib.hid (hf.out.below hbm.out)
              have hbw := Lib.hid (hb.out.trans (hbm.out.mono hsw.out))
              have hszm : Hid (Sa ≤ wm.heap.size) := Lib.hid (Nat.le_trans hsz.out hbm.out.size)
              clear oa ob hf hb hzc
              go_wp2_with (first
                | (at_builtin
                   refine wpList_appB elB _ rfl _ _ rfl rfl oam.out (k := 100) (m := List.replicate 100 0) rfl (by decide) hmy.out (by omega) hszm.out (119 + q) (by omega) ?_
                   intro A7 c7 w7 o7 at7 b7
                   have hfr := Lib.hid (Fr.of_grown at7.grown)
                   have hD6 : Hid (∀ k, blockOf A6 = some k → Sa ≤ k) := Lib.hid fun k hk => (oam.out.lt k hk).1
                   have ob7 := Lib.hid (at7.other obm.out hdi.out)
                   have f7 := Lib.hid (fm.out.fr hfr.out (fun q => by have := hD6.out _ q; have := hsa.out; omega) (fun k hk q => by injection hk with hk; have hk : A0 = k := hk; have := hD6.out _ q; have := hsa.out; omega))
                   have hb7 := Lib.hid (hbw.out.trans (b7.mono hsa.out.1))
                   obtain ⟨M7, hM7⟩ : ∃ M7, w7.heap.size = M7 := ⟨_, rfl⟩
                   obtain ⟨wy, hwy⟩ : ∃ wy, w7.alloc (.cells #[.slice none 0 0, .int .i64 0] 55) = wy := ⟨_, rfl⟩
                   obtain ⟨wz, hwz⟩ : ∃ wz, wy.alloc (.cells #[.pointer (some ⟨M7, 0, none⟩), .pointer none] 57) = wz := ⟨_, rfl⟩
                   have hym : wy.heap.size = M7 + 1 := by rw [← hwy, ← hM7]; simp
                   have hzy : Hid (Below w7.heap.size w7 wy) := Lib.hid (by rw [← hwy]; exact (Below.refl _ _).alloc (Nat.le_refl _) _)
                   have hzz : Hid (Below wy.heap.size wy wz) := Lib.hid (by rw [← hwz]; exact (Below.refl _ _).alloc (Nat.le_refl _) _)
                   have h7z := Lib.hid (hzy.out.trans (hzz.out.mono hzy.out.size))
                   have cm : wy.heap[M7]? = some (.cells #[.slice none 0 0, .int .i64 0] 55 (0, 0)) := by rw [← hwy, ← hM7]; exact heap_alloc_new w7 _
                   have cp : wz.heap[M7 + 1]? = some (.cells #[.pointer (some ⟨M7, 0, none⟩), .pointer none] 57 (0, 0)) := by rw [← hwz, ← hym]; exact heap_alloc_new wy _
                   have hno : Hid (NoF wz (some ⟨M7, 0, none⟩)) := Lib.hid (.inr ⟨M7, none, 0, 0, rfl, (hzz.out.block M7 (by rw [hym]; omega)).trans cm⟩)
                   have obz := Lib.hid (ob7.out.below h7z.out fun k hk => (ob7.out.lt k hk).2)
                   have hp0 : wz.cell? ⟨M7 + 1, 0, none⟩ = some (.pointer (some ⟨M7, 0, none⟩)) := cell_of_row _ _ _ _ _ _ cp
                   have hp1 : wz.cell? ⟨M7 + 1, 1, none⟩ = some (.pointer none) := cell_of_row _ _ _ _ _ _ cp
                   have hps : Hid (M7 + 1 < wz.heap.size) := Lib.hid (lt_of_block cp)
                   have hbz := Lib.hid (hb7.out.trans (h7z.out.mono hb7.out.size))
                   have fz := Lib.hid (f7.out.below h7z.out)
                   have hcv := conv_bytes wz L Ab cb _ (obz.out.byt) hL256.out
                   rw [hL19.out, hS] at hcv
                   have hfb := Lib.hid (fbytes_any fz.out)
                   rw [hL.out] at hfb
                   unfold FByP at hfb
                   rw [hL19.out] at hfb
                   clear o7 at7 b7 cm cp hfr hD6 ob7 f7 hb7 hzy hzz h7z obz
                   clear fm obm oam hmy
                   subst hwz hwy hM7)
                | (go_at_call 22
                   refine hfb.out.mono ?_
                   rintro e wc ⟨⟨Ac, cc, rfl, oc⟩, bc⟩
                   have hcc := conv_bytes wc L Ac cc _ (oc.byt) hL256.out
                   rw [hL19.out, hS] at hcc
                   have hnc := Lib.hid (hno.out.below bc)
                   have q0 := (bc.cell (p := ⟨w7.heap.size + 1, 0, none⟩) hps.out).trans hp0
                   have q1 := (bc.cell (p := ⟨w7.heap.size + 1, 1, none⟩) hps.out).trans hp1
                   have qs := Lib.hid (Nat.lt_of_lt_of_le hps.out bc.size)
                   have hbc := Lib.hid (hbz.out.trans (bc.mono hbz.out.size))
                   clear hfb hno hp0 hp1 oc bc hbz)
                | (go_at_call 25
                   refine (told_no hnc.out).mono ?_
                   rintro e wd ⟨rfl, bd⟩
                   have hnd := Lib.hid (hnc.out.below bd)
                   have r0 := (bd.cell (p := ⟨w7.heap.size + 1, 0, none⟩) qs.out).trans q0
                   have r1 := (bd.cell (p := ⟨w7.heap.size + 1, 1, none⟩) qs.out).trans q1
                   have rs := Lib.hid (Nat.lt_of_lt_of_le qs.out bd.size)
                   have hbd := Lib.hid (hbc.out.trans (bd.mono hbc.out.size))
                   clear hnc q0 q1 bd hbc)
                | (go_at_call 24
                   refine (add_no hnd.out _).mono ?_
                   rintro e we ⟨rfl, be⟩
                   have hne := Lib.hid (hnd.out.below be)
                   have s0 := (be.cell (p := ⟨w7.heap.size + 1, 0, none⟩) rs.out).trans r0
                   have hbe := Lib.hid (hbd.out.trans (be.mono hbd.out.size))
                   clear hnd r0 r1 be hbd)
                | (go_at_call 26
                   refine (has_no hne.out _).mono ?_
                   rintro e wf ⟨rfl, bf⟩
                   have hbf := Lib.hid (hbe.out.trans (bf.mono hbe.out.size))
                   clear hne s0 bf hbe))
              go_ret
              exact ⟨rfl, hbf.out⟩
end Go.Proofs.Ytlghgfnkckaebaa

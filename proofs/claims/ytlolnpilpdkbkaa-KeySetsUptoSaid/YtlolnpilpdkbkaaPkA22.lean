/- The document's Find. The document's Short. -/
import Derived.Test.YtlolnpilpdkbkaaPkA21
import Derived.Test.YtlolnpilpdkbkaaPkA14

namespace Go.Proofs.Ytlolnpilpdkbkaa
open Go.RowKit Go.Maps
set_option linter.unusedSimpArgs false
set_option linter.unusedVariables false

/-- What Find has found so far: the last one that begins so. -/
def lastZ (l : List (List Nat)) : List Nat := l.getLast?.getD (zeros 32)
theorem lastZ_snoc (l : List (List Nat)) (x : List Nat) : lastZ (l ++ [x]) = x := by simp [lastZ]
theorem lastZ_len (l : List (List Nat)) (h : ∀ x ∈ l, x.length = 32) : (lastZ l).length = 32 := by
  unfold lastZ
  cases hl : l.getLast? with
  | none => simp [zeros]
  | some y => exact h y (List.mem_of_getLast? hl)
theorem findL_of (l : List (List Nat)) : findL l = if l.length = 0 then (zeros 32, 31) else if 1 < l.length then (zeros 32, 32) else (lastZ l, 0) := by
  match l with
  | [] => rfl
  | [x] => simp [findL, lastZ]
  | x :: y :: r => simp [findL]
/-- What stands while Find goes over the keys. -/
structure RF (w0 : World) (q : Nat) (A : Option Addr) (N c g g7 : Nat) (fnd : List Nat) (W : World) : Prop where
  bel : Below w0.heap.size w0 W
  set : W.heap[q]? = some (.cells #[.slice A N c] 67 (0, 0))
  res : W.heap[g]? = some (.cells (u8s (zeros 32)).toArray 25 (0, 0))
  fd : W.heap[g7]? = some (.cells (u8s fnd).toArray 25 (0, 0))
section
variable {w0 W W' : World} {q N c g g7 : Nat} {A : Option Addr} {fnd : List Nat}
theorem RF.cel (h : RF w0 q A N c g g7 fnd W) : W.cell? ⟨q, 0, none⟩ = some (.slice A N c) := by
  unfold World.cell?
  simp [h.set]
theorem RF.keep (h : RF w0 q A N c g g7 fnd W) (hb : Below W.heap.size W W') : RF w0 q A N c g g7 fnd W' :=
  ⟨h.bel.trans (hb.mono h.bel.size), (hb.block _ (Array.getElem?_eq_some_iff.1 h.set).1).trans h.set, (hb.block _ (Array.getElem?_eq_some_iff.1 h.res).1).trans h.res, (hb.block _ (Array.getElem?_eq_some_iff.1 h.fd).1).trans h.fd⟩
theorem RF.store {y : List Nat} (h : RF w0 q A N c g g7 fnd W) (h1 : w0.heap.size ≤ g7) (h2 : q ≠ g7) (h3 : g ≠ g7) : RF w0 q A N c g g7 y (W.setRow g7 (u8s y).toArray) :=
  ⟨setRow_below h.bel h1 _, (setRow_other W g7 q _ h2).trans h.set, (setRow_other W g7 g _ h3).trans h.res, setRow_heap W g7 _ _ _ _ h.fd⟩
end
theorem idx_string {p : ByteArray} {i : Nat} (h : i < p.size) : p.data.toList[i]? = some p[i] := by
  rw [Array.getElem?_toList]
  exact Array.getElem?_eq_getElem h
set_option maxRecDepth 100000 in
set_option maxHeartbeats 4000000 in
theorem rFind_any (w : World) (q c : Nat) (A : Option Addr) (ks : List (List Nat)) (h : RSet w q A c ks) (hk : ∀ y ∈ ks, IsK y) (hL : ks.length ≤ 4194304) (p : ByteArray) (hp : p.size ≤ 4611686018427387904) :
    Calls Try.prog 42 #[.pointer (some ⟨q, 0, none⟩), .string p] w (FindP w (findQ ks p.data.toList)) := by
  have hzk := zeroKy
  have hbl0 := zeroKf
  have hown := Lib.hid h.2
  have hi32 : Hid ((Try.prog.info? 25).map (·.size) = some 32) := Lib.hid (by kernel_rfl)
  have hzs : Hid ((u8s (zeros 32)).toArray.size = 32) := Lib.hid (by simp [u8s, zeros])
  obtain ⟨N, hN⟩ : ∃ N, ks.length = N := ⟨_, rfl⟩
  obtain ⟨g, hg⟩ : ∃ g, w.heap.size = g := ⟨_, rfl⟩
  obtain ⟨w1, hw1⟩ : ∃ w1, w.alloc (.cells (u8s (zeros 32)).toArray 25) = w1 := ⟨_, rfl⟩
  have hk1 : Hid (w1.heap[g]? = some (.cells (u8s (zeros 32)).toArray 25 (0, 0))) := Lib.hid (by rw [← hw1, ← hg]; exact heap_alloc_new w _)
  have hB1 : Hid (Below w.heap.size w w1) := Lib.hid (by rw [← hw1]; exact (Below.refl _ _).alloc (Nat.le_refl _) _)
  have hset1 : Hid (w1.heap[q]? = some (.cells #[.slice A N c] 67 (0, 0))) := Lib.hid (by rw [← hN]; exact (hB1.out.block _ h.lts.1).trans h.1)
  have hqg : Hid (q < g) := Lib.hid (by rw [← hg]; exact h.lts.1)
  have hsz1 : w1.heap.size = g + 1 := by rw [← hw1, ← hg]; simp
  rw [hN] at hL
  have hN' := Lib.hid hN
  have hks := Lib.hid hk
  have hpl : p.data.toList.length = p.size := (Lib.size_eq p).symm
  have hbadF : Hid (64 < p.size ∨ allDig p.data.toList = false → findQ ks p.data.toList = (zeros 32, 30)) := Lib.hid fun hb => by unfold findQ; rw [if_pos (by rwa [hpl])]
  have hgoodF : Hid (¬ (64 < p.size ∨ allDig p.data.toList = false) → findQ ks p.data.toList = findL (ks.filter (begK p.data.toList))) := Lib.hid fun hb => by unfold findQ; rw [if_neg (by rwa [hpl])]
  have hvl := Lib.hid (fun c W => refValue_any c W)
  have hpl' := Lib.hid hpl
  clear h hk hN hpl
  by_cases hg64 : 64 < p.size
  · have hg1 : (64 : Int) < (p.size : Int) := by omega
    have hr := Lib.hid (hbadF.out (Or.inl hg64))
    clear hg64 hbadF hgoodF
    go_enter Try.func42, Try.ntmps42
    go_wp2_with (first
      | (refine wpList_blF rfl 25 _ rfl #[] (by rfl) _ (fun W => hbl0 W) ?_)
      | (refine wpList_store_row rfl 25 _ _ rfl g (u8s (zeros 32)).toArray rfl rfl 25 _ hk1.out (by rw [hzs.out]; exact hi32.out) rfl (all_oneCell_toArray u8s_one) ?_))
    refine bodyPost_ret (res_row_tmp rfl _ _ g 25 _ (0, 0) _ _ rfl rfl (setRow_heap _ g _ (u8s (zeros 32)).toArray 25 _ hk1.out) Try.underlying25 rfl (by rw [hzs.out]; exact hi32.out)) rfl ?_
    unfold FindP
    rw [hr.out]
    exact ⟨rfl, setRow_below hB1.out (by omega) _⟩
  have hg1 : decide ((64 : Int) < (p.size : Int)) = false := by simp; omega
  obtain ⟨Q, hQ⟩ : ∃ Q, FindP w (findQ ks p.data.toList) = Q := ⟨_, rfl⟩
  have hp64 : Hid (¬ 64 < p.size) := Lib.hid hg64
  have hgw : Hid (w.heap.size = g) := Lib.hid hg
  obtain ⟨M, hM⟩ : ∃ M, p.size = M := ⟨_, rfl⟩
  have hM' := Lib.hid hM
  rw [hM] at hg1 hp hg64
  go_enter Try.func42, Try.ntmps42
  rw [hQ]
  have hQ' := Lib.hid hQ
  clear hQ
  go_wp2_with fail
  clear hw1
  go_loopw [6] (fun iv wr => ∃ i m : Nat, i ≤ M ∧ iv = .int .i64 (i : Int) ∧ Hid (∀ j c, j < i → p.data.toList[j]? = some c → 0 ≤ val c) ∧ wr = w1.drewN m) (fun iv _ => M - (intOf iv).toNat)
  case atStart => exact ⟨0, 0, by omega, rfl, Lib.hid (fun j c hj => by omega), rfl⟩
  case round =>
    obtain ⟨i, m, hi, rfl, hno, rfl⟩ := hrel
    by_cases hlt : i < M
    · have hlt2 : i < p.size := by rw [hM'.out]; exact hlt
      obtain ⟨ch, hch⟩ : ∃ ch, p[i] = ch := ⟨_, rfl⟩
      have hat : Hid (p.data.toList[i]? = some ch) := Lib.hid (by rw [← hch]; exact idx_string hlt2)
      obtain ⟨v, hv⟩ : ∃ v, val ch = v := ⟨_, rfl⟩
      have hVc := Lib.hid (fun W => hvl.out ch W)
      rw [hv] at hVc
      by_cases hneg : v < 0
      · have hr : Hid (FindP w (zeros 32, 30) = Q) := Lib.hid (by
          rw [← hQ'.out, hbadF.out (Or.inr (by
            unfold allDig
            rw [List.all_eq_false]
            exact ⟨ch, List.mem_of_getElem? hat.out, by rw [hv]; simp; omega⟩))])
        clear hbadF hgoodF hno hv
        go_wp2_with (first
          | (go_at_call 59; refine (hVc.out _).mono ?_; rintro e w5 ⟨rfl, h5⟩; have h6 := h5.symm; clear h5; subst h6; clear hVc)
          | (refine wpList_blF rfl 25 _ rfl #[] (by rfl) _ (fun W => hbl0 W) ?_)
          | (refine wpList_store_row rfl 25 _ _ rfl g (u8s (zeros 32)).toArray rfl rfl 25 _ hk1.out (by rw [hzs.out]; exact hi32.out) rfl (all_oneCell_toArray u8s_one) ?_))
        refine bodyPost_ret (res_row_tmp rfl _ _ g 25 _ (0, 0) _ _ rfl rfl (setRow_heap _ g _ (u8s (zeros 32)).toArray 25 _ hk1.out) Try.underlying25 rfl (by rw [hzs.out]; exact hi32.out)) rfl ?_
        rw [← hr.out]
        exact ⟨rfl, setRow_below (below_drewN hB1.out _) (by have := hgw.out; omega) _⟩
      · have hneg2 : decide (v < 0) = false := by simpa using hneg
        have hno2 : Hid (∀ j c, j < i + 1 → p.data.toList[j]? = some c → 0 ≤ val c) := Lib.hid fun j c hj hc => by
          rcases Nat.lt_or_ge j i with h | h
          · exact hno.out j c h hc
          · rw [show j = i by omega, hat.out] at hc
            cases hc
            omega
        clear hbadF hgoodF hno hv hneg
        go_wp2_with (first
          | (go_at_call 59; refine (hVc.out _).mono ?_; rintro e w5 ⟨rfl, h5⟩; have h6 := h5.symm; clear h5; subst h6; clear hVc))
        go_roundw
        case rel => exact ⟨i + 1, m, by omega, by go_num, hno2, rfl⟩
        case measure => simp [intOf]; omega
    · have hr := Lib.hid (hgoodF.out (by
        rintro (h | h)
        · exact hp64.out h
        · unfold allDig at h
          rw [List.all_eq_false] at h
          obtain ⟨ch, h1, h2⟩ := h
          obtain ⟨j, hj⟩ := List.mem_iff_getElem?.1 h1
          have := hno.out j ch (by have := (List.getElem?_eq_some_iff.1 hj).1; rw [hpl'.out, hM'.out] at this; omega) hj
          simp at h2
          omega))
      clear hbadF hgoodF hno
      obtain ⟨P, hP⟩ : ∃ P, begK p.data.toList = P := ⟨_, rfl⟩
      have hr2 : Hid (∀ cnt fnd, ((ks.filter P).length = cnt ∧ lastZ (ks.filter P) = fnd) → FindP w (if cnt = 0 then (zeros 32, 31) else if 1 < cnt then (zeros 32, 32) else (fnd, 0)) = Q) := Lib.hid fun cnt fnd ⟨h1, h2⟩ => by
        rw [← hQ'.out, hr.out, findL_of, hP, h1, h2]
      have hbg : Hid (∀ W y, IsK y → Calls Try.prog 60 #[.agg (u8s y).toArray, .string p] W fun e w' => e = .returned (.bool (P y)) ∧ Below W.heap.size W w') := Lib.hid fun W y hy => by
        rw [← hP]
        exact begins_any W p (by rw [hM'.out]; exact hp) y hy
      have hR2 : Hid (RF w q A N c g (g + 1) (zeros 32) ((w1.drewN m).alloc (.cells (u8s (zeros 32)).toArray 25))) := Lib.hid (by
        have hb : Below w1.heap.size w1 ((w1.drewN m).alloc (.cells (u8s (zeros 32)).toArray 25)) := (below_drewN (Below.refl _ _) m).alloc (by simp) _
        refine ⟨hB1.out.trans (hb.mono hB1.out.size), (hb.block _ (Array.getElem?_eq_some_iff.1 hset1.out).1).trans hset1.out, (hb.block _ (Array.getElem?_eq_some_iff.1 hk1.out).1).trans hk1.out, ?_⟩
        have := heap_alloc_new (w1.drewN m) (.cells (u8s (zeros 32)).toArray 25)
        rw [show (w1.drewN m).heap.size = g + 1 from hsz1] at this
        exact this)
      clear hr hP
      go_wp2_with fail
      generalize ((w1.drewN m).alloc (.cells (u8s (zeros 32)).toArray 25)) = w2 at hR2 ⊢
      go_loopw [8, 9] (fun nv iv wr => ∃ (i cnt : Nat) (fnd : List Nat), i ≤ N ∧ cnt ≤ i ∧ nv = .int .i64 (cnt : Int) ∧ iv = .int .i64 (i : Int) ∧ Hid (((ks.take i).filter P).length = cnt ∧ lastZ ((ks.take i).filter P) = fnd) ∧ Hid (RF w q A N c g (g + 1) fnd wr)) (fun _ iv _ => N - (intOf iv).toNat)
      case atStart => exact ⟨0, 0, zeros 32, by omega, by omega, rfl, rfl, Lib.hid ⟨rfl, rfl⟩, hR2⟩
      case round =>
        clear hR2
        obtain ⟨i, cnt, fnd, hi, hcn, rfl, rfl, hF, hR⟩ := hrel
        have c0 := hR.out.cel
        by_cases hlt2 : i < N
        · obtain ⟨y, hy⟩ : ∃ y, ks[i]? = some y := ⟨_, List.getElem?_eq_getElem (by rw [hN'.out]; exact hlt2)⟩
          have hyk : IsK y := hks.out y (List.mem_of_getElem? hy)
          obtain ⟨b, off, rfl, hbl, hrg⟩ := ownK_at hown.out (fun z hz => (hks.out z hz).1) hy
          have hrk : Hid (∀ W, Below w.heap.size w W → W.rangeAt b (off + i * 32) (u8s y)) := Lib.hid fun W hW => rangeAt_below hW hbl hrg
          have hy32 : Hid ((u8s y).length = 32) := Lib.hid (by simp [u8s, hyk.1])
          have hys : Hid ((u8s y).toArray.size = 32) := Lib.hid (by simp [u8s, hyk.1])
          have hfl : Hid ((u8s fnd).toArray.size = 32) := Lib.hid (by
            rw [← hF.out.2]
            simp [u8s, lastZ_len _ (fun x hx => (hks.out x (List.mem_of_mem_take (List.mem_filter.1 hx).1)).1)])
          have hBg := Lib.hid (fun W => hbg.out W y hyk)
          obtain ⟨B, hB⟩ : ∃ B, P y = B := ⟨_, rfl⟩
          rw [hB] at hBg
          have hFs : Hid ((ks.take (i + 1)).filter P = if B then (ks.take i).filter P ++ [y] else (ks.take i).filter P) := Lib.hid (by
            rw [List.take_add_one, hy, Option.toList_some, List.filter_append]
            cases B <;> simp [List.filter_cons, hB])
          clear hy hyk hbl hrg hB
          cases B
          · have hF2 : Hid (((ks.take (i + 1)).filter P).length = cnt ∧ lastZ ((ks.take (i + 1)).filter P) = fnd) := Lib.hid (by rw [hFs.out]; exact hF.out)
            clear hF hFs
            go_wp2_with (first
              | (refine wpList_load_mid rfl 25 _ rfl b (off + i * 32) rfl (u8s y) _ (hrk.out _ hR.out.bel) Try.underlying25 rfl (by rw [hy32.out]; exact hi32.out) ?_)
              | (go_at_call 60; refine (hBg.out _).mono ?_; rintro e w5 ⟨rfl, h5⟩; have hR5 := Lib.hid (hR.out.keep h5); clear h5 hBg))
            go_roundw
            case rel => exact ⟨i + 1, cnt, fnd, by omega, by omega, rfl, by go_num, hF2, hR5⟩
            case measure => simp [intOf]; omega
          · have hF2 : Hid (((ks.take (i + 1)).filter P).length = cnt + 1 ∧ lastZ ((ks.take (i + 1)).filter P) = y) := Lib.hid (by rw [hFs.out]; exact ⟨by simp [hF.out.1], lastZ_snoc _ _⟩)
            clear hF hFs
            go_wp2_with (first
              | (refine wpList_load_mid rfl 25 _ rfl b (off + i * 32) rfl (u8s y) _ (hrk.out _ hR.out.bel) Try.underlying25 rfl (by rw [hy32.out]; exact hi32.out) ?_)
              | (go_at_call 60; refine (hBg.out _).mono ?_; rintro e w5 ⟨rfl, h5⟩; have hR5 := Lib.hid (hR.out.keep h5); have c0 := hR5.out.cel; clear h5 hBg hR)
              | (refine wpList_load_mid rfl 25 _ rfl b (off + i * 32) rfl (u8s y) _ (hrk.out _ hR5.out.bel) Try.underlying25 rfl (by rw [hy32.out]; exact hi32.out) ?_)
              | (refine wpList_store_row rfl 25 _ _ rfl (g + 1) (u8s y).toArray rfl rfl 25 _ hR5.out.fd (by rw [hys.out]; exact hi32.out) (by rw [hys.out, hfl.out]) (all_oneCell_toArray u8s_one) ?_))
            have hR6 := Lib.hid (hR5.out.store (y := y) (by have := hgw.out; omega) (by have := hqg.out; omega) (by omega))
            go_roundw
            case rel => exact ⟨i + 1, cnt + 1, y, by omega, by omega, by go_num, by go_num, hF2, hR6⟩
            case measure => simp [intOf]; omega
        · have hFe := Lib.hid (hr2.out cnt fnd (by have := hF.out; rwa [List.take_of_length_le (by rw [hN'.out]; omega)] at this))
          have hfl : Hid ((u8s fnd).toArray.size = 32) := Lib.hid (by
            rw [← hF.out.2]
            simp [u8s, lastZ_len _ (fun x hx => (hks.out x (List.mem_of_mem_take (List.mem_filter.1 hx).1)).1)])
          have hfinZ : Hid (∀ n : Nat, FindP w (zeros 32, n) = Q → Q (.returned (.tuple #[.agg (u8s (zeros 32)).toArray, .int .i64 (n : Int)])) (wr.setRow g (u8s (zeros 32)).toArray)) := Lib.hid fun n e => by
            rw [← e]
            exact ⟨rfl, setRow_below hR.out.bel (by have := hgw.out; omega) _⟩
          clear hF hr2
          by_cases h0 : cnt = 0
          · have hq := Lib.hid (hFe.out)
            rw [if_pos h0] at hq
            have hq2 := Lib.hid (hfinZ.out 31 hq.out)
            have h0' : decide (cnt = 0) = true := by simp [h0]
            clear hfinZ hq hFe
            go_wp2_with (first
              | (refine wpList_blF rfl 25 _ rfl #[] (by rfl) _ (fun W => hbl0 W) ?_)
              | (refine wpList_store_row rfl 25 _ _ rfl g (u8s (zeros 32)).toArray rfl rfl 25 _ hR.out.res (by rw [hzs.out]; exact hi32.out) rfl (all_oneCell_toArray u8s_one) ?_))
            refine bodyPost_ret (res_row_tmp rfl _ _ g 25 _ (0, 0) _ _ rfl rfl (setRow_heap _ g _ (u8s (zeros 32)).toArray 25 _ hR.out.res) Try.underlying25 rfl (by rw [hzs.out]; exact hi32.out)) rfl ?_
            exact hq2.out
          · by_cases h1 : 1 < cnt
            · have hq := Lib.hid (hFe.out)
              rw [if_neg h0, if_pos h1] at hq
              have hq2 := Lib.hid (hfinZ.out 32 hq.out)
              have h0' : decide (cnt = 0) = false := by simp [h0]
              have h1' : (1 : Int) < (cnt : Int) := by omega
              clear hfinZ hq hFe
              go_wp2_with (first
                | (refine wpList_blF rfl 25 _ rfl #[] (by rfl) _ (fun W => hbl0 W) ?_)
                | (refine wpList_store_row rfl 25 _ _ rfl g (u8s (zeros 32)).toArray rfl rfl 25 _ hR.out.res (by rw [hzs.out]; exact hi32.out) rfl (all_oneCell_toArray u8s_one) ?_))
              refine bodyPost_ret (res_row_tmp rfl _ _ g 25 _ (0, 0) _ _ rfl rfl (setRow_heap _ g _ (u8s (zeros 32)).toArray 25 _ hR.out.res) Try.underlying25 rfl (by rw [hzs.out]; exact hi32.out)) rfl ?_
              exact hq2.out
            · have hq := Lib.hid (hFe.out)
              rw [if_neg h0, if_neg h1] at hq
              have h0' : decide (cnt = 0) = false := by simp [h0]
              have h1' : decide ((1 : Int) < (cnt : Int)) = false := by simp; omega
              have hq2 : Hid (Q (.returned (.tuple #[.agg (u8s fnd).toArray, .int .i64 0])) (wr.setRow g (u8s fnd).toArray)) := Lib.hid (by
                rw [← hq.out]
                exact ⟨rfl, setRow_below hR.out.bel (by have := hgw.out; omega) _⟩)
              clear hfinZ hFe hq
              go_wp2_with (first
                | (refine wpList_load_row rfl 25 _ rfl (g + 1) rfl 25 (u8s fnd).toArray (0, 0) _ hR.out.fd Try.underlying25 rfl (by rw [hfl.out]; exact hi32.out) ?_)
                | (refine wpList_store_row rfl 25 _ _ rfl g (u8s fnd).toArray rfl rfl 25 _ hR.out.res (by rw [hfl.out]; exact hi32.out) (by rw [hfl.out, hzs.out]) (all_oneCell_toArray u8s_one) ?_))
              refine bodyPost_ret (res_row_tmp rfl _ _ g 25 _ (0, 0) _ _ rfl rfl (setRow_heap _ g _ (u8s fnd).toArray 25 _ hR.out.res) Try.underlying25 rfl (by rw [hfl.out]; exact hi32.out)) rfl ?_
              exact hq2.out
end Go.Proofs.Ytlolnpilpdkbkaa

namespace Go.Proofs.Ytlolnpilpdkbkaa
open Go.RowKit Go.Maps
set_option linter.unusedSimpArgs false
set_option linter.unusedVariables false

/-- With fewer digits than Short tells, Find finds two. -/
theorem find_fewer {ks : List (List Nat)} (hr : Rise32 ks) {x : List Nat} (hx : x ∈ ks) {n : Nat} (h4 : 4 ≤ n) (hn : n < shortN x ks) : findQ ks ((hexL x).take n) = (zeros 32, 32) := by
  have hxk := hr.ok x hx
  have hle := shortN_le hxk hr.ok
  have h64 : (hexL x).length = 64 := by rw [hexL_length, hxk.1]
  obtain ⟨y, h1, h2, h3⟩ := shortN_has (x := x) (ys := ks) (by omega)
  unfold findQ
  rw [if_neg (by
    rintro (h | h)
    · simp at h; omega
    · rw [allDig] at h
      have h2 := hexL_dig x hxk.2
      unfold allDig at h2
      rw [List.all_eq_false] at h
      obtain ⟨c, h3, h4⟩ := h
      exact h4 (List.all_eq_true.1 h2 c (List.mem_of_mem_take h3)))]
  have hmy : y ∈ ks.filter (begK ((hexL x).take n)) := by
    rw [List.mem_filter]
    unfold begK Lib.hasPrefix
    rw [cpl_pre (by omega)]
    exact ⟨h1, by omega⟩
  have hmx : x ∈ ks.filter (begK ((hexL x).take n)) := by
    rw [List.mem_filter]
    unfold begK Lib.hasPrefix
    rw [cpl_pre (by omega), cpl_self]
    exact ⟨hx, by omega⟩
  revert hmy hmx
  generalize ks.filter (begK ((hexL x).take n)) = L
  intro hmy hmx
  match L, hmy, hmx with
  | [], h, _ => simp at h
  | [z], h, h' =>
    simp at h h'
    exact absurd (h.trans h'.symm) h2
  | _ :: _ :: _, _, _ => rfl
set_option maxRecDepth 100000 in
set_option maxHeartbeats 4000000 in
theorem rShort_any (w : World) (q c : Nat) (A : Option Addr) (ks : List (List Nat)) (h : RSet w q A c ks) (hr : Rise32 ks) (hL : ks.length ≤ 4194304) (x : List Nat) (hx : IsK x) :
    Calls Try.prog 43 #[.pointer (some ⟨q, 0, none⟩), .agg (u8s x).toArray] w (ShortP w x ks) := by
  have hzk := zeroKy
  have hi32 : Hid ((Try.prog.info? 25).map (·.size) = some 32) := Lib.hid (by kernel_rfl)
  have hxs : Hid ((u8s x).toArray.size = 32) := Lib.hid (by simp [u8s, hx.1])
  have hzs : Hid ((u8s (zeros 32)).toArray.size = 32) := Lib.hid (by simp [u8s, zeros])
  obtain ⟨w1, hw1⟩ : ∃ w1, w.alloc (.cells (u8s x).toArray 25) = w1 := ⟨_, rfl⟩
  have hB1 : Hid (Below w.heap.size w w1) := Lib.hid (by rw [← hw1]; exact (Below.refl _ _).alloc (Nat.le_refl _) _)
  obtain ⟨g, hg⟩ : ∃ g, w.heap.size = g := ⟨_, rfl⟩
  have hk1 : Hid (w1.heap[g]? = some (.cells (u8s x).toArray 25 (0, 0))) := Lib.hid (by rw [← hw1, ← hg]; exact heap_alloc_new w _)
  have hH := Lib.hid (rHas_any w1 q c A ks (h.below hB1.out) hr.ok (by omega) x hx)
  have hr' := Lib.hid hr
  have hx' := Lib.hid hx
  have hset' := Lib.hid h
  have hL' := Lib.hid hL
  by_cases hm : x ∈ ks
  rotate_left
  · rw [decide_eq_false hm] at hH
    have hfin : Hid (∀ w5, Below w1.heap.size w1 w5 → ShortP w x ks (.returned (.tuple #[.string ⟨#[]⟩, .int .i64 31])) w5) := Lib.hid fun w5 h5 => ⟨by rw [if_neg hm], hB1.out.trans (h5.mono hB1.out.size)⟩
    clear h hr hx hm hL
    go_enter Try.func43, Try.ntmps43
    go_wp2_with (first
      | (refine wpList_load_row rfl 25 _ rfl g rfl 25 (u8s x).toArray (0, 0) _ hk1.out Try.underlying25 rfl (by rw [hxs.out]; exact hi32.out) ?_)
      | (go_at_call 40; refine hH.out.mono ?_; rintro e w5 ⟨rfl, b5⟩; have hf := Lib.hid (hfin.out w5 b5); clear b5 hH))
    go_ret2
    exact hf.out
  rw [decide_eq_true hm] at hH
  obtain ⟨S, hS⟩ : ∃ S, shortN x ks = S := ⟨_, rfl⟩
  have hS4 : Hid (4 ≤ S) := Lib.hid (by rw [← hS]; exact shortN_ge x ks)
  have hS64 : S ≤ 64 := by rw [← hS]; exact shortN_le hx hr.ok
  obtain ⟨hs, hhs⟩ : ∃ hs : ByteArray, (⟨(hexL x).toArray⟩ : ByteArray) = hs := ⟨_, rfl⟩
  have hsz : hs.size = 64 := by rw [← hhs, Lib.size_eq]; simp [hexL_length, hx.1]
  have hHx : Hid (∀ W, Calls Try.prog 61 #[.agg (u8s x).toArray] W fun e w' => e = .returned (.string hs) ∧ Below W.heap.size W w') := Lib.hid fun W => by
    rw [← hhs]
    exact refHex_any x W hx.1 hx.2
  have hex : ∀ n, (hs.extract 0 n).data.toList = (hexL x).take n := fun n => by rw [← hhs]; simp
  have hex2 : ∀ n, (⟨((hexL x).take n).toArray⟩ : ByteArray) = hs.extract 0 n := fun n => ByteArray.ext (Array.toList_inj.1 (by rw [hex n]))
  have hFi : Hid (∀ W, Below w.heap.size w W → ∀ n, n ≤ 64 → Calls Try.prog 42 #[.pointer (some ⟨q, 0, none⟩), .string (hs.extract 0 n)] W (FindP W (findQ ks ((hexL x).take n)))) := Lib.hid fun W hW n hn => by
    have := rFind_any W q c A ks (hset'.out.below hW) hr'.out.ok hL'.out (hs.extract 0 n) (by rw [Lib.size_eq, hex n]; simp; omega)
    rwa [hex n] at this
  have hless : Hid (∀ n, 4 ≤ n → n < S → findQ ks ((hexL x).take n) = (zeros 32, 32)) := Lib.hid fun n h4 hn => find_fewer hr'.out hm h4 (by rw [hS]; exact hn)
  have hjust : Hid (findQ ks ((hexL x).take S) = (x, 0)) := Lib.hid (by rw [← hS]; exact find_short hr'.out hm)
  have hfin : Hid (∀ W, Below w.heap.size w W → ShortP w x ks (.returned (.tuple #[.string (hs.extract 0 S), .int .i64 0])) W) := Lib.hid fun W hW => ⟨by rw [if_pos hm, hS, hex2], hW⟩
  have hfin2 : Hid (S = 64 → ∀ W, Below w.heap.size w W → ShortP w x ks (.returned (.tuple #[.string hs, .int .i64 0])) W) := Lib.hid fun e W hW => ⟨by
    rw [if_pos hm, hS, e, List.take_of_length_le (by rw [hexL_length, hx'.out.1]; omega), hhs], hW⟩
  clear h hr hx hm hL hS hhs hex hex2
  go_enter Try.func43, Try.ntmps43
  go_wp2_with (first
    | (refine wpList_load_row rfl 25 _ rfl g rfl 25 (u8s x).toArray (0, 0) _ hk1.out Try.underlying25 rfl (by rw [hxs.out]; exact hi32.out) ?_)
    | (go_at_call 40; refine hH.out.mono ?_; rintro e w5 ⟨rfl, b5⟩; have hk5 := Lib.hid ((b5.block _ (Array.getElem?_eq_some_iff.1 hk1.out).1).trans hk1.out); have hb5 := Lib.hid (hB1.out.trans (b5.mono hB1.out.size)); clear b5 hH)
    | (refine wpList_load_row rfl 25 _ rfl g rfl 25 (u8s x).toArray (0, 0) _ hk5.out Try.underlying25 rfl (by rw [hxs.out]; exact hi32.out) ?_)
    | (go_at_call 61; refine (hHx.out _).mono ?_; rintro e w6 ⟨rfl, b6⟩; have hb6 := Lib.hid (hb5.out.trans (b6.mono hb5.out.size)); clear b6 hHx))
  clear hw1
  go_loopw [7] (fun iv wr => ∃ n : Nat, n ≤ S ∧ 4 ≤ n ∧ iv = .int .i64 (n : Int) ∧ Hid (Below w.heap.size w wr)) (fun iv _ => 64 - (intOf iv).toNat)
  case atStart => exact ⟨4, hS4.out, by omega, rfl, hb6⟩
  case round =>
    clear hb6 hb5 hk5
    obtain ⟨n, hnS, hn4, rfl, hb⟩ := hrel
    by_cases hlt : n < 64
    · have hFn := Lib.hid (hFi.out wr hb.out n (by omega))
      by_cases heq : n = S
      · have hFn2 : Hid (Calls Try.prog 42 #[.pointer (some ⟨q, 0, none⟩), .string (hs.extract 0 n)] wr fun e w' => e = .returned (.tuple #[.agg (u8s x).toArray, .int .i64 0]) ∧ Below wr.heap.size wr w') := Lib.hid (by
          have := hFn.out
          rw [heq, hjust.out] at this
          rw [heq]
          exact this)
        have hf2 : Hid (∀ W, Below w.heap.size w W → ShortP w x ks (.returned (.tuple #[.string (hs.extract 0 n), .int .i64 0])) W) := Lib.hid (by rw [heq]; exact hfin.out)
        clear hFn heq hfin hfin2 hjust hless
        go_wp2_with (first
          | (go_at_call 42; refine hFn2.out.mono ?_; rintro e w7 ⟨rfl, b7⟩; have hb7 := Lib.hid (hb.out.trans (b7.mono hb.out.size)); clear b7 hFn2)
          | (refine wpList_store_row rfl 25 _ _ rfl w7.heap.size (u8s x).toArray rfl rfl 25 _ (heap_alloc_new w7 _) (by rw [hxs.out]; exact hi32.out) (by rw [hxs.out, hzs.out]) (all_oneCell_toArray u8s_one) ?_))
        go_ret2
        exact hf2.out _ (hb7.out.trans ((key_new w7 x).2.mono hb7.out.size))
      · have hFn2 : Hid (Calls Try.prog 42 #[.pointer (some ⟨q, 0, none⟩), .string (hs.extract 0 n)] wr fun e w' => e = .returned (.tuple #[.agg (u8s (zeros 32)).toArray, .int .i64 32]) ∧ Below wr.heap.size wr w') := Lib.hid (by
          have := hFn.out
          rw [hless.out n hn4 (by omega)] at this
          exact this)
        clear hFn hfin hfin2 hjust hless
        go_wp2_with (first
          | (go_at_call 42; refine hFn2.out.mono ?_; rintro e w7 ⟨rfl, b7⟩; have hb7 := Lib.hid (hb.out.trans (b7.mono hb.out.size)); clear b7 hFn2)
          | (refine wpList_store_row rfl 25 _ _ rfl w7.heap.size (u8s (zeros 32)).toArray rfl rfl 25 _ (heap_alloc_new w7 _) (by rw [hzs.out]; exact hi32.out) rfl (all_oneCell_toArray u8s_one) ?_))
        go_roundw
        case rel => exact ⟨n + 1, by omega, by omega, by go_num, Lib.hid (hb7.out.trans ((key_new w7 (zeros 32)).2.mono hb7.out.size))⟩
        case measure => simp [intOf]; omega
    · have hf2 := Lib.hid (hfin2.out (by omega))
      clear hfin hfin2 hjust hless
      go_wp2_with fail
      go_ret2
      exact hf2.out _ hb.out
end Go.Proofs.Ytlolnpilpdkbkaa

/- RootsStay, walked. (Printed by tools/genstay.py.) -/
import Derived.Test.YtakcnkmlglkkpaaPkU1

namespace Go.Proofs.Ytakcnkmlglkkpaa
open Go.RowKit
set_option linter.unusedSimpArgs false
set_option linter.unusedVariables false
open Classical

def k1K : RKey := ⟨1 :: List.replicate 31 0, by simp⟩
def zSt : StepT := ⟨0, ⟨#[]⟩, kZ, false, 0, 0⟩
theorem zeroSt (w : World) : (zeroValue 41).run Try.prog w = .ok (.agg (encS zSt).toArray) w :=
  (zero_of_info (P := Try.prog) (t := 41) (v := .agg (encS zSt).toArray) (n := 37) (by kernel_rfl)).1 w
theorem encS_all (x : StepT) : (encS x).toArray.all (·.oneCell') = true := by
  rw [Array.all_eq_true]
  intro i hi
  have h : ∀ v ∈ encS x, v.oneCell' = true := by
    intro v hv
    unfold encS encKy u8s at hv
    simp only [List.mem_append, List.mem_cons, List.mem_map, List.not_mem_nil, or_false] at hv
    rcases hv with ((rfl | rfl) | ⟨y, _, rfl⟩) | (rfl | rfl | rfl) <;> rfl
  exact h _ (by simp)
theorem elSt : ElemOk Try.prog 43 9 (.string ⟨#[]⟩) 1 16 := ⟨Try.underlying43, by kernel_rfl, rfl, by decide⟩
/-- The listings of a table's versions. -/
def keptL (L : Lists) : List Value := L.map fun l => .string (listS l)
theorem keptL_snoc (L : Lists) (l : List RootT) : keptL (L ++ [l]) = keptL L ++ #[Value.string (listS l)].toList := by simp [keptL]
theorem keptL_at {L : Lists} {v : Nat} {l : List RootT} (h : L[v]? = some l) : (keptL L)[v]? = some (.string (listS l)) := by simp [keptL, h]
theorem listed_own (W : World) (l : List RootT) (hok : okL l) (h64 : l.length ≤ 64) (A : Option Addr) (n c B : Nat) (hn : l.length = n) (ho : Own W B 61 33 A n c (rowsR l)) :
    Calls Try.prog 16 #[.slice A n c] W fun e w' => e = .returned (.string (listS l)) ∧ Below W.heap.size W w' := by
  have h1 := totS_named hok.2
  have h2 : l.length * 65 ≤ 64 * 65 := Nat.mul_le_mul_right _ h64
  exact listed_txt W l A n c W.heap.size hn (by omega) (RowR.of_own (by rw [hn]; exact ho)) (Nat.le_refl _) (by omega)
theorem stepQ_chg (L : Lists) (s : StepT) (h : (s.kind = 1 ∨ s.kind = 2) ∧ (stepQ L s).1.e = 0) : (stepQ L s).2 = L ++ [present (stepQ L s).2] := by
  obtain ⟨hk | hk, he⟩ := h
  · simp only [stepQ, hk, if_true] at he ⊢
    rw [if_pos he, present_snoc]
  · simp only [stepQ, hk, if_true, show ¬ ((2 : Int) = 1) by decide, if_false] at he ⊢
    rw [if_pos he, present_snoc]
theorem stepQ_same (L : Lists) (s : StepT) (h : ¬ ((s.kind = 1 ∨ s.kind = 2) ∧ (stepQ L s).1.e = 0)) : (stepQ L s).2 = L := by
  by_cases h1 : s.kind = 1
  · simp only [stepQ, h1, if_true, true_or, true_and] at h ⊢
    rw [if_neg h]
  · by_cases h2 : s.kind = 2
    · simp only [stepQ, h2, if_true, or_true, true_and, show ¬ ((2 : Int) = 1) by decide, if_false] at h ⊢
      rw [if_neg h]
    · unfold stepQ
      simp only [h1, h2, if_false]
      repeat' split
      all_goals rfl
set_option maxRecDepth 100000 in
set_option maxHeartbeats 16000000 in
theorem stay_any (w : World) (b : Bool) (l : List RootT) (ss : List StepT) (A1 : Option Addr) (n1 c1 : Nat) (A2 : Option Addr) (n2 c2 : Nat) (hl : l.length = n1) (hs : ss.length = n2) (hR : RowR w w.heap.size A1 l) (hS : RowS w w.heap.size A2 ss) (ht : n1 ≤ 4096 → totS l ≤ 4611686018427387904) :
    Calls Try.prog 6 #[.agg (encX b A1 n1 c1 A2 n2 c2)] w fun e w' => e = .returned (.bool true) ∧ Below w.heap.size w w' := by
  obtain ⟨w0, hw0⟩ : ∃ w0, w.alloc (.cells (encX b A1 n1 c1 A2 n2 c2) 27) = w0 := ⟨_, rfl⟩
  have hb0 : Hid (Below w.heap.size w w0) := Lib.hid (by rw [← hw0]; exact (Below.refl _ _).alloc (Nat.le_refl _) _)
  have hx0 : w0.heap[w.heap.size]? = some (.cells (encX b A1 n1 c1 A2 n2 c2) 27 (0, 0)) := by rw [← hw0]; exact heap_alloc_new w _
  have hlt : Hid (w.heap.size < w0.heap.size) := Lib.hid (Array.getElem?_eq_some_iff.1 hx0).1
  have hi3 : Hid ((Try.prog.info? 27).map (·.size) = some 3) := Lib.hid (by kernel_rfl)
  have hi37 : Hid ((Try.prog.info? 41).map (·.size) = some 37) := Lib.hid (by kernel_rfl)
  have l37 : Hid (∀ s : StepT, (encS s).length = 37) := Lib.hid encS_length
  have hrow : Hid (∀ W, Below w0.heap.size w0 W → W.rangeAt w.heap.size 0 [Value.bool b, .slice A1 n1 c1, .slice A2 n2 c2]) := Lib.hid fun W hW => range_below hlt.out (range_blk hx0) hW
  have hc2 : Hid (∀ W, Below w0.heap.size w0 W → W.cell? ⟨w.heap.size, 2, none⟩ = some (.slice A2 n2 c2)) := Lib.hid fun W hW => (hW.cell (p := ⟨w.heap.size, 2, none⟩) hlt.out).trans (scr_c2 hx0)
  have hsm := Lib.hid fun W => small_any W b A1 n1 c1 A2 n2 c2
  clear hx0
  by_cases hq : n2 ≤ 4096 ∧ n1 ≤ 4096
  · rw [decide_eq_true hq] at hsm
    have hR0 : Hid (∀ W, Below w0.heap.size w0 W → RowR W W.heap.size A1 l) := Lib.hid fun W hW => RowR.up (B := w.heap.size) (Rd.below hR (hb0.out.trans (hW.mono hb0.out.size))) (by have := hb0.out.size; have := hW.size; omega)
    have hmd : Hid (∀ W, Below w0.heap.size w0 W → Calls Try.prog 13 #[.agg (encX b A1 n1 c1 A2 n2 c2)] W (MadeP W b l)) := Lib.hid fun W hW => made_any W b l A1 n1 c1 A2 n2 c2 hl hq.2 (hR0.out W hW) (ht hq.2)
    have hn2 := hq.1
    have hs' := Lib.hid hs
    have hS' : Hid (RowS w0 w.heap.size A2 ss) := Lib.hid (Rd.below hS hb0.out)
    clear hq hl hs hR hS ht
    cases hQ : madeQ b l with
    | none =>
      have hmn : Hid (∀ W, Below w0.heap.size w0 W → Calls Try.prog 13 #[.agg (encX b A1 n1 c1 A2 n2 c2)] W fun e w' => e = .returned (.tuple #[.pointer none, .pointer none, .bool true]) ∧ Below W.heap.size W w') := Lib.hid fun W hW => (hmd.out W hW).mono (by
        rintro e w' ⟨h1 | h1, h2⟩
        · obtain ⟨l0, h3, _⟩ := h1
          rw [hQ] at h3
          cases h3
        · exact ⟨h1.2, h2⟩)
      clear hQ hmd
      go_enter Try.func6, Try.ntmps6
      go_wp2_with (first
        | (refine wpList_load_mid rfl 27 _ rfl w.heap.size 0 rfl [Value.bool b, .slice A1 n1 c1, .slice A2 n2 c2] _ (hrow.out _ (Below.refl _ _)) Try.underlying27 rfl hi3.out ?_)
        | (go_at_call 12; refine (hsm.out _).mono ?_; rintro e w1 ⟨rfl, hb⟩; have hd1 : Hid (Below w0.heap.size w0 w1) := Lib.hid hb; clear hb)
        | (refine wpList_load_mid rfl 27 _ rfl w.heap.size 0 rfl [Value.bool b, .slice A1 n1 c1, .slice A2 n2 c2] _ (hrow.out _ hd1.out) Try.underlying27 rfl hi3.out ?_)
        | (go_at_call 13; refine (hmn.out _ hd1.out).mono ?_; rintro e w2 ⟨rfl, hb⟩; have hd2 : Hid (Below w0.heap.size w0 w2) := Lib.hid (hd1.out.trans (hb.mono hd1.out.size)); clear hb))
      go_ret
      exact ⟨rfl, hb0.out.trans (hd2.out.mono hb0.out.size)⟩
    | some l0 =>
      have hmn : Hid (∀ W, Below w0.heap.size w0 W → Calls Try.prog 13 #[.agg (encX b A1 n1 c1 A2 n2 c2)] W fun e w' => ∃ g g', e = .returned (.tuple #[.pointer (some ⟨g, 0, none⟩), .pointer (some ⟨g', 0, none⟩), .bool true]) ∧ One w0 w' g [l0]) := Lib.hid fun W hW => (hmd.out W hW).mono (by
        rintro e w' ⟨h1 | h1, h2⟩
        · obtain ⟨l1, h3, g, g', A, A', h4, h5, h6⟩ := h1
          rw [hQ] at h3
          cases h3
          have hlo : Below w0.heap.size w0 w' := hW.trans (h2.mono hW.size)
          exact ⟨g, g', h4, ⟨hlo, A, h5.base hW.size⟩⟩
        · rw [hQ] at h1
          cases h1.1)
      clear hQ hmd
      go_enter Try.func6, Try.ntmps6
      go_wp2_with (first
        | (refine wpList_load_mid rfl 27 _ rfl w.heap.size 0 rfl [Value.bool b, .slice A1 n1 c1, .slice A2 n2 c2] _ (hrow.out _ (Below.refl _ _)) Try.underlying27 rfl hi3.out ?_)
        | (go_at_call 12; refine (hsm.out _).mono ?_; rintro e w1 ⟨rfl, hb⟩; have hd1 : Hid (Below w0.heap.size w0 w1) := Lib.hid hb; clear hb)
        | (refine wpList_load_mid rfl 27 _ rfl w.heap.size 0 rfl [Value.bool b, .slice A1 n1 c1, .slice A2 n2 c2] _ (hrow.out _ hd1.out) Try.underlying27 rfl hi3.out ?_)
        | (go_at_call 13; refine (hmn.out _ hd1.out).mono ?_; rintro e w2 ⟨g, g', rfl, hb⟩; have hT2 := Lib.hid hb; clear hb))
      have hz := zeroAn
      have hzs := zeroSt
      have hzk := zeroKy
      have a37 : Hid (∀ s : StepT, (encS s).toArray.size = 37) := Lib.hid fun s => by simp [encS_length]
      have a36 : Hid (∀ x : AnsT, (encA x).toArray.size = 36) := Lib.hid fun k => by simp [encA_length]
      have hi36 : Hid ((Try.prog.info? 38).map (·.size) = some 36) := Lib.hid (by kernel_rfl)
      have oneA := Lib.hid encA_all
      have oneS := Lib.hid encS_all
      have hAll : Hid (∀ W (L : Lists), One w0 W g L → Calls Try.prog 17 #[.pointer (some ⟨g, 0, none⟩)] W fun e w' => ∃ A' c', e = .returned (.slice A' (present L).length c') ∧ Own w' W.heap.size 61 33 A' (present L).length c' (rowsR (present L)) ∧ Below W.heap.size W w') := Lib.hid fun W L hW => all_one hW
      have hVer : Hid (∀ W (L : Lists), One w0 W g L → Calls Try.prog 18 #[.pointer (some ⟨g, 0, none⟩)] W fun e w' => e = .returned (.int .u64 (L.length - 1 : Nat)) ∧ Below W.heap.size W w') := Lib.hid fun W L hW => version_one hW
      have hLis : Hid (∀ (W : World) (l : List RootT) (A : Option Addr) (c B : Nat), okL l ∧ l.length ≤ 64 → Own W B 61 33 A l.length c (rowsR l) → Calls Try.prog 16 #[.slice A l.length c] W fun e w' => e = .returned (.string (listS l)) ∧ Below W.heap.size W w') := Lib.hid fun W l A c B hok ho => listed_own W l hok.1 hok.2 A _ c B rfl ho
      have hB2 := Lib.hid hT2.out.lo.size
      go_wp2_with (first
        | (go_at_call 17
           refine (hAll.out _ _ hT2.out).mono ?_
           rintro e w3 ⟨A3, c3, rfl, ho, hb⟩
           have hT3 := Lib.hid (hT2.out.below hb)
           have ho3 := Lib.hid ho
           clear ho hb)
        | (go_at_call 16
           refine (hLis.out _ (present [l0]) _ _ _ (okLs_present hT3.out.ok) ho3.out).mono ?_
           rintro e w4 ⟨rfl, hb⟩
           have hT4 := Lib.hid (hT3.out.below hb)
           clear hb)
        | (at_builtin
           refine wpList_app1 elSt w4 #[_] rfl rfl _ _ rfl rfl (Own.nil w4 w0.heap.size _ _) rfl (by intro u hu; simp at hu; subst hu; rfl) (by unfold maxLen; omega) (by omega) hT4.out.lo.size 1 rfl (keptL [l0]) (by rfl) ?_
           intro A5 c5 w5 o5 at5 b5
           have ho5 := Lib.hid o5
           have hT5 := Lib.hid (hT4.out.app at5 (fun j hj => by cases hj))
           clear o5 at5 b5))
      go_loopw [6, 7] (fun kv i wr => ∃ (k : Nat) (L : Lists) (Ak : Option Addr) (ck nk : Nat), k ≤ n2 ∧ kv = .slice Ak nk ck ∧ i = .int .i64 k ∧ Hid (L.length = nk) ∧ Hid (L.length ≤ k + 1) ∧ Hid (One w0 wr g L) ∧ Hid (Own wr w0.heap.size 9 1 Ak nk ck (keptL L))) (fun _ i _ => n2 - (intOf i).toNat)
      case atStart => exact ⟨0, [l0], A5, c5, 1, by omega, rfl, rfl, Lib.hid rfl, Lib.hid (by simp), hT5, ho5⟩
      case round =>
        obtain ⟨k, L, Ak, ck, nk, hk, rfl, rfl, hLn0, hLk, hT, hok'⟩ := hrel
        have hnp0 : Hid (0 < nk) := Lib.hid (by rw [← hLn0.out]; exact hT.out.ok.1)
        have cc2 := hc2.out _ hT.out.lo
        by_cases hlt2 : k < n2
        · obtain ⟨x, hx⟩ : ∃ x, ss[k]? = some x := ⟨_, List.getElem?_eq_getElem (by have := hs'.out; omega)⟩
          obtain ⟨b2, off, rfl, hbb, hrg⟩ := RowS.range hS'.out hx
          have hrg' : Hid (∀ W, Below w0.heap.size w0 W → W.rangeAt b2 (off + k * 37) (encS x)) := Lib.hid fun W hW => range_below (Nat.lt_trans hbb hlt.out) hrg hW
          obtain ⟨y, L2, hst⟩ : ∃ y L2, Hid (∀ _ : Unit, stepQ L x = (y, L2)) := ⟨_, _, Lib.hid fun _ => rfl⟩
          have hL2l : Hid (L2.length ≤ k + 2) := Lib.hid (by have := (stepQ_len L x).2; rw [hst.out ()] at this; have := hLk.out; simp only at *; omega)
          have hAs : Hid (∀ W, One w0 W g L → Calls Try.prog 14 #[.pointer (some ⟨g, 0, none⟩), .agg (encS x).toArray] W fun e w' => e = .returned (.agg (encA y).toArray) ∧ One w0 w' g L2 ∧ Gro (fun j => Tch W j ∧ w0.heap.size ≤ j) W w') := Lib.hid fun W hW => by
            have := asked_one hW (by have := hLk.out; omega) x
            rwa [hst.out ()] at this
          have hsame : Hid (¬ ((x.kind = 1 ∨ x.kind = 2) ∧ y.e = 0) → L2 = L) := Lib.hid fun h => by
            have := stepQ_same L x (by rw [hst.out ()]; exact h)
            rwa [hst.out ()] at this
          have hchg : Hid ((x.kind = 1 ∨ x.kind = 2) ∧ y.e = 0 → L2 = L ++ [present L2]) := Lib.hid fun h => by
            have := stepQ_chg L x (by rw [hst.out ()]; exact h)
            rwa [hst.out ()] at this
          have glt : (k : Int) < (n2 : Int) := by omega
          have g0 : (0 : Int) ≤ (k : Int) := by omega
          obtain ⟨K, hK⟩ : ∃ K, x.kind = K := ⟨_, rfl⟩
          obtain ⟨E, hE⟩ : ∃ E, y.e = E := ⟨_, rfl⟩
          have hxk : Hid ((encS x)[0]? = some (.int .i64 K)) := Lib.hid (by rw [← hK]; rfl)
          have hye : Hid ((encA y)[0]? = some (.int .i64 (E : Int))) := Lib.hid (by rw [← hE]; rfl)
          rw [hK, hE] at hsame hchg
          clear hrg hx hbb hK hE
          by_cases hK1 : K = 1
          · by_cases hE1 : E = 0
            · have hL2e : L2 = L ++ [present L2] := hchg.out (by omega)
              obtain ⟨nq, hnq⟩ : ∃ nq : Nat, Hid (∀ _ : Unit, nk + 1 = nq) := ⟨_, Lib.hid fun _ => rfl⟩
              have hL2n : Hid (L2.length = nq) := Lib.hid (by rw [← hnq.out (), hL2e, List.length_append, hLn0.out]; rfl)
              have hn2p : Hid (0 < nq) := Lib.hid (by rw [← hnq.out ()]; omega)
              have hkq : Hid (keptL L ++ #[Value.string (listS (present L2))].toList = keptL L2) := Lib.hid (by rw [← keptL_snoc, ← hL2e])
              have hnk' : nk + 1 ≤ 5000 := by have := hL2l.out; have := hL2n.out; have := hnq.out (); omega
              clear hL2e
              have kf1 : (K == 1) = true := by simpa using hK1
              have ef : ((E : Int) == 0) = true := by simpa using hE1
              clear hK1 hE1
              go_wp2_with (first
                | (refine wpList_load_mid rfl 41 _ rfl b2 (off + k * 37) rfl (encS x) _ (hrg'.out _ hT.out.lo) Try.underlying41 rfl (by rw [l37.out]; exact hi37.out) ?_)
                | (refine wpList_store_row rfl 41 _ _ rfl wr.heap.size (encS x).toArray rfl rfl 41 _ (heap_alloc_new wr _) (by rw [a37.out]; exact hi37.out) (by rw [a37.out, a37.out]) (oneS.out _) ?_
                   obtain ⟨wa, hwa⟩ : ∃ wa, (wr.alloc (.cells (encS zSt).toArray 41)).setRow wr.heap.size (encS x).toArray = wa := ⟨_, rfl⟩
                   obtain ⟨S8, hS8⟩ : ∃ S8, wr.heap.size = S8 := ⟨_, rfl⟩
                   have hba : Below wr.heap.size wr wa := by rw [← hwa]; exact setRow_bel ((Below.refl _ _).alloc (Nat.le_refl _) _) (Nat.le_refl _) _
                   have hxa : Hid (wa.heap[S8]? = some (.cells (encS x).toArray 41 (0, 0))) := Lib.hid (by rw [← hwa, ← hS8]; exact setRow_heap _ _ _ _ _ _ (heap_alloc_new wr _))
                   have hTa := Lib.hid (hT.out.below hba)
                   have hoa := Lib.hid (hok'.out.below hba fun j hj => (hok'.out.lt j hj).2)
                   rw [hwa, hS8]
                   clear hwa hS8 hba)
                | (refine wpList_load_mid rfl 41 _ rfl S8 0 rfl (encS x) _ (range_blk hxa.out) Try.underlying41 rfl (by rw [l37.out]; exact hi37.out) ?_)
                | (go_at_call 14
                   refine (hAs.out _ hTa.out).mono ?_
                   rintro e wb ⟨rfl, h1, h2⟩
                   have hTb := Lib.hid h1
                   have hob := Lib.hid (hoa.out.tchG h2 (by decide))
                   have hxb : Hid (wb.heap[S8]? = some (.cells (encS x).toArray 41 (0, 0))) := Lib.hid (gro_keep h2 hxa.out (by decide))
                   clear h1 h2)
                | (refine wpList_store_row rfl 38 _ _ rfl wb.heap.size (encA y).toArray rfl rfl 38 _ (heap_alloc_new wb _) (by rw [a36.out]; exact hi36.out) (by rw [a36.out, a36.out]) (oneA.out _) ?_
                   obtain ⟨wc, hwc⟩ : ∃ wc, (wb.alloc (.cells (encA zA).toArray 38)).setRow wb.heap.size (encA y).toArray = wc := ⟨_, rfl⟩
                   obtain ⟨S9, hS9⟩ : ∃ S9, wb.heap.size = S9 := ⟨_, rfl⟩
                   have hbc : Below wb.heap.size wb wc := by rw [← hwc]; exact setRow_bel ((Below.refl _ _).alloc (Nat.le_refl _) _) (Nat.le_refl _) _
                   have hTc := Lib.hid (hTb.out.below hbc)
                   have hoc := Lib.hid (hob.out.below hbc fun j hj => (hob.out.lt j hj).2)
                   have cK : wc.cell? ⟨S8, 0, none⟩ = some (.int .i64 K) := cell_blk ((hbc.block S8 (Array.getElem?_eq_some_iff.1 hxb.out).1).trans hxb.out) hxk.out
                   have cE : wc.cell? ⟨S9, 0, none⟩ = some (.int .i64 (E : Int)) := by
                     have h1 : wc.heap[S9]? = some (.cells (encA y).toArray 38 (0, 0)) := by rw [← hwc, ← hS9]; exact setRow_heap _ _ _ _ _ _ (heap_alloc_new wb _)
                     exact cell_blk h1 hye.out
                   rw [hwc, hS9]
                   clear hwc hS9 hbc)
                | (go_at_call 17
                   refine (hAll.out _ _ hTc.out).mono ?_
                   rintro e wd ⟨Ad, cd, rfl, ho, hb⟩
                   have hTd := Lib.hid (hTc.out.below hb)
                   have hod := Lib.hid (hoc.out.below hb fun j hj => (hoc.out.lt j hj).2)
                   have hld := Lib.hid ho
                   clear ho hb)
                | (go_at_call 16
                   refine (hLis.out _ _ _ _ _ (okLs_present hTd.out.ok) hld.out).mono ?_
                   rintro e we ⟨rfl, hb⟩
                   have hTe := Lib.hid (hTd.out.below hb)
                   have hoe := Lib.hid (hod.out.below hb fun j hj => (hod.out.lt j hj).2)
                   clear hb)
                | (at_builtin
                   refine wpList_app1 elSt we #[_] rfl rfl _ _ rfl rfl hoe.out rfl (by intro u hu; simp at hu; subst hu; rfl) (by unfold maxLen; omega) (by omega) hTe.out.lo.size nq (hnq.out ()) (keptL L2) hkq.out ?_
                   intro Af cf wf of_ at_ bf
                   have hof := Lib.hid of_
                   have hTf := Lib.hid (hTe.out.app at_ (fun j hj => hoe.out.type hj) (fun j hj => (hoe.out.lt j hj).1))
                   clear of_ at_ bf))
              have hTt := hTf
              have hot := hof
              obtain ⟨bk, rfl⟩ := hot.out.head hn2p.out
              have hokp := Lib.hid (okLs_present hTt.out.ok)
              obtain ⟨tx, htx⟩ : ∃ tx, Hid (∀ _ : Unit, listS (present L2) = tx) := ⟨_, Lib.hid fun _ => rfl⟩
              obtain ⟨np, hnp⟩ : ∃ np, Hid (∀ _ : Unit, (present L2).length = np) := ⟨_, Lib.hid fun _ => rfl⟩
              obtain ⟨n1k, hn1k⟩ : ∃ n1k : Nat, (nq : Int) - 1 = (n1k : Int) ∧ nq = n1k + 1 := ⟨nq - 1, by have := hn2p.out; omega, by have := hn2p.out; omega⟩
              obtain ⟨en1, en2⟩ := hn1k
              have en2' := Lib.hid en2
              have w15a : IntKind.i64.wrap (n1k : Int) = (n1k : Int) := by rw [IntKind.wrap_i64]; have := hL2l.out; have := hL2n.out; omega
              have w15b : IntKind.u64.wrap (n1k : Int) = (n1k : Int) := by rw [IntKind.wrap_u64]; have := hL2l.out; have := hL2n.out; omega
              have g15a : (0 : Int) ≤ (n1k : Int) := by omega
              have g15b : (n1k : Int) < (nq : Int) := by omega
              have hKc : Hid (∀ W, Below wf.heap.size wf W → W.cell? ⟨bk, n1k, none⟩ = some (.string tx)) := Lib.hid fun W hW => by
                have h1 : (keptL L2)[n1k]? = some (.string tx) := by
                  rw [← htx.out ()]
                  refine keptL_at ?_
                  rw [show n1k = L2.length - 1 by have := hL2n.out; omega]
                  exact present_last (by have := hL2n.out; omega)
                exact ((hot.out.below hW fun j hj => (hot.out.lt j hj).2).cell n1k (by omega)).trans h1
              have hVe : Hid (∀ W, Below wf.heap.size wf W → Calls Try.prog 18 #[.pointer (some ⟨g, 0, none⟩)] W fun e w' => e = .returned (.int .u64 (n1k : Int)) ∧ Below W.heap.size W w') := Lib.hid fun W hW => by
                have := hVer.out W L2 (hTt.out.below hW)
                rwa [show L2.length - 1 = n1k by have := hL2n.out; omega] at this
              have hAl : Hid (∀ W, Below wf.heap.size wf W → Calls Try.prog 17 #[.pointer (some ⟨g, 0, none⟩)] W fun e w' => ∃ A' c', e = .returned (.slice A' np c') ∧ Own w' W.heap.size 61 33 A' np c' (rowsR (present L2)) ∧ Below W.heap.size W w') := Lib.hid fun W hW => by
                have := hAll.out W L2 (hTt.out.below hW)
                rwa [hnp.out ()] at this
              have hLi : Hid (∀ (W : World) (A : Option Addr) (c B : Nat), Own W B 61 33 A np c (rowsR (present L2)) → Calls Try.prog 16 #[.slice A np c] W fun e w' => e = .returned (.string tx) ∧ Below W.heap.size W w') := Lib.hid fun W A c B ho => by
                have := hLis.out W (present L2) A c B hokp.out (by rw [hnp.out ()]; exact ho)
                rwa [hnp.out (), htx.out ()] at this
              clear en2
              have hd : Hid (Below wf.heap.size wf (World.drew wf)) := Lib.hid (below_drewN (Below.refl _ _) 1)
              refine wp_region_held (S := fun W => Below wf.heap.size wf W) (by kernel_rfl) ?_
              change wpAnyH _ _ _ _ _ _ _ _ (World.drew _)
              refine takeD (i := 0) (d := 71) (v := .pointer (some ⟨g, 0, none⟩)) rfl rfl (by kernel_rfl) (by kernel_rfl) (by kernel_rfl) (fun _ _ _ h => h) (Or.inl ⟨by rfl, by intro W hW; clear hW; go_simp⟩) hd.out ?_
              simp only [List.setIfInBounds_toArray, List.set_cons_zero, List.set_cons_succ]
              refine takeD (i := 2) (d := 73) (v := .slice (some ⟨bk, 0, none⟩) nq cf) rfl rfl (by kernel_rfl) (by kernel_rfl) (by kernel_rfl) (fun _ _ _ h => h) (Or.inl ⟨by rfl, by intro W hW; clear hW; go_simp⟩) hd.out ?_
              simp only [List.setIfInBounds_toArray, List.set_cons_zero, List.set_cons_succ]
              refine takeD (i := 3) (d := 74) (v := .int .i64 (nq : Int)) rfl rfl (by kernel_rfl) (by kernel_rfl) (by kernel_rfl) (fun _ _ _ h => h) (Or.inl ⟨by rfl, by intro W hW; clear hW; go_simp⟩) hd.out ?_
              simp only [List.setIfInBounds_toArray, List.set_cons_zero, List.set_cons_succ]
              refine takeD (i := 4) (d := 75) (v := .int .i64 (n1k : Int)) rfl rfl (by kernel_rfl) (by kernel_rfl) (by kernel_rfl) (fun _ _ _ h => h) (Or.inl ⟨by rfl, by intro W hW; clear hW; go_simp⟩) hd.out ?_
              simp only [List.setIfInBounds_toArray, List.set_cons_zero, List.set_cons_succ]
              refine takeD (i := 5) (d := 76) (v := .int .u64 (n1k : Int)) rfl rfl (by kernel_rfl) (by kernel_rfl) (by kernel_rfl) (fun _ _ _ h => h) (Or.inl ⟨by rfl, by intro W hW; clear hW; go_simp⟩) hd.out ?_
              simp only [List.setIfInBounds_toArray, List.set_cons_zero, List.set_cons_succ]
              refine wpAnyH_ready (rs := [1]) (by kernel_rfl) (by simp) ?_
              refine AllReadyH.cons rfl (fun K hK => ?_) AllReadyH.nil
              go_simp
              go_wp2_with (go_at_call 18; refine (hVe.out _ hd.out).mono ?_; rintro e v1 ⟨rfl, b1⟩; skip)
              have hd1 : Hid (Below wf.heap.size wf v1) := Lib.hid (hd.out.trans (b1.mono hd.out.size))
              clear b1
              refine hK.out _ _ hd1.out (fun _ => ?_)
              clear hK K
              refine takeD (i := 6) (d := 77) (v := .bool false) rfl rfl (by kernel_rfl) (by kernel_rfl) (by kernel_rfl) (fun _ _ _ h => h) (Or.inl ⟨by rfl, by intro W hW; clear hW; go_simp⟩) hd1.out ?_
              simp only [List.setIfInBounds_toArray, List.set_cons_zero, List.set_cons_succ]
              refine takeD (i := 7) (d := 78) (v := .bool false) rfl rfl (by kernel_rfl) (by kernel_rfl) (by kernel_rfl) (fun _ _ _ h => h) (Or.inl ⟨by rfl, by intro W hW; clear hW; go_simp⟩) hd1.out ?_
              simp only [List.setIfInBounds_toArray, List.set_cons_zero, List.set_cons_succ]
              refine takeD (i := 8) (d := 79) (v := .pointer (some ⟨g, 0, none⟩)) rfl rfl (by kernel_rfl) (by kernel_rfl) (by kernel_rfl) (fun _ _ _ h => h) (Or.inl ⟨by rfl, by intro W hW; clear hW; go_simp⟩) hd1.out ?_
              simp only [List.setIfInBounds_toArray, List.set_cons_zero, List.set_cons_succ]
              refine takeD (i := 11) (d := 82) (v := .slice (some ⟨bk, 0, none⟩) nq cf) rfl rfl (by kernel_rfl) (by kernel_rfl) (by kernel_rfl) (fun _ _ _ h => h) (Or.inl ⟨by rfl, by intro W hW; clear hW; go_simp⟩) hd1.out ?_
              simp only [List.setIfInBounds_toArray, List.set_cons_zero, List.set_cons_succ]
              refine takeD (i := 12) (d := 83) (v := .slice (some ⟨bk, 0, none⟩) nq cf) rfl rfl (by kernel_rfl) (by kernel_rfl) (by kernel_rfl) (fun _ _ _ h => h) (Or.inl ⟨by rfl, by intro W hW; clear hW; go_simp⟩) hd1.out ?_
              simp only [List.setIfInBounds_toArray, List.set_cons_zero, List.set_cons_succ]
              refine takeD (i := 13) (d := 84) (v := .int .i64 (nq : Int)) rfl rfl (by kernel_rfl) (by kernel_rfl) (by kernel_rfl) (fun _ _ _ h => h) (Or.inl ⟨by rfl, by intro W hW; clear hW; go_simp⟩) hd1.out ?_
              simp only [List.setIfInBounds_toArray, List.set_cons_zero, List.set_cons_succ]
              refine takeD (i := 14) (d := 85) (v := .int .i64 (n1k : Int)) rfl rfl (by kernel_rfl) (by kernel_rfl) (by kernel_rfl) (fun _ _ _ h => h) (Or.inl ⟨by rfl, by intro W hW; clear hW; go_simp⟩) hd1.out ?_
              simp only [List.setIfInBounds_toArray, List.set_cons_zero, List.set_cons_succ]
              refine takeD (i := 15) (d := 86) (v := .pointer (some ⟨bk, n1k, none⟩)) rfl rfl (by kernel_rfl) (by kernel_rfl) (by kernel_rfl) (fun _ _ _ h => h) (Or.inl ⟨by rfl, by intro W hW; clear hW; go_simp⟩) hd1.out ?_
              simp only [List.setIfInBounds_toArray, List.set_cons_zero, List.set_cons_succ]
              refine takeD (i := 16) (d := 87) (v := .string tx) rfl rfl (by kernel_rfl) (by kernel_rfl) (by kernel_rfl) (fun _ _ _ h => h) (Or.inl ⟨by rfl, by intro W hW; have cc := hKc.out W hW; clear hW; go_simp⟩) hd1.out ?_
              simp only [List.setIfInBounds_toArray, List.set_cons_zero, List.set_cons_succ]
              refine wpAnyH_ready (rs := [9]) (by kernel_rfl) (by simp) ?_
              refine AllReadyH.cons rfl (fun K hK => ?_) AllReadyH.nil
              go_simp
              go_wp2_with (go_at_call 17; refine (hAl.out _ hd1.out).mono ?_; rintro e v2 ⟨A9, c9, rfl, o9, b2⟩; skip)
              have hd2 : Hid (Below wf.heap.size wf v2) := Lib.hid (hd1.out.trans (b2.mono hd1.out.size))
              have ho9 := Lib.hid o9
              clear b2 o9
              refine hK.out _ _ hd2.out (fun _ => ?_)
              clear hK K
              refine wpAnyH_ready (rs := [10]) (by kernel_rfl) (by simp) ?_
              refine AllReadyH.cons rfl (fun K hK => ?_) AllReadyH.nil
              go_simp
              go_wp2_with (go_at_call 16; refine (hLi.out _ _ _ _ ho9.out).mono ?_; rintro e v3 ⟨rfl, b3⟩; skip)
              have hd3 : Hid (Below wf.heap.size wf v3) := Lib.hid (hd2.out.trans (b3.mono hd2.out.size))
              clear b3
              refine hK.out _ _ hd3.out (fun _ => ?_)
              clear hK K
              refine takeD (i := 17) (d := 88) (v := .bool false) rfl rfl (by kernel_rfl) (by kernel_rfl) (by kernel_rfl) (fun _ _ _ h => h) (Or.inl ⟨by rfl, by intro W hW; clear hW; go_simp⟩) hd3.out ?_
              simp only [List.setIfInBounds_toArray, List.set_cons_zero, List.set_cons_succ]
              refine takeD (i := 18) (d := 89) (v := .bool false) rfl rfl (by kernel_rfl) (by kernel_rfl) (by kernel_rfl) (fun _ _ _ h => h) (Or.inl ⟨by rfl, by intro W hW; clear hW; go_simp⟩) hd3.out ?_
              simp only [List.setIfInBounds_toArray, List.set_cons_zero, List.set_cons_succ]
              refine wpAnyH_done (by kernel_rfl) ?_ _
              have hend := hd3
              go_wp2_with fail
              go_roundw
              case rel => exact ⟨k + 1, L2, some ⟨bk, 0, none⟩, cf, nq, by omega, rfl, by go_num, hL2n, hL2l, Lib.hid (hTt.out.below hend.out), Lib.hid (hot.out.below hend.out fun j hj => (hot.out.lt j hj).2)⟩
              case measure => simp [intOf]; omega
            · have hL2e : L2 = L := hsame.out (by omega)
              subst hL2e
              have kf1 : (K == 1) = true := by simpa using hK1
              have ef : ((E : Int) == 0) = false := by simpa using hE1
              clear hK1 hE1
              go_wp2_with (first
                | (refine wpList_load_mid rfl 41 _ rfl b2 (off + k * 37) rfl (encS x) _ (hrg'.out _ hT.out.lo) Try.underlying41 rfl (by rw [l37.out]; exact hi37.out) ?_)
                | (refine wpList_store_row rfl 41 _ _ rfl wr.heap.size (encS x).toArray rfl rfl 41 _ (heap_alloc_new wr _) (by rw [a37.out]; exact hi37.out) (by rw [a37.out, a37.out]) (oneS.out _) ?_
                   obtain ⟨wa, hwa⟩ : ∃ wa, (wr.alloc (.cells (encS zSt).toArray 41)).setRow wr.heap.size (encS x).toArray = wa := ⟨_, rfl⟩
                   obtain ⟨S8, hS8⟩ : ∃ S8, wr.heap.size = S8 := ⟨_, rfl⟩
                   have hba : Below wr.heap.size wr wa := by rw [← hwa]; exact setRow_bel ((Below.refl _ _).alloc (Nat.le_refl _) _) (Nat.le_refl _) _
                   have hxa : Hid (wa.heap[S8]? = some (.cells (encS x).toArray 41 (0, 0))) := Lib.hid (by rw [← hwa, ← hS8]; exact setRow_heap _ _ _ _ _ _ (heap_alloc_new wr _))
                   have hTa := Lib.hid (hT.out.below hba)
                   have hoa := Lib.hid (hok'.out.below hba fun j hj => (hok'.out.lt j hj).2)
                   rw [hwa, hS8]
                   clear hwa hS8 hba)
                | (refine wpList_load_mid rfl 41 _ rfl S8 0 rfl (encS x) _ (range_blk hxa.out) Try.underlying41 rfl (by rw [l37.out]; exact hi37.out) ?_)
                | (go_at_call 14
                   refine (hAs.out _ hTa.out).mono ?_
                   rintro e wb ⟨rfl, h1, h2⟩
                   have hTb := Lib.hid h1
                   have hob := Lib.hid (hoa.out.tchG h2 (by decide))
                   have hxb : Hid (wb.heap[S8]? = some (.cells (encS x).toArray 41 (0, 0))) := Lib.hid (gro_keep h2 hxa.out (by decide))
                   clear h1 h2)
                | (refine wpList_store_row rfl 38 _ _ rfl wb.heap.size (encA y).toArray rfl rfl 38 _ (heap_alloc_new wb _) (by rw [a36.out]; exact hi36.out) (by rw [a36.out, a36.out]) (oneA.out _) ?_
                   obtain ⟨wc, hwc⟩ : ∃ wc, (wb.alloc (.cells (encA zA).toArray 38)).setRow wb.heap.size (encA y).toArray = wc := ⟨_, rfl⟩
                   obtain ⟨S9, hS9⟩ : ∃ S9, wb.heap.size = S9 := ⟨_, rfl⟩
                   have hbc : Below wb.heap.size wb wc := by rw [← hwc]; exact setRow_bel ((Below.refl _ _).alloc (Nat.le_refl _) _) (Nat.le_refl _) _
                   have hTc := Lib.hid (hTb.out.below hbc)
                   have hoc := Lib.hid (hob.out.below hbc fun j hj => (hob.out.lt j hj).2)
                   have cK : wc.cell? ⟨S8, 0, none⟩ = some (.int .i64 K) := cell_blk ((hbc.block S8 (Array.getElem?_eq_some_iff.1 hxb.out).1).trans hxb.out) hxk.out
                   have cE : wc.cell? ⟨S9, 0, none⟩ = some (.int .i64 (E : Int)) := by
                     have h1 : wc.heap[S9]? = some (.cells (encA y).toArray 38 (0, 0)) := by rw [← hwc, ← hS9]; exact setRow_heap _ _ _ _ _ _ (heap_alloc_new wb _)
                     exact cell_blk h1 hye.out
                   rw [hwc, hS9]
                   clear hwc hS9 hbc))
              have hTt := hTc
              have hot := hoc
              have hL2n := hLn0
              have hn2p := hnp0
              obtain ⟨bk, rfl⟩ := hot.out.head hn2p.out
              have hokp := Lib.hid (okLs_present hTt.out.ok)
              obtain ⟨tx, htx⟩ : ∃ tx, Hid (∀ _ : Unit, listS (present L2) = tx) := ⟨_, Lib.hid fun _ => rfl⟩
              obtain ⟨np, hnp⟩ : ∃ np, Hid (∀ _ : Unit, (present L2).length = np) := ⟨_, Lib.hid fun _ => rfl⟩
              obtain ⟨n1k, hn1k⟩ : ∃ n1k : Nat, (nk : Int) - 1 = (n1k : Int) ∧ nk = n1k + 1 := ⟨nk - 1, by have := hn2p.out; omega, by have := hn2p.out; omega⟩
              obtain ⟨en1, en2⟩ := hn1k
              have en2' := Lib.hid en2
              have w15a : IntKind.i64.wrap (n1k : Int) = (n1k : Int) := by rw [IntKind.wrap_i64]; have := hL2l.out; have := hL2n.out; omega
              have w15b : IntKind.u64.wrap (n1k : Int) = (n1k : Int) := by rw [IntKind.wrap_u64]; have := hL2l.out; have := hL2n.out; omega
              have g15a : (0 : Int) ≤ (n1k : Int) := by omega
              have g15b : (n1k : Int) < (nk : Int) := by omega
              have hKc : Hid (∀ W, Below wc.heap.size wc W → W.cell? ⟨bk, n1k, none⟩ = some (.string tx)) := Lib.hid fun W hW => by
                have h1 : (keptL L2)[n1k]? = some (.string tx) := by
                  rw [← htx.out ()]
                  refine keptL_at ?_
                  rw [show n1k = L2.length - 1 by have := hL2n.out; omega]
                  exact present_last (by have := hL2n.out; omega)
                exact ((hot.out.below hW fun j hj => (hot.out.lt j hj).2).cell n1k (by omega)).trans h1
              have hVe : Hid (∀ W, Below wc.heap.size wc W → Calls Try.prog 18 #[.pointer (some ⟨g, 0, none⟩)] W fun e w' => e = .returned (.int .u64 (n1k : Int)) ∧ Below W.heap.size W w') := Lib.hid fun W hW => by
                have := hVer.out W L2 (hTt.out.below hW)
                rwa [show L2.length - 1 = n1k by have := hL2n.out; omega] at this
              have hAl : Hid (∀ W, Below wc.heap.size wc W → Calls Try.prog 17 #[.pointer (some ⟨g, 0, none⟩)] W fun e w' => ∃ A' c', e = .returned (.slice A' np c') ∧ Own w' W.heap.size 61 33 A' np c' (rowsR (present L2)) ∧ Below W.heap.size W w') := Lib.hid fun W hW => by
                have := hAll.out W L2 (hTt.out.below hW)
                rwa [hnp.out ()] at this
              have hLi : Hid (∀ (W : World) (A : Option Addr) (c B : Nat), Own W B 61 33 A np c (rowsR (present L2)) → Calls Try.prog 16 #[.slice A np c] W fun e w' => e = .returned (.string tx) ∧ Below W.heap.size W w') := Lib.hid fun W A c B ho => by
                have := hLis.out W (present L2) A c B hokp.out (by rw [hnp.out ()]; exact ho)
                rwa [hnp.out (), htx.out ()] at this
              clear en2
              have hd : Hid (Below wc.heap.size wc (World.drew wc)) := Lib.hid (below_drewN (Below.refl _ _) 1)
              refine wp_region_held (S := fun W => Below wc.heap.size wc W) (by kernel_rfl) ?_
              change wpAnyH _ _ _ _ _ _ _ _ (World.drew _)
              refine takeD (i := 0) (d := 71) (v := .pointer (some ⟨g, 0, none⟩)) rfl rfl (by kernel_rfl) (by kernel_rfl) (by kernel_rfl) (fun _ _ _ h => h) (Or.inl ⟨by rfl, by intro W hW; clear hW; go_simp⟩) hd.out ?_
              simp only [List.setIfInBounds_toArray, List.set_cons_zero, List.set_cons_succ]
              refine takeD (i := 2) (d := 73) (v := .slice (some ⟨bk, 0, none⟩) nk ck) rfl rfl (by kernel_rfl) (by kernel_rfl) (by kernel_rfl) (fun _ _ _ h => h) (Or.inl ⟨by rfl, by intro W hW; clear hW; go_simp⟩) hd.out ?_
              simp only [List.setIfInBounds_toArray, List.set_cons_zero, List.set_cons_succ]
              refine takeD (i := 3) (d := 74) (v := .int .i64 (nk : Int)) rfl rfl (by kernel_rfl) (by kernel_rfl) (by kernel_rfl) (fun _ _ _ h => h) (Or.inl ⟨by rfl, by intro W hW; clear hW; go_simp⟩) hd.out ?_
              simp only [List.setIfInBounds_toArray, List.set_cons_zero, List.set_cons_succ]
              refine takeD (i := 4) (d := 75) (v := .int .i64 (n1k : Int)) rfl rfl (by kernel_rfl) (by kernel_rfl) (by kernel_rfl) (fun _ _ _ h => h) (Or.inl ⟨by rfl, by intro W hW; clear hW; go_simp⟩) hd.out ?_
              simp only [List.setIfInBounds_toArray, List.set_cons_zero, List.set_cons_succ]
              refine takeD (i := 5) (d := 76) (v := .int .u64 (n1k : Int)) rfl rfl (by kernel_rfl) (by kernel_rfl) (by kernel_rfl) (fun _ _ _ h => h) (Or.inl ⟨by rfl, by intro W hW; clear hW; go_simp⟩) hd.out ?_
              simp only [List.setIfInBounds_toArray, List.set_cons_zero, List.set_cons_succ]
              refine wpAnyH_ready (rs := [1]) (by kernel_rfl) (by simp) ?_
              refine AllReadyH.cons rfl (fun K hK => ?_) AllReadyH.nil
              go_simp
              go_wp2_with (go_at_call 18; refine (hVe.out _ hd.out).mono ?_; rintro e v1 ⟨rfl, b1⟩; skip)
              have hd1 : Hid (Below wc.heap.size wc v1) := Lib.hid (hd.out.trans (b1.mono hd.out.size))
              clear b1
              refine hK.out _ _ hd1.out (fun _ => ?_)
              clear hK K
              refine takeD (i := 6) (d := 77) (v := .bool false) rfl rfl (by kernel_rfl) (by kernel_rfl) (by kernel_rfl) (fun _ _ _ h => h) (Or.inl ⟨by rfl, by intro W hW; clear hW; go_simp⟩) hd1.out ?_
              simp only [List.setIfInBounds_toArray, List.set_cons_zero, List.set_cons_succ]
              refine takeD (i := 7) (d := 78) (v := .bool false) rfl rfl (by kernel_rfl) (by kernel_rfl) (by kernel_rfl) (fun _ _ _ h => h) (Or.inl ⟨by rfl, by intro W hW; clear hW; go_simp⟩) hd1.out ?_
              simp only [List.setIfInBounds_toArray, List.set_cons_zero, List.set_cons_succ]
              refine takeD (i := 8) (d := 79) (v := .pointer (some ⟨g, 0, none⟩)) rfl rfl (by kernel_rfl) (by kernel_rfl) (by kernel_rfl) (fun _ _ _ h => h) (Or.inl ⟨by rfl, by intro W hW; clear hW; go_simp⟩) hd1.out ?_
              simp only [List.setIfInBounds_toArray, List.set_cons_zero, List.set_cons_succ]
              refine takeD (i := 11) (d := 82) (v := .slice (some ⟨bk, 0, none⟩) nk ck) rfl rfl (by kernel_rfl) (by kernel_rfl) (by kernel_rfl) (fun _ _ _ h => h) (Or.inl ⟨by rfl, by intro W hW; clear hW; go_simp⟩) hd1.out ?_
              simp only [List.setIfInBounds_toArray, List.set_cons_zero, List.set_cons_succ]
              refine takeD (i := 12) (d := 83) (v := .slice (some ⟨bk, 0, none⟩) nk ck) rfl rfl (by kernel_rfl) (by kernel_rfl) (by kernel_rfl) (fun _ _ _ h => h) (Or.inl ⟨by rfl, by intro W hW; clear hW; go_simp⟩) hd1.out ?_
              simp only [List.setIfInBounds_toArray, List.set_cons_zero, List.set_cons_succ]
              refine takeD (i := 13) (d := 84) (v := .int .i64 (nk : Int)) rfl rfl (by kernel_rfl) (by kernel_rfl) (by kernel_rfl) (fun _ _ _ h => h) (Or.inl ⟨by rfl, by intro W hW; clear hW; go_simp⟩) hd1.out ?_
              simp only [List.setIfInBounds_toArray, List.set_cons_zero, List.set_cons_succ]
              refine takeD (i := 14) (d := 85) (v := .int .i64 (n1k : Int)) rfl rfl (by kernel_rfl) (by kernel_rfl) (by kernel_rfl) (fun _ _ _ h => h) (Or.inl ⟨by rfl, by intro W hW; clear hW; go_simp⟩) hd1.out ?_
              simp only [List.setIfInBounds_toArray, List.set_cons_zero, List.set_cons_succ]
              refine takeD (i := 15) (d := 86) (v := .pointer (some ⟨bk, n1k, none⟩)) rfl rfl (by kernel_rfl) (by kernel_rfl) (by kernel_rfl) (fun _ _ _ h => h) (Or.inl ⟨by rfl, by intro W hW; clear hW; go_simp⟩) hd1.out ?_
              simp only [List.setIfInBounds_toArray, List.set_cons_zero, List.set_cons_succ]
              refine takeD (i := 16) (d := 87) (v := .string tx) rfl rfl (by kernel_rfl) (by kernel_rfl) (by kernel_rfl) (fun _ _ _ h => h) (Or.inl ⟨by rfl, by intro W hW; have cc := hKc.out W hW; clear hW; go_simp⟩) hd1.out ?_
              simp only [List.setIfInBounds_toArray, List.set_cons_zero, List.set_cons_succ]
              refine wpAnyH_ready (rs := [9]) (by kernel_rfl) (by simp) ?_
              refine AllReadyH.cons rfl (fun K hK => ?_) AllReadyH.nil
              go_simp
              go_wp2_with (go_at_call 17; refine (hAl.out _ hd1.out).mono ?_; rintro e v2 ⟨A9, c9, rfl, o9, b2⟩; skip)
              have hd2 : Hid (Below wc.heap.size wc v2) := Lib.hid (hd1.out.trans (b2.mono hd1.out.size))
              have ho9 := Lib.hid o9
              clear b2 o9
              refine hK.out _ _ hd2.out (fun _ => ?_)
              clear hK K
              refine wpAnyH_ready (rs := [10]) (by kernel_rfl) (by simp) ?_
              refine AllReadyH.cons rfl (fun K hK => ?_) AllReadyH.nil
              go_simp
              go_wp2_with (go_at_call 16; refine (hLi.out _ _ _ _ ho9.out).mono ?_; rintro e v3 ⟨rfl, b3⟩; skip)
              have hd3 : Hid (Below wc.heap.size wc v3) := Lib.hid (hd2.out.trans (b3.mono hd2.out.size))
              clear b3
              refine hK.out _ _ hd3.out (fun _ => ?_)
              clear hK K
              refine takeD (i := 17) (d := 88) (v := .bool false) rfl rfl (by kernel_rfl) (by kernel_rfl) (by kernel_rfl) (fun _ _ _ h => h) (Or.inl ⟨by rfl, by intro W hW; clear hW; go_simp⟩) hd3.out ?_
              simp only [List.setIfInBounds_toArray, List.set_cons_zero, List.set_cons_succ]
              refine takeD (i := 18) (d := 89) (v := .bool false) rfl rfl (by kernel_rfl) (by kernel_rfl) (by kernel_rfl) (fun _ _ _ h => h) (Or.inl ⟨by rfl, by intro W hW; clear hW; go_simp⟩) hd3.out ?_
              simp only [List.setIfInBounds_toArray, List.set_cons_zero, List.set_cons_succ]
              refine wpAnyH_done (by kernel_rfl) ?_ _
              have hend := hd3
              go_wp2_with fail
              go_roundw
              case rel => exact ⟨k + 1, L2, some ⟨bk, 0, none⟩, ck, nk, by omega, rfl, by go_num, hL2n, hL2l, Lib.hid (hTt.out.below hend.out), Lib.hid (hot.out.below hend.out fun j hj => (hot.out.lt j hj).2)⟩
              case measure => simp [intOf]; omega
          · by_cases hK2 : K = 2
            · by_cases hE1 : E = 0
              · have hL2e : L2 = L ++ [present L2] := hchg.out (by omega)
                obtain ⟨nq, hnq⟩ : ∃ nq : Nat, Hid (∀ _ : Unit, nk + 1 = nq) := ⟨_, Lib.hid fun _ => rfl⟩
                have hL2n : Hid (L2.length = nq) := Lib.hid (by rw [← hnq.out (), hL2e, List.length_append, hLn0.out]; rfl)
                have hn2p : Hid (0 < nq) := Lib.hid (by rw [← hnq.out ()]; omega)
                have hkq : Hid (keptL L ++ #[Value.string (listS (present L2))].toList = keptL L2) := Lib.hid (by rw [← keptL_snoc, ← hL2e])
                have hnk' : nk + 1 ≤ 5000 := by have := hL2l.out; have := hL2n.out; have := hnq.out (); omega
                clear hL2e
                have kf1 : (K == 1) = false := by simpa using hK1
                have kf2 : (K == 2) = true := by simpa using hK2
                have ef : ((E : Int) == 0) = true := by simpa using hE1
                clear hK1 hK2 hE1
                go_wp2_with (first
                  | (refine wpList_load_mid rfl 41 _ rfl b2 (off + k * 37) rfl (encS x) _ (hrg'.out _ hT.out.lo) Try.underlying41 rfl (by rw [l37.out]; exact hi37.out) ?_)
                  | (refine wpList_store_row rfl 41 _ _ rfl wr.heap.size (encS x).toArray rfl rfl 41 _ (heap_alloc_new wr _) (by rw [a37.out]; exact hi37.out) (by rw [a37.out, a37.out]) (oneS.out _) ?_
                     obtain ⟨wa, hwa⟩ : ∃ wa, (wr.alloc (.cells (encS zSt).toArray 41)).setRow wr.heap.size (encS x).toArray = wa := ⟨_, rfl⟩
                     obtain ⟨S8, hS8⟩ : ∃ S8, wr.heap.size = S8 := ⟨_, rfl⟩
                     have hba : Below wr.heap.size wr wa := by rw [← hwa]; exact setRow_bel ((Below.refl _ _).alloc (Nat.le_refl _) _) (Nat.le_refl _) _
                     have hxa : Hid (wa.heap[S8]? = some (.cells (encS x).toArray 41 (0, 0))) := Lib.hid (by rw [← hwa, ← hS8]; exact setRow_heap _ _ _ _ _ _ (heap_alloc_new wr _))
                     have hTa := Lib.hid (hT.out.below hba)
                     have hoa := Lib.hid (hok'.out.below hba fun j hj => (hok'.out.lt j hj).2)
                     rw [hwa, hS8]
                     clear hwa hS8 hba)
                  | (refine wpList_load_mid rfl 41 _ rfl S8 0 rfl (encS x) _ (range_blk hxa.out) Try.underlying41 rfl (by rw [l37.out]; exact hi37.out) ?_)
                  | (go_at_call 14
                     refine (hAs.out _ hTa.out).mono ?_
                     rintro e wb ⟨rfl, h1, h2⟩
                     have hTb := Lib.hid h1
                     have hob := Lib.hid (hoa.out.tchG h2 (by decide))
                     have hxb : Hid (wb.heap[S8]? = some (.cells (encS x).toArray 41 (0, 0))) := Lib.hid (gro_keep h2 hxa.out (by decide))
                     clear h1 h2)
                  | (refine wpList_store_row rfl 38 _ _ rfl wb.heap.size (encA y).toArray rfl rfl 38 _ (heap_alloc_new wb _) (by rw [a36.out]; exact hi36.out) (by rw [a36.out, a36.out]) (oneA.out _) ?_
                     obtain ⟨wc, hwc⟩ : ∃ wc, (wb.alloc (.cells (encA zA).toArray 38)).setRow wb.heap.size (encA y).toArray = wc := ⟨_, rfl⟩
                     obtain ⟨S9, hS9⟩ : ∃ S9, wb.heap.size = S9 := ⟨_, rfl⟩
                     have hbc : Below wb.heap.size wb wc := by rw [← hwc]; exact setRow_bel ((Below.refl _ _).alloc (Nat.le_refl _) _) (Nat.le_refl _) _
                     have hTc := Lib.hid (hTb.out.below hbc)
                     have hoc := Lib.hid (hob.out.below hbc fun j hj => (hob.out.lt j hj).2)
                     have cK : wc.cell? ⟨S8, 0, none⟩ = some (.int .i64 K) := cell_blk ((hbc.block S8 (Array.getElem?_eq_some_iff.1 hxb.out).1).trans hxb.out) hxk.out
                     have cE : wc.cell? ⟨S9, 0, none⟩ = some (.int .i64 (E : Int)) := by
                       have h1 : wc.heap[S9]? = some (.cells (encA y).toArray 38 (0, 0)) := by rw [← hwc, ← hS9]; exact setRow_heap _ _ _ _ _ _ (heap_alloc_new wb _)
                       exact cell_blk h1 hye.out
                     rw [hwc, hS9]
                     clear hwc hS9 hbc)
                  | (go_at_call 17
                     refine (hAll.out _ _ hTc.out).mono ?_
                     rintro e wd ⟨Ad, cd, rfl, ho, hb⟩
                     have hTd := Lib.hid (hTc.out.below hb)
                     have hod := Lib.hid (hoc.out.below hb fun j hj => (hoc.out.lt j hj).2)
                     have hld := Lib.hid ho
                     clear ho hb)
                  | (go_at_call 16
                     refine (hLis.out _ _ _ _ _ (okLs_present hTd.out.ok) hld.out).mono ?_
                     rintro e we ⟨rfl, hb⟩
                     have hTe := Lib.hid (hTd.out.below hb)
                     have hoe := Lib.hid (hod.out.below hb fun j hj => (hod.out.lt j hj).2)
                     clear hb)
                  | (at_builtin
                     refine wpList_app1 elSt we #[_] rfl rfl _ _ rfl rfl hoe.out rfl (by intro u hu; simp at hu; subst hu; rfl) (by unfold maxLen; omega) (by omega) hTe.out.lo.size nq (hnq.out ()) (keptL L2) hkq.out ?_
                     intro Af cf wf of_ at_ bf
                     have hof := Lib.hid of_
                     have hTf := Lib.hid (hTe.out.app at_ (fun j hj => hoe.out.type hj) (fun j hj => (hoe.out.lt j hj).1))
                     clear of_ at_ bf))
                have hTt := hTf
                have hot := hof
                obtain ⟨bk, rfl⟩ := hot.out.head hn2p.out
                have hokp := Lib.hid (okLs_present hTt.out.ok)
                obtain ⟨tx, htx⟩ : ∃ tx, Hid (∀ _ : Unit, listS (present L2) = tx) := ⟨_, Lib.hid fun _ => rfl⟩
                obtain ⟨np, hnp⟩ : ∃ np, Hid (∀ _ : Unit, (present L2).length = np) := ⟨_, Lib.hid fun _ => rfl⟩
                obtain ⟨n1k, hn1k⟩ : ∃ n1k : Nat, (nq : Int) - 1 = (n1k : Int) ∧ nq = n1k + 1 := ⟨nq - 1, by have := hn2p.out; omega, by have := hn2p.out; omega⟩
                obtain ⟨en1, en2⟩ := hn1k
                have en2' := Lib.hid en2
                have w15a : IntKind.i64.wrap (n1k : Int) = (n1k : Int) := by rw [IntKind.wrap_i64]; have := hL2l.out; have := hL2n.out; omega
                have w15b : IntKind.u64.wrap (n1k : Int) = (n1k : Int) := by rw [IntKind.wrap_u64]; have := hL2l.out; have := hL2n.out; omega
                have g15a : (0 : Int) ≤ (n1k : Int) := by omega
                have g15b : (n1k : Int) < (nq : Int) := by omega
                have hKc : Hid (∀ W, Below wf.heap.size wf W → W.cell? ⟨bk, n1k, none⟩ = some (.string tx)) := Lib.hid fun W hW => by
                  have h1 : (keptL L2)[n1k]? = some (.string tx) := by
                    rw [← htx.out ()]
                    refine keptL_at ?_
                    rw [show n1k = L2.length - 1 by have := hL2n.out; omega]
                    exact present_last (by have := hL2n.out; omega)
                  exact ((hot.out.below hW fun j hj => (hot.out.lt j hj).2).cell n1k (by omega)).trans h1
                have hVe : Hid (∀ W, Below wf.heap.size wf W → Calls Try.prog 18 #[.pointer (some ⟨g, 0, none⟩)] W fun e w' => e = .returned (.int .u64 (n1k : Int)) ∧ Below W.heap.size W w') := Lib.hid fun W hW => by
                  have := hVer.out W L2 (hTt.out.below hW)
                  rwa [show L2.length - 1 = n1k by have := hL2n.out; omega] at this
                have hAl : Hid (∀ W, Below wf.heap.size wf W → Calls Try.prog 17 #[.pointer (some ⟨g, 0, none⟩)] W fun e w' => ∃ A' c', e = .returned (.slice A' np c') ∧ Own w' W.heap.size 61 33 A' np c' (rowsR (present L2)) ∧ Below W.heap.size W w') := Lib.hid fun W hW => by
                  have := hAll.out W L2 (hTt.out.below hW)
                  rwa [hnp.out ()] at this
                have hLi : Hid (∀ (W : World) (A : Option Addr) (c B : Nat), Own W B 61 33 A np c (rowsR (present L2)) → Calls Try.prog 16 #[.slice A np c] W fun e w' => e = .returned (.string tx) ∧ Below W.heap.size W w') := Lib.hid fun W A c B ho => by
                  have := hLis.out W (present L2) A c B hokp.out (by rw [hnp.out ()]; exact ho)
                  rwa [hnp.out (), htx.out ()] at this
                clear en2
                have hd : Hid (Below wf.heap.size wf (World.drew wf)) := Lib.hid (below_drewN (Below.refl _ _) 1)
                refine wp_region_held (S := fun W => Below wf.heap.size wf W) (by kernel_rfl) ?_
                change wpAnyH _ _ _ _ _ _ _ _ (World.drew _)
                refine takeD (i := 0) (d := 71) (v := .pointer (some ⟨g, 0, none⟩)) rfl rfl (by kernel_rfl) (by kernel_rfl) (by kernel_rfl) (fun _ _ _ h => h) (Or.inl ⟨by rfl, by intro W hW; clear hW; go_simp⟩) hd.out ?_
                simp only [List.setIfInBounds_toArray, List.set_cons_zero, List.set_cons_succ]
                refine takeD (i := 2) (d := 73) (v := .slice (some ⟨bk, 0, none⟩) nq cf) rfl rfl (by kernel_rfl) (by kernel_rfl) (by kernel_rfl) (fun _ _ _ h => h) (Or.inl ⟨by rfl, by intro W hW; clear hW; go_simp⟩) hd.out ?_
                simp only [List.setIfInBounds_toArray, List.set_cons_zero, List.set_cons_succ]
                refine takeD (i := 3) (d := 74) (v := .int .i64 (nq : Int)) rfl rfl (by kernel_rfl) (by kernel_rfl) (by kernel_rfl) (fun _ _ _ h => h) (Or.inl ⟨by rfl, by intro W hW; clear hW; go_simp⟩) hd.out ?_
                simp only [List.setIfInBounds_toArray, List.set_cons_zero, List.set_cons_succ]
                refine takeD (i := 4) (d := 75) (v := .int .i64 (n1k : Int)) rfl rfl (by kernel_rfl) (by kernel_rfl) (by kernel_rfl) (fun _ _ _ h => h) (Or.inl ⟨by rfl, by intro W hW; clear hW; go_simp⟩) hd.out ?_
                simp only [List.setIfInBounds_toArray, List.set_cons_zero, List.set_cons_succ]
                refine takeD (i := 5) (d := 76) (v := .int .u64 (n1k : Int)) rfl rfl (by kernel_rfl) (by kernel_rfl) (by kernel_rfl) (fun _ _ _ h => h) (Or.inl ⟨by rfl, by intro W hW; clear hW; go_simp⟩) hd.out ?_
                simp only [List.setIfInBounds_toArray, List.set_cons_zero, List.set_cons_succ]
                refine wpAnyH_ready (rs := [1]) (by kernel_rfl) (by simp) ?_
                refine AllReadyH.cons rfl (fun K hK => ?_) AllReadyH.nil
                go_simp
                go_wp2_with (go_at_call 18; refine (hVe.out _ hd.out).mono ?_; rintro e v1 ⟨rfl, b1⟩; skip)
                have hd1 : Hid (Below wf.heap.size wf v1) := Lib.hid (hd.out.trans (b1.mono hd.out.size))
                clear b1
                refine hK.out _ _ hd1.out (fun _ => ?_)
                clear hK K
                refine takeD (i := 6) (d := 77) (v := .bool false) rfl rfl (by kernel_rfl) (by kernel_rfl) (by kernel_rfl) (fun _ _ _ h => h) (Or.inl ⟨by rfl, by intro W hW; clear hW; go_simp⟩) hd1.out ?_
                simp only [List.setIfInBounds_toArray, List.set_cons_zero, List.set_cons_succ]
                refine takeD (i := 7) (d := 78) (v := .bool false) rfl rfl (by kernel_rfl) (by kernel_rfl) (by kernel_rfl) (fun _ _ _ h => h) (Or.inl ⟨by rfl, by intro W hW; clear hW; go_simp⟩) hd1.out ?_
                simp only [List.setIfInBounds_toArray, List.set_cons_zero, List.set_cons_succ]
                refine takeD (i := 8) (d := 79) (v := .pointer (some ⟨g, 0, none⟩)) rfl rfl (by kernel_rfl) (by kernel_rfl) (by kernel_rfl) (fun _ _ _ h => h) (Or.inl ⟨by rfl, by intro W hW; clear hW; go_simp⟩) hd1.out ?_
                simp only [List.setIfInBounds_toArray, List.set_cons_zero, List.set_cons_succ]
                refine takeD (i := 11) (d := 82) (v := .slice (some ⟨bk, 0, none⟩) nq cf) rfl rfl (by kernel_rfl) (by kernel_rfl) (by kernel_rfl) (fun _ _ _ h => h) (Or.inl ⟨by rfl, by intro W hW; clear hW; go_simp⟩) hd1.out ?_
                simp only [List.setIfInBounds_toArray, List.set_cons_zero, List.set_cons_succ]
                refine takeD (i := 12) (d := 83) (v := .slice (some ⟨bk, 0, none⟩) nq cf) rfl rfl (by kernel_rfl) (by kernel_rfl) (by kernel_rfl) (fun _ _ _ h => h) (Or.inl ⟨by rfl, by intro W hW; clear hW; go_simp⟩) hd1.out ?_
                simp only [List.setIfInBounds_toArray, List.set_cons_zero, List.set_cons_succ]
                refine takeD (i := 13) (d := 84) (v := .int .i64 (nq : Int)) rfl rfl (by kernel_rfl) (by kernel_rfl) (by kernel_rfl) (fun _ _ _ h => h) (Or.inl ⟨by rfl, by intro W hW; clear hW; go_simp⟩) hd1.out ?_
                simp only [List.setIfInBounds_toArray, List.set_cons_zero, List.set_cons_succ]
                refine takeD (i := 14) (d := 85) (v := .int .i64 (n1k : Int)) rfl rfl (by kernel_rfl) (by kernel_rfl) (by kernel_rfl) (fun _ _ _ h => h) (Or.inl ⟨by rfl, by intro W hW; clear hW; go_simp⟩) hd1.out ?_
                simp only [List.setIfInBounds_toArray, List.set_cons_zero, List.set_cons_succ]
                refine takeD (i := 15) (d := 86) (v := .pointer (some ⟨bk, n1k, none⟩)) rfl rfl (by kernel_rfl) (by kernel_rfl) (by kernel_rfl) (fun _ _ _ h => h) (Or.inl ⟨by rfl, by intro W hW; clear hW; go_simp⟩) hd1.out ?_
                simp only [List.setIfInBounds_toArray, List.set_cons_zero, List.set_cons_succ]
                refine takeD (i := 16) (d := 87) (v := .string tx) rfl rfl (by kernel_rfl) (by kernel_rfl) (by kernel_rfl) (fun _ _ _ h => h) (Or.inl ⟨by rfl, by intro W hW; have cc := hKc.out W hW; clear hW; go_simp⟩) hd1.out ?_
                simp only [List.setIfInBounds_toArray, List.set_cons_zero, List.set_cons_succ]
                refine wpAnyH_ready (rs := [9]) (by kernel_rfl) (by simp) ?_
                refine AllReadyH.cons rfl (fun K hK => ?_) AllReadyH.nil
                go_simp
                go_wp2_with (go_at_call 17; refine (hAl.out _ hd1.out).mono ?_; rintro e v2 ⟨A9, c9, rfl, o9, b2⟩; skip)
                have hd2 : Hid (Below wf.heap.size wf v2) := Lib.hid (hd1.out.trans (b2.mono hd1.out.size))
                have ho9 := Lib.hid o9
                clear b2 o9
                refine hK.out _ _ hd2.out (fun _ => ?_)
                clear hK K
                refine wpAnyH_ready (rs := [10]) (by kernel_rfl) (by simp) ?_
                refine AllReadyH.cons rfl (fun K hK => ?_) AllReadyH.nil
                go_simp
                go_wp2_with (go_at_call 16; refine (hLi.out _ _ _ _ ho9.out).mono ?_; rintro e v3 ⟨rfl, b3⟩; skip)
                have hd3 : Hid (Below wf.heap.size wf v3) := Lib.hid (hd2.out.trans (b3.mono hd2.out.size))
                clear b3
                refine hK.out _ _ hd3.out (fun _ => ?_)
                clear hK K
                refine takeD (i := 17) (d := 88) (v := .bool false) rfl rfl (by kernel_rfl) (by kernel_rfl) (by kernel_rfl) (fun _ _ _ h => h) (Or.inl ⟨by rfl, by intro W hW; clear hW; go_simp⟩) hd3.out ?_
                simp only [List.setIfInBounds_toArray, List.set_cons_zero, List.set_cons_succ]
                refine takeD (i := 18) (d := 89) (v := .bool false) rfl rfl (by kernel_rfl) (by kernel_rfl) (by kernel_rfl) (fun _ _ _ h => h) (Or.inl ⟨by rfl, by intro W hW; clear hW; go_simp⟩) hd3.out ?_
                simp only [List.setIfInBounds_toArray, List.set_cons_zero, List.set_cons_succ]
                refine wpAnyH_done (by kernel_rfl) ?_ _
                have hend := hd3
                go_wp2_with fail
                go_roundw
                case rel => exact ⟨k + 1, L2, some ⟨bk, 0, none⟩, cf, nq, by omega, rfl, by go_num, hL2n, hL2l, Lib.hid (hTt.out.below hend.out), Lib.hid (hot.out.below hend.out fun j hj => (hot.out.lt j hj).2)⟩
                case measure => simp [intOf]; omega
              · have hL2e : L2 = L := hsame.out (by omega)
                subst hL2e
                have kf1 : (K == 1) = false := by simpa using hK1
                have kf2 : (K == 2) = true := by simpa using hK2
                have ef : ((E : Int) == 0) = false := by simpa using hE1
                clear hK1 hK2 hE1
                go_wp2_with (first
                  | (refine wpList_load_mid rfl 41 _ rfl b2 (off + k * 37) rfl (encS x) _ (hrg'.out _ hT.out.lo) Try.underlying41 rfl (by rw [l37.out]; exact hi37.out) ?_)
                  | (refine wpList_store_row rfl 41 _ _ rfl wr.heap.size (encS x).toArray rfl rfl 41 _ (heap_alloc_new wr _) (by rw [a37.out]; exact hi37.out) (by rw [a37.out, a37.out]) (oneS.out _) ?_
                     obtain ⟨wa, hwa⟩ : ∃ wa, (wr.alloc (.cells (encS zSt).toArray 41)).setRow wr.heap.size (encS x).toArray = wa := ⟨_, rfl⟩
                     obtain ⟨S8, hS8⟩ : ∃ S8, wr.heap.size = S8 := ⟨_, rfl⟩
                     have hba : Below wr.heap.size wr wa := by rw [← hwa]; exact setRow_bel ((Below.refl _ _).alloc (Nat.le_refl _) _) (Nat.le_refl _) _
                     have hxa : Hid (wa.heap[S8]? = some (.cells (encS x).toArray 41 (0, 0))) := Lib.hid (by rw [← hwa, ← hS8]; exact setRow_heap _ _ _ _ _ _ (heap_alloc_new wr _))
                     have hTa := Lib.hid (hT.out.below hba)
                     have hoa := Lib.hid (hok'.out.below hba fun j hj => (hok'.out.lt j hj).2)
                     rw [hwa, hS8]
                     clear hwa hS8 hba)
                  | (refine wpList_load_mid rfl 41 _ rfl S8 0 rfl (encS x) _ (range_blk hxa.out) Try.underlying41 rfl (by rw [l37.out]; exact hi37.out) ?_)
                  | (go_at_call 14
                     refine (hAs.out _ hTa.out).mono ?_
                     rintro e wb ⟨rfl, h1, h2⟩
                     have hTb := Lib.hid h1
                     have hob := Lib.hid (hoa.out.tchG h2 (by decide))
                     have hxb : Hid (wb.heap[S8]? = some (.cells (encS x).toArray 41 (0, 0))) := Lib.hid (gro_keep h2 hxa.out (by decide))
                     clear h1 h2)
                  | (refine wpList_store_row rfl 38 _ _ rfl wb.heap.size (encA y).toArray rfl rfl 38 _ (heap_alloc_new wb _) (by rw [a36.out]; exact hi36.out) (by rw [a36.out, a36.out]) (oneA.out _) ?_
                     obtain ⟨wc, hwc⟩ : ∃ wc, (wb.alloc (.cells (encA zA).toArray 38)).setRow wb.heap.size (encA y).toArray = wc := ⟨_, rfl⟩
                     obtain ⟨S9, hS9⟩ : ∃ S9, wb.heap.size = S9 := ⟨_, rfl⟩
                     have hbc : Below wb.heap.size wb wc := by rw [← hwc]; exact setRow_bel ((Below.refl _ _).alloc (Nat.le_refl _) _) (Nat.le_refl _) _
                     have hTc := Lib.hid (hTb.out.below hbc)
                     have hoc := Lib.hid (hob.out.below hbc fun j hj => (hob.out.lt j hj).2)
                     have cK : wc.cell? ⟨S8, 0, none⟩ = some (.int .i64 K) := cell_blk ((hbc.block S8 (Array.getElem?_eq_some_iff.1 hxb.out).1).trans hxb.out) hxk.out
                     have cE : wc.cell? ⟨S9, 0, none⟩ = some (.int .i64 (E : Int)) := by
                       have h1 : wc.heap[S9]? = some (.cells (encA y).toArray 38 (0, 0)) := by rw [← hwc, ← hS9]; exact setRow_heap _ _ _ _ _ _ (heap_alloc_new wb _)
                       exact cell_blk h1 hye.out
                     rw [hwc, hS9]
                     clear hwc hS9 hbc))
                have hTt := hTc
                have hot := hoc
                have hL2n := hLn0
                have hn2p := hnp0
                obtain ⟨bk, rfl⟩ := hot.out.head hn2p.out
                have hokp := Lib.hid (okLs_present hTt.out.ok)
                obtain ⟨tx, htx⟩ : ∃ tx, Hid (∀ _ : Unit, listS (present L2) = tx) := ⟨_, Lib.hid fun _ => rfl⟩
                obtain ⟨np, hnp⟩ : ∃ np, Hid (∀ _ : Unit, (present L2).length = np) := ⟨_, Lib.hid fun _ => rfl⟩
                obtain ⟨n1k, hn1k⟩ : ∃ n1k : Nat, (nk : Int) - 1 = (n1k : Int) ∧ nk = n1k + 1 := ⟨nk - 1, by have := hn2p.out; omega, by have := hn2p.out; omega⟩
                obtain ⟨en1, en2⟩ := hn1k
                have en2' := Lib.hid en2
                have w15a : IntKind.i64.wrap (n1k : Int) = (n1k : Int) := by rw [IntKind.wrap_i64]; have := hL2l.out; have := hL2n.out; omega
                have w15b : IntKind.u64.wrap (n1k : Int) = (n1k : Int) := by rw [IntKind.wrap_u64]; have := hL2l.out; have := hL2n.out; omega
                have g15a : (0 : Int) ≤ (n1k : Int) := by omega
                have g15b : (n1k : Int) < (nk : Int) := by omega
                have hKc : Hid (∀ W, Below wc.heap.size wc W → W.cell? ⟨bk, n1k, none⟩ = some (.string tx)) := Lib.hid fun W hW => by
                  have h1 : (keptL L2)[n1k]? = some (.string tx) := by
                    rw [← htx.out ()]
                    refine keptL_at ?_
                    rw [show n1k = L2.length - 1 by have := hL2n.out; omega]
                    exact present_last (by have := hL2n.out; omega)
                  exact ((hot.out.below hW fun j hj => (hot.out.lt j hj).2).cell n1k (by omega)).trans h1
                have hVe : Hid (∀ W, Below wc.heap.size wc W → Calls Try.prog 18 #[.pointer (some ⟨g, 0, none⟩)] W fun e w' => e = .returned (.int .u64 (n1k : Int)) ∧ Below W.heap.size W w') := Lib.hid fun W hW => by
                  have := hVer.out W L2 (hTt.out.below hW)
                  rwa [show L2.length - 1 = n1k by have := hL2n.out; omega] at this
                have hAl : Hid (∀ W, Below wc.heap.size wc W → Calls Try.prog 17 #[.pointer (some ⟨g, 0, none⟩)] W fun e w' => ∃ A' c', e = .returned (.slice A' np c') ∧ Own w' W.heap.size 61 33 A' np c' (rowsR (present L2)) ∧ Below W.heap.size W w') := Lib.hid fun W hW => by
                  have := hAll.out W L2 (hTt.out.below hW)
                  rwa [hnp.out ()] at this
                have hLi : Hid (∀ (W : World) (A : Option Addr) (c B : Nat), Own W B 61 33 A np c (rowsR (present L2)) → Calls Try.prog 16 #[.slice A np c] W fun e w' => e = .returned (.string tx) ∧ Below W.heap.size W w') := Lib.hid fun W A c B ho => by
                  have := hLis.out W (present L2) A c B hokp.out (by rw [hnp.out ()]; exact ho)
                  rwa [hnp.out (), htx.out ()] at this
                clear en2
                have hd : Hid (Below wc.heap.size wc (World.drew wc)) := Lib.hid (below_drewN (Below.refl _ _) 1)
                refine wp_region_held (S := fun W => Below wc.heap.size wc W) (by kernel_rfl) ?_
                change wpAnyH _ _ _ _ _ _ _ _ (World.drew _)
                refine takeD (i := 0) (d := 71) (v := .pointer (some ⟨g, 0, none⟩)) rfl rfl (by kernel_rfl) (by kernel_rfl) (by kernel_rfl) (fun _ _ _ h => h) (Or.inl ⟨by rfl, by intro W hW; clear hW; go_simp⟩) hd.out ?_
                simp only [List.setIfInBounds_toArray, List.set_cons_zero, List.set_cons_succ]
                refine takeD (i := 2) (d := 73) (v := .slice (some ⟨bk, 0, none⟩) nk ck) rfl rfl (by kernel_rfl) (by kernel_rfl) (by kernel_rfl) (fun _ _ _ h => h) (Or.inl ⟨by rfl, by intro W hW; clear hW; go_simp⟩) hd.out ?_
                simp only [List.setIfInBounds_toArray, List.set_cons_zero, List.set_cons_succ]
                refine takeD (i := 3) (d := 74) (v := .int .i64 (nk : Int)) rfl rfl (by kernel_rfl) (by kernel_rfl) (by kernel_rfl) (fun _ _ _ h => h) (Or.inl ⟨by rfl, by intro W hW; clear hW; go_simp⟩) hd.out ?_
                simp only [List.setIfInBounds_toArray, List.set_cons_zero, List.set_cons_succ]
                refine takeD (i := 4) (d := 75) (v := .int .i64 (n1k : Int)) rfl rfl (by kernel_rfl) (by kernel_rfl) (by kernel_rfl) (fun _ _ _ h => h) (Or.inl ⟨by rfl, by intro W hW; clear hW; go_simp⟩) hd.out ?_
                simp only [List.setIfInBounds_toArray, List.set_cons_zero, List.set_cons_succ]
                refine takeD (i := 5) (d := 76) (v := .int .u64 (n1k : Int)) rfl rfl (by kernel_rfl) (by kernel_rfl) (by kernel_rfl) (fun _ _ _ h => h) (Or.inl ⟨by rfl, by intro W hW; clear hW; go_simp⟩) hd.out ?_
                simp only [List.setIfInBounds_toArray, List.set_cons_zero, List.set_cons_succ]
                refine wpAnyH_ready (rs := [1]) (by kernel_rfl) (by simp) ?_
                refine AllReadyH.cons rfl (fun K hK => ?_) AllReadyH.nil
                go_simp
                go_wp2_with (go_at_call 18; refine (hVe.out _ hd.out).mono ?_; rintro e v1 ⟨rfl, b1⟩; skip)
                have hd1 : Hid (Below wc.heap.size wc v1) := Lib.hid (hd.out.trans (b1.mono hd.out.size))
                clear b1
                refine hK.out _ _ hd1.out (fun _ => ?_)
                clear hK K
                refine takeD (i := 6) (d := 77) (v := .bool false) rfl rfl (by kernel_rfl) (by kernel_rfl) (by kernel_rfl) (fun _ _ _ h => h) (Or.inl ⟨by rfl, by intro W hW; clear hW; go_simp⟩) hd1.out ?_
                simp only [List.setIfInBounds_toArray, List.set_cons_zero, List.set_cons_succ]
                refine takeD (i := 7) (d := 78) (v := .bool false) rfl rfl (by kernel_rfl) (by kernel_rfl) (by kernel_rfl) (fun _ _ _ h => h) (Or.inl ⟨by rfl, by intro W hW; clear hW; go_simp⟩) hd1.out ?_
                simp only [List.setIfInBounds_toArray, List.set_cons_zero, List.set_cons_succ]
                refine takeD (i := 8) (d := 79) (v := .pointer (some ⟨g, 0, none⟩)) rfl rfl (by kernel_rfl) (by kernel_rfl) (by kernel_rfl) (fun _ _ _ h => h) (Or.inl ⟨by rfl, by intro W hW; clear hW; go_simp⟩) hd1.out ?_
                simp only [List.setIfInBounds_toArray, List.set_cons_zero, List.set_cons_succ]
                refine takeD (i := 11) (d := 82) (v := .slice (some ⟨bk, 0, none⟩) nk ck) rfl rfl (by kernel_rfl) (by kernel_rfl) (by kernel_rfl) (fun _ _ _ h => h) (Or.inl ⟨by rfl, by intro W hW; clear hW; go_simp⟩) hd1.out ?_
                simp only [List.setIfInBounds_toArray, List.set_cons_zero, List.set_cons_succ]
                refine takeD (i := 12) (d := 83) (v := .slice (some ⟨bk, 0, none⟩) nk ck) rfl rfl (by kernel_rfl) (by kernel_rfl) (by kernel_rfl) (fun _ _ _ h => h) (Or.inl ⟨by rfl, by intro W hW; clear hW; go_simp⟩) hd1.out ?_
                simp only [List.setIfInBounds_toArray, List.set_cons_zero, List.set_cons_succ]
                refine takeD (i := 13) (d := 84) (v := .int .i64 (nk : Int)) rfl rfl (by kernel_rfl) (by kernel_rfl) (by kernel_rfl) (fun _ _ _ h => h) (Or.inl ⟨by rfl, by intro W hW; clear hW; go_simp⟩) hd1.out ?_
                simp only [List.setIfInBounds_toArray, List.set_cons_zero, List.set_cons_succ]
                refine takeD (i := 14) (d := 85) (v := .int .i64 (n1k : Int)) rfl rfl (by kernel_rfl) (by kernel_rfl) (by kernel_rfl) (fun _ _ _ h => h) (Or.inl ⟨by rfl, by intro W hW; clear hW; go_simp⟩) hd1.out ?_
                simp only [List.setIfInBounds_toArray, List.set_cons_zero, List.set_cons_succ]
                refine takeD (i := 15) (d := 86) (v := .pointer (some ⟨bk, n1k, none⟩)) rfl rfl (by kernel_rfl) (by kernel_rfl) (by kernel_rfl) (fun _ _ _ h => h) (Or.inl ⟨by rfl, by intro W hW; clear hW; go_simp⟩) hd1.out ?_
                simp only [List.setIfInBounds_toArray, List.set_cons_zero, List.set_cons_succ]
                refine takeD (i := 16) (d := 87) (v := .string tx) rfl rfl (by kernel_rfl) (by kernel_rfl) (by kernel_rfl) (fun _ _ _ h => h) (Or.inl ⟨by rfl, by intro W hW; have cc := hKc.out W hW; clear hW; go_simp⟩) hd1.out ?_
                simp only [List.setIfInBounds_toArray, List.set_cons_zero, List.set_cons_succ]
                refine wpAnyH_ready (rs := [9]) (by kernel_rfl) (by simp) ?_
                refine AllReadyH.cons rfl (fun K hK => ?_) AllReadyH.nil
                go_simp
                go_wp2_with (go_at_call 17; refine (hAl.out _ hd1.out).mono ?_; rintro e v2 ⟨A9, c9, rfl, o9, b2⟩; skip)
                have hd2 : Hid (Below wc.heap.size wc v2) := Lib.hid (hd1.out.trans (b2.mono hd1.out.size))
                have ho9 := Lib.hid o9
                clear b2 o9
                refine hK.out _ _ hd2.out (fun _ => ?_)
                clear hK K
                refine wpAnyH_ready (rs := [10]) (by kernel_rfl) (by simp) ?_
                refine AllReadyH.cons rfl (fun K hK => ?_) AllReadyH.nil
                go_simp
                go_wp2_with (go_at_call 16; refine (hLi.out _ _ _ _ ho9.out).mono ?_; rintro e v3 ⟨rfl, b3⟩; skip)
                have hd3 : Hid (Below wc.heap.size wc v3) := Lib.hid (hd2.out.trans (b3.mono hd2.out.size))
                clear b3
                refine hK.out _ _ hd3.out (fun _ => ?_)
                clear hK K
                refine takeD (i := 17) (d := 88) (v := .bool false) rfl rfl (by kernel_rfl) (by kernel_rfl) (by kernel_rfl) (fun _ _ _ h => h) (Or.inl ⟨by rfl, by intro W hW; clear hW; go_simp⟩) hd3.out ?_
                simp only [List.setIfInBounds_toArray, List.set_cons_zero, List.set_cons_succ]
                refine takeD (i := 18) (d := 89) (v := .bool false) rfl rfl (by kernel_rfl) (by kernel_rfl) (by kernel_rfl) (fun _ _ _ h => h) (Or.inl ⟨by rfl, by intro W hW; clear hW; go_simp⟩) hd3.out ?_
                simp only [List.setIfInBounds_toArray, List.set_cons_zero, List.set_cons_succ]
                refine wpAnyH_done (by kernel_rfl) ?_ _
                have hend := hd3
                go_wp2_with fail
                go_roundw
                case rel => exact ⟨k + 1, L2, some ⟨bk, 0, none⟩, ck, nk, by omega, rfl, by go_num, hL2n, hL2l, Lib.hid (hTt.out.below hend.out), Lib.hid (hot.out.below hend.out fun j hj => (hot.out.lt j hj).2)⟩
                case measure => simp [intOf]; omega
            · have hL2e : L2 = L := hsame.out (by omega)
              subst hL2e
              have kf1 : (K == 1) = false := by simpa using hK1
              have kf2 : (K == 2) = false := by simpa using hK2
              clear hK1 hK2
              go_wp2_with (first
                | (refine wpList_load_mid rfl 41 _ rfl b2 (off + k * 37) rfl (encS x) _ (hrg'.out _ hT.out.lo) Try.underlying41 rfl (by rw [l37.out]; exact hi37.out) ?_)
                | (refine wpList_store_row rfl 41 _ _ rfl wr.heap.size (encS x).toArray rfl rfl 41 _ (heap_alloc_new wr _) (by rw [a37.out]; exact hi37.out) (by rw [a37.out, a37.out]) (oneS.out _) ?_
                   obtain ⟨wa, hwa⟩ : ∃ wa, (wr.alloc (.cells (encS zSt).toArray 41)).setRow wr.heap.size (encS x).toArray = wa := ⟨_, rfl⟩
                   obtain ⟨S8, hS8⟩ : ∃ S8, wr.heap.size = S8 := ⟨_, rfl⟩
                   have hba : Below wr.heap.size wr wa := by rw [← hwa]; exact setRow_bel ((Below.refl _ _).alloc (Nat.le_refl _) _) (Nat.le_refl _) _
                   have hxa : Hid (wa.heap[S8]? = some (.cells (encS x).toArray 41 (0, 0))) := Lib.hid (by rw [← hwa, ← hS8]; exact setRow_heap _ _ _ _ _ _ (heap_alloc_new wr _))
                   have hTa := Lib.hid (hT.out.below hba)
                   have hoa := Lib.hid (hok'.out.below hba fun j hj => (hok'.out.lt j hj).2)
                   rw [hwa, hS8]
                   clear hwa hS8 hba)
                | (refine wpList_load_mid rfl 41 _ rfl S8 0 rfl (encS x) _ (range_blk hxa.out) Try.underlying41 rfl (by rw [l37.out]; exact hi37.out) ?_)
                | (go_at_call 14
                   refine (hAs.out _ hTa.out).mono ?_
                   rintro e wb ⟨rfl, h1, h2⟩
                   have hTb := Lib.hid h1
                   have hob := Lib.hid (hoa.out.tchG h2 (by decide))
                   have hxb : Hid (wb.heap[S8]? = some (.cells (encS x).toArray 41 (0, 0))) := Lib.hid (gro_keep h2 hxa.out (by decide))
                   clear h1 h2)
                | (refine wpList_store_row rfl 38 _ _ rfl wb.heap.size (encA y).toArray rfl rfl 38 _ (heap_alloc_new wb _) (by rw [a36.out]; exact hi36.out) (by rw [a36.out, a36.out]) (oneA.out _) ?_
                   obtain ⟨wc, hwc⟩ : ∃ wc, (wb.alloc (.cells (encA zA).toArray 38)).setRow wb.heap.size (encA y).toArray = wc := ⟨_, rfl⟩
                   obtain ⟨S9, hS9⟩ : ∃ S9, wb.heap.size = S9 := ⟨_, rfl⟩
                   have hbc : Below wb.heap.size wb wc := by rw [← hwc]; exact setRow_bel ((Below.refl _ _).alloc (Nat.le_refl _) _) (Nat.le_refl _) _
                   have hTc := Lib.hid (hTb.out.below hbc)
                   have hoc := Lib.hid (hob.out.below hbc fun j hj => (hob.out.lt j hj).2)
                   have cK : wc.cell? ⟨S8, 0, none⟩ = some (.int .i64 K) := cell_blk ((hbc.block S8 (Array.getElem?_eq_some_iff.1 hxb.out).1).trans hxb.out) hxk.out
                   have cE : wc.cell? ⟨S9, 0, none⟩ = some (.int .i64 (E : Int)) := by
                     have h1 : wc.heap[S9]? = some (.cells (encA y).toArray 38 (0, 0)) := by rw [← hwc, ← hS9]; exact setRow_heap _ _ _ _ _ _ (heap_alloc_new wb _)
                     exact cell_blk h1 hye.out
                   rw [hwc, hS9]
                   clear hwc hS9 hbc))
              have hTt := hTc
              have hot := hoc
              have hL2n := hLn0
              have hn2p := hnp0
              obtain ⟨bk, rfl⟩ := hot.out.head hn2p.out
              have hokp := Lib.hid (okLs_present hTt.out.ok)
              obtain ⟨tx, htx⟩ : ∃ tx, Hid (∀ _ : Unit, listS (present L2) = tx) := ⟨_, Lib.hid fun _ => rfl⟩
              obtain ⟨np, hnp⟩ : ∃ np, Hid (∀ _ : Unit, (present L2).length = np) := ⟨_, Lib.hid fun _ => rfl⟩
              obtain ⟨n1k, hn1k⟩ : ∃ n1k : Nat, (nk : Int) - 1 = (n1k : Int) ∧ nk = n1k + 1 := ⟨nk - 1, by have := hn2p.out; omega, by have := hn2p.out; omega⟩
              obtain ⟨en1, en2⟩ := hn1k
              have en2' := Lib.hid en2
              have w15a : IntKind.i64.wrap (n1k : Int) = (n1k : Int) := by rw [IntKind.wrap_i64]; have := hL2l.out; have := hL2n.out; omega
              have w15b : IntKind.u64.wrap (n1k : Int) = (n1k : Int) := by rw [IntKind.wrap_u64]; have := hL2l.out; have := hL2n.out; omega
              have g15a : (0 : Int) ≤ (n1k : Int) := by omega
              have g15b : (n1k : Int) < (nk : Int) := by omega
              have hKc : Hid (∀ W, Below wc.heap.size wc W → W.cell? ⟨bk, n1k, none⟩ = some (.string tx)) := Lib.hid fun W hW => by
                have h1 : (keptL L2)[n1k]? = some (.string tx) := by
                  rw [← htx.out ()]
                  refine keptL_at ?_
                  rw [show n1k = L2.length - 1 by have := hL2n.out; omega]
                  exact present_last (by have := hL2n.out; omega)
                exact ((hot.out.below hW fun j hj => (hot.out.lt j hj).2).cell n1k (by omega)).trans h1
              have hVe : Hid (∀ W, Below wc.heap.size wc W → Calls Try.prog 18 #[.pointer (some ⟨g, 0, none⟩)] W fun e w' => e = .returned (.int .u64 (n1k : Int)) ∧ Below W.heap.size W w') := Lib.hid fun W hW => by
                have := hVer.out W L2 (hTt.out.below hW)
                rwa [show L2.length - 1 = n1k by have := hL2n.out; omega] at this
              have hAl : Hid (∀ W, Below wc.heap.size wc W → Calls Try.prog 17 #[.pointer (some ⟨g, 0, none⟩)] W fun e w' => ∃ A' c', e = .returned (.slice A' np c') ∧ Own w' W.heap.size 61 33 A' np c' (rowsR (present L2)) ∧ Below W.heap.size W w') := Lib.hid fun W hW => by
                have := hAll.out W L2 (hTt.out.below hW)
                rwa [hnp.out ()] at this
              have hLi : Hid (∀ (W : World) (A : Option Addr) (c B : Nat), Own W B 61 33 A np c (rowsR (present L2)) → Calls Try.prog 16 #[.slice A np c] W fun e w' => e = .returned (.string tx) ∧ Below W.heap.size W w') := Lib.hid fun W A c B ho => by
                have := hLis.out W (present L2) A c B hokp.out (by rw [hnp.out ()]; exact ho)
                rwa [hnp.out (), htx.out ()] at this
              clear en2
              have hd : Hid (Below wc.heap.size wc (World.drew wc)) := Lib.hid (below_drewN (Below.refl _ _) 1)
              refine wp_region_held (S := fun W => Below wc.heap.size wc W) (by kernel_rfl) ?_
              change wpAnyH _ _ _ _ _ _ _ _ (World.drew _)
              refine takeD (i := 0) (d := 71) (v := .pointer (some ⟨g, 0, none⟩)) rfl rfl (by kernel_rfl) (by kernel_rfl) (by kernel_rfl) (fun _ _ _ h => h) (Or.inl ⟨by rfl, by intro W hW; clear hW; go_simp⟩) hd.out ?_
              simp only [List.setIfInBounds_toArray, List.set_cons_zero, List.set_cons_succ]
              refine takeD (i := 2) (d := 73) (v := .slice (some ⟨bk, 0, none⟩) nk ck) rfl rfl (by kernel_rfl) (by kernel_rfl) (by kernel_rfl) (fun _ _ _ h => h) (Or.inl ⟨by rfl, by intro W hW; clear hW; go_simp⟩) hd.out ?_
              simp only [List.setIfInBounds_toArray, List.set_cons_zero, List.set_cons_succ]
              refine takeD (i := 3) (d := 74) (v := .int .i64 (nk : Int)) rfl rfl (by kernel_rfl) (by kernel_rfl) (by kernel_rfl) (fun _ _ _ h => h) (Or.inl ⟨by rfl, by intro W hW; clear hW; go_simp⟩) hd.out ?_
              simp only [List.setIfInBounds_toArray, List.set_cons_zero, List.set_cons_succ]
              refine takeD (i := 4) (d := 75) (v := .int .i64 (n1k : Int)) rfl rfl (by kernel_rfl) (by kernel_rfl) (by kernel_rfl) (fun _ _ _ h => h) (Or.inl ⟨by rfl, by intro W hW; clear hW; go_simp⟩) hd.out ?_
              simp only [List.setIfInBounds_toArray, List.set_cons_zero, List.set_cons_succ]
              refine takeD (i := 5) (d := 76) (v := .int .u64 (n1k : Int)) rfl rfl (by kernel_rfl) (by kernel_rfl) (by kernel_rfl) (fun _ _ _ h => h) (Or.inl ⟨by rfl, by intro W hW; clear hW; go_simp⟩) hd.out ?_
              simp only [List.setIfInBounds_toArray, List.set_cons_zero, List.set_cons_succ]
              refine wpAnyH_ready (rs := [1]) (by kernel_rfl) (by simp) ?_
              refine AllReadyH.cons rfl (fun K hK => ?_) AllReadyH.nil
              go_simp
              go_wp2_with (go_at_call 18; refine (hVe.out _ hd.out).mono ?_; rintro e v1 ⟨rfl, b1⟩; skip)
              have hd1 : Hid (Below wc.heap.size wc v1) := Lib.hid (hd.out.trans (b1.mono hd.out.size))
              clear b1
              refine hK.out _ _ hd1.out (fun _ => ?_)
              clear hK K
              refine takeD (i := 6) (d := 77) (v := .bool false) rfl rfl (by kernel_rfl) (by kernel_rfl) (by kernel_rfl) (fun _ _ _ h => h) (Or.inl ⟨by rfl, by intro W hW; clear hW; go_simp⟩) hd1.out ?_
              simp only [List.setIfInBounds_toArray, List.set_cons_zero, List.set_cons_succ]
              refine takeD (i := 7) (d := 78) (v := .bool false) rfl rfl (by kernel_rfl) (by kernel_rfl) (by kernel_rfl) (fun _ _ _ h => h) (Or.inl ⟨by rfl, by intro W hW; clear hW; go_simp⟩) hd1.out ?_
              simp only [List.setIfInBounds_toArray, List.set_cons_zero, List.set_cons_succ]
              refine takeD (i := 8) (d := 79) (v := .pointer (some ⟨g, 0, none⟩)) rfl rfl (by kernel_rfl) (by kernel_rfl) (by kernel_rfl) (fun _ _ _ h => h) (Or.inl ⟨by rfl, by intro W hW; clear hW; go_simp⟩) hd1.out ?_
              simp only [List.setIfInBounds_toArray, List.set_cons_zero, List.set_cons_succ]
              refine takeD (i := 11) (d := 82) (v := .slice (some ⟨bk, 0, none⟩) nk ck) rfl rfl (by kernel_rfl) (by kernel_rfl) (by kernel_rfl) (fun _ _ _ h => h) (Or.inl ⟨by rfl, by intro W hW; clear hW; go_simp⟩) hd1.out ?_
              simp only [List.setIfInBounds_toArray, List.set_cons_zero, List.set_cons_succ]
              refine takeD (i := 12) (d := 83) (v := .slice (some ⟨bk, 0, none⟩) nk ck) rfl rfl (by kernel_rfl) (by kernel_rfl) (by kernel_rfl) (fun _ _ _ h => h) (Or.inl ⟨by rfl, by intro W hW; clear hW; go_simp⟩) hd1.out ?_
              simp only [List.setIfInBounds_toArray, List.set_cons_zero, List.set_cons_succ]
              refine takeD (i := 13) (d := 84) (v := .int .i64 (nk : Int)) rfl rfl (by kernel_rfl) (by kernel_rfl) (by kernel_rfl) (fun _ _ _ h => h) (Or.inl ⟨by rfl, by intro W hW; clear hW; go_simp⟩) hd1.out ?_
              simp only [List.setIfInBounds_toArray, List.set_cons_zero, List.set_cons_succ]
              refine takeD (i := 14) (d := 85) (v := .int .i64 (n1k : Int)) rfl rfl (by kernel_rfl) (by kernel_rfl) (by kernel_rfl) (fun _ _ _ h => h) (Or.inl ⟨by rfl, by intro W hW; clear hW; go_simp⟩) hd1.out ?_
              simp only [List.setIfInBounds_toArray, List.set_cons_zero, List.set_cons_succ]
              refine takeD (i := 15) (d := 86) (v := .pointer (some ⟨bk, n1k, none⟩)) rfl rfl (by kernel_rfl) (by kernel_rfl) (by kernel_rfl) (fun _ _ _ h => h) (Or.inl ⟨by rfl, by intro W hW; clear hW; go_simp⟩) hd1.out ?_
              simp only [List.setIfInBounds_toArray, List.set_cons_zero, List.set_cons_succ]
              refine takeD (i := 16) (d := 87) (v := .string tx) rfl rfl (by kernel_rfl) (by kernel_rfl) (by kernel_rfl) (fun _ _ _ h => h) (Or.inl ⟨by rfl, by intro W hW; have cc := hKc.out W hW; clear hW; go_simp⟩) hd1.out ?_
              simp only [List.setIfInBounds_toArray, List.set_cons_zero, List.set_cons_succ]
              refine wpAnyH_ready (rs := [9]) (by kernel_rfl) (by simp) ?_
              refine AllReadyH.cons rfl (fun K hK => ?_) AllReadyH.nil
              go_simp
              go_wp2_with (go_at_call 17; refine (hAl.out _ hd1.out).mono ?_; rintro e v2 ⟨A9, c9, rfl, o9, b2⟩; skip)
              have hd2 : Hid (Below wc.heap.size wc v2) := Lib.hid (hd1.out.trans (b2.mono hd1.out.size))
              have ho9 := Lib.hid o9
              clear b2 o9
              refine hK.out _ _ hd2.out (fun _ => ?_)
              clear hK K
              refine wpAnyH_ready (rs := [10]) (by kernel_rfl) (by simp) ?_
              refine AllReadyH.cons rfl (fun K hK => ?_) AllReadyH.nil
              go_simp
              go_wp2_with (go_at_call 16; refine (hLi.out _ _ _ _ ho9.out).mono ?_; rintro e v3 ⟨rfl, b3⟩; skip)
              have hd3 : Hid (Below wc.heap.size wc v3) := Lib.hid (hd2.out.trans (b3.mono hd2.out.size))
              clear b3
              refine hK.out _ _ hd3.out (fun _ => ?_)
              clear hK K
              refine takeD (i := 17) (d := 88) (v := .bool false) rfl rfl (by kernel_rfl) (by kernel_rfl) (by kernel_rfl) (fun _ _ _ h => h) (Or.inl ⟨by rfl, by intro W hW; clear hW; go_simp⟩) hd3.out ?_
              simp only [List.setIfInBounds_toArray, List.set_cons_zero, List.set_cons_succ]
              refine takeD (i := 18) (d := 89) (v := .bool false) rfl rfl (by kernel_rfl) (by kernel_rfl) (by kernel_rfl) (fun _ _ _ h => h) (Or.inl ⟨by rfl, by intro W hW; clear hW; go_simp⟩) hd3.out ?_
              simp only [List.setIfInBounds_toArray, List.set_cons_zero, List.set_cons_succ]
              refine wpAnyH_done (by kernel_rfl) ?_ _
              have hend := hd3
              go_wp2_with fail
              go_roundw
              case rel => exact ⟨k + 1, L2, some ⟨bk, 0, none⟩, ck, nk, by omega, rfl, by go_num, hL2n, hL2l, Lib.hid (hTt.out.below hend.out), Lib.hid (hot.out.below hend.out fun j hj => (hot.out.lt j hj).2)⟩
              case measure => simp [intOf]; omega
        · have glt : ¬ ((k : Int) < (n2 : Int)) := by omega
          have hLn := Lib.hid (show L.length ≤ 4097 by have := hLk.out; omega)
          have hLn0' := hLn0
          have hB5 : nk ≤ 4097 := by have := hLn.out; have := hLn0.out; omega
          obtain ⟨bk, rfl⟩ := hok'.out.head hnp0.out
          go_wp2_with fail
          clear cc2 glt
          go_loopw [10] (fun i wr => ∃ v : Nat, v ≤ nk ∧ i = .int .i64 v ∧ Hid (One w0 wr g L) ∧ Hid (Own wr w0.heap.size 9 1 (some ⟨bk, 0, none⟩) nk ck (keptL L))) (fun i _ => nk - (intOf i).toNat)
          case atStart => exact ⟨0, by omega, rfl, hT, hok'⟩
          case round =>
            obtain ⟨v, hv, rfl, hTv, hov⟩ := hrel
            by_cases hvn : v < nk
            · obtain ⟨lv, hlv⟩ : ∃ lv, L[v]? = some lv := ⟨_, List.getElem?_eq_getElem (by have := hLn0.out; omega)⟩
              have hokv := Lib.hid (hTv.out.ok.2 lv (List.mem_of_getElem? hlv))
              obtain ⟨nv, hnv⟩ : ∃ nv, Hid (∀ _ : Unit, lv.length = nv) := ⟨_, Lib.hid fun _ => rfl⟩
              obtain ⟨tx, htx⟩ : ∃ tx, Hid (∀ _ : Unit, listS lv = tx) := ⟨_, Lib.hid fun _ => rfl⟩
              have hAt : Hid (Calls Try.prog 19 #[.pointer (some ⟨g, 0, none⟩), .int .u64 (v : Int)] wr fun e w' => ∃ A' c', e = .returned (.tuple #[.slice A' nv c', .int .i64 0]) ∧ Own w' wr.heap.size 61 33 A' nv c' (rowsR lv) ∧ Below wr.heap.size wr w') := Lib.hid (by
                have := at_one hTv.out v hlv
                rwa [hnv.out ()] at this)
              have hLi : Hid (∀ (W : World) (A : Option Addr) (c B : Nat), Own W B 61 33 A nv c (rowsR lv) → Calls Try.prog 16 #[.slice A nv c] W fun e w' => e = .returned (.string tx) ∧ Below W.heap.size W w') := Lib.hid fun W A c B ho => by
                have := hLis.out W lv A c B hokv.out (by rw [hnv.out ()]; exact ho)
                rwa [hnv.out (), htx.out ()] at this
              have hkv : Hid ((keptL L)[v]? = some (.string tx)) := Lib.hid (by rw [← htx.out ()]; exact keptL_at hlv)
              have glt : (v : Int) < (nk : Int) := by omega
              have g0 : (0 : Int) ≤ (v : Int) := by omega
              have wv : IntKind.u64.wrap (v : Int) = (v : Int) := by rw [IntKind.wrap_u64]; omega
              clear hlv
              go_wp2_with (go_at_call 19
                           refine hAt.out.mono ?_
                           rintro e wt ⟨A6, c6, rfl, ho, hb⟩
                           have hTt := Lib.hid (hTv.out.below hb)
                           have hot := Lib.hid (hov.out.below hb fun j hj => (hov.out.lt j hj).2)
                           have ho6 := Lib.hid ho
                           clear ho hb)
              have hKc : Hid (∀ W, Below wt.heap.size wt W → W.cell? ⟨bk, v, none⟩ = some (.string tx)) := Lib.hid fun W hW => ((hot.out.below hW fun j hj => (hot.out.lt j hj).2).cell v (by omega)).trans hkv.out
              have hd : Hid (Below wt.heap.size wt (World.drew wt)) := Lib.hid (below_drewN (Below.refl _ _) 1)
              refine wp_region_held (S := fun W => Below wt.heap.size wt W) (by kernel_rfl) ?_
              change wpAnyH _ _ _ _ _ _ _ _ (World.drew _)
              refine takeD (i := 0) (d := 103) (v := .int .i64 0) rfl rfl (by kernel_rfl) (by kernel_rfl) (by kernel_rfl) (fun _ _ _ h => h) (Or.inl ⟨by rfl, by intro W hW; clear hW; go_simp⟩) hd.out ?_
              simp only [List.setIfInBounds_toArray, List.set_cons_zero, List.set_cons_succ]
              refine takeD (i := 1) (d := 104) (v := .bool false) rfl rfl (by kernel_rfl) (by kernel_rfl) (by kernel_rfl) (fun _ _ _ h => h) (Or.inl ⟨by rfl, by intro W hW; clear hW; go_simp⟩) hd.out ?_
              simp only [List.setIfInBounds_toArray, List.set_cons_zero, List.set_cons_succ]
              refine takeD (i := 2) (d := 105) (v := .bool false) rfl rfl (by kernel_rfl) (by kernel_rfl) (by kernel_rfl) (fun _ _ _ h => h) (Or.inl ⟨by rfl, by intro W hW; clear hW; go_simp⟩) hd.out ?_
              simp only [List.setIfInBounds_toArray, List.set_cons_zero, List.set_cons_succ]
              refine takeD (i := 3) (d := 106) (v := .slice A6 nv c6) rfl rfl (by kernel_rfl) (by kernel_rfl) (by kernel_rfl) (fun _ _ _ h => h) (Or.inl ⟨by rfl, by intro W hW; clear hW; go_simp⟩) hd.out ?_
              simp only [List.setIfInBounds_toArray, List.set_cons_zero, List.set_cons_succ]
              refine takeD (i := 5) (d := 108) (v := .slice (some ⟨bk, 0, none⟩) nk ck) rfl rfl (by kernel_rfl) (by kernel_rfl) (by kernel_rfl) (fun _ _ _ h => h) (Or.inl ⟨by rfl, by intro W hW; clear hW; go_simp⟩) hd.out ?_
              simp only [List.setIfInBounds_toArray, List.set_cons_zero, List.set_cons_succ]
              refine takeD (i := 6) (d := 109) (v := .int .i64 (v : Int)) rfl rfl (by kernel_rfl) (by kernel_rfl) (by kernel_rfl) (fun _ _ _ h => h) (Or.inl ⟨by rfl, by intro W hW; clear hW; go_simp⟩) hd.out ?_
              simp only [List.setIfInBounds_toArray, List.set_cons_zero, List.set_cons_succ]
              refine takeD (i := 7) (d := 110) (v := .pointer (some ⟨bk, v, none⟩)) rfl rfl (by kernel_rfl) (by kernel_rfl) (by kernel_rfl) (fun _ _ _ h => h) (Or.inl ⟨by rfl, by intro W hW; clear hW; go_simp⟩) hd.out ?_
              simp only [List.setIfInBounds_toArray, List.set_cons_zero, List.set_cons_succ]
              refine takeD (i := 8) (d := 111) (v := .string tx) rfl rfl (by kernel_rfl) (by kernel_rfl) (by kernel_rfl) (fun _ _ _ h => h) (Or.inl ⟨by rfl, by intro W hW; have cc := hKc.out W hW; clear hW; go_simp⟩) hd.out ?_
              simp only [List.setIfInBounds_toArray, List.set_cons_zero, List.set_cons_succ]
              refine wpAnyH_ready (rs := [4]) (by kernel_rfl) (by simp) ?_
              refine AllReadyH.cons rfl (fun K hK => ?_) AllReadyH.nil
              go_simp
              go_wp2_with (go_at_call 16; refine (hLi.out _ _ _ _ (ho6.out.below hd.out fun j hj => (ho6.out.lt j hj).2)).mono ?_; rintro e v1 ⟨rfl, b1⟩; skip)
              have hd1 : Hid (Below wt.heap.size wt v1) := Lib.hid (hd.out.trans (b1.mono hd.out.size))
              clear b1
              refine hK.out _ _ hd1.out (fun _ => ?_)
              clear hK K
              refine takeD (i := 9) (d := 112) (v := .bool false) rfl rfl (by kernel_rfl) (by kernel_rfl) (by kernel_rfl) (fun _ _ _ h => h) (Or.inl ⟨by rfl, by intro W hW; clear hW; go_simp⟩) hd1.out ?_
              simp only [List.setIfInBounds_toArray, List.set_cons_zero, List.set_cons_succ]
              refine takeD (i := 10) (d := 113) (v := .bool false) rfl rfl (by kernel_rfl) (by kernel_rfl) (by kernel_rfl) (fun _ _ _ h => h) (Or.inl ⟨by rfl, by intro W hW; clear hW; go_simp⟩) hd1.out ?_
              simp only [List.setIfInBounds_toArray, List.set_cons_zero, List.set_cons_succ]
              refine wpAnyH_done (by kernel_rfl) ?_ _
              have hend := hd1
              go_wp2_with fail
              go_roundw
              case rel => exact ⟨v + 1, by omega, by go_num, Lib.hid (hTt.out.below hend.out), Lib.hid (hot.out.below hend.out fun j hj => (hot.out.lt j hj).2)⟩
              case measure => simp [intOf]; omega
            · have glt : ¬ ((v : Int) < (nk : Int)) := by omega
              have hNo : Hid (Calls Try.prog 19 #[.pointer (some ⟨g, 0, none⟩), .int .u64 (nk : Int)] wr fun e w' => e = .returned (.tuple #[.slice none 0 0, .int .i64 133]) ∧ Below wr.heap.size wr w') := Lib.hid (at_no hTv.out nk (by have := hLn0.out; omega))
              have wv : IntKind.u64.wrap (nk : Int) = (nk : Int) := by rw [IntKind.wrap_u64]; omega
              have hpl := Lib.hid (okLs_present hTv.out.ok)
              obtain ⟨Q, hQ⟩ : ∃ Q, Hid (∀ _ : Unit, awQ (present L) = Q) := ⟨_, Lib.hid fun _ => rfl⟩
              have hSet : Hid (∀ W, One w0 W g L → Calls Try.prog 20 #[.pointer (some ⟨g, 0, none⟩), .string aS, .agg (encKy k1K).toArray] W fun e w' => e = .returned (.int .i64 (Q : Nat)) ∧ Below w0.heap.size w0 w' ∧ Gro (fun j => Tch W j ∧ w0.heap.size ≤ j) W w') := Lib.hid fun W hW => by
                refine (set_one hW (by have := hLn.out; omega) aS k1K).mono ?_
                rintro e w' ⟨h1, h2, h3⟩
                rw [set_a, hQ.out ()] at h1
                exact ⟨h1, h2.lo, h3⟩
              have hAw : Hid (∀ W, W.cell? ⟨bk, nk - 1, none⟩ = some (.string (listS (present L))) → Calls Try.prog 21 #[.slice (some ⟨bk, 0, none⟩) nk ck] W fun e w' => e = .returned (.int .i64 (Q : Nat)) ∧ W = w') := Lib.hid fun W hW => by
                have := awake_any W (present L) hpl.out.1 hpl.out.2 bk 0 nk ck hnp0.out (by omega) (by rw [Nat.zero_add]; exact hW)
                rwa [hQ.out ()] at this
              have hkl : Hid ((keptL L)[nk - 1]? = some (.string (listS (present L)))) := Lib.hid (keptL_at (by rw [← hLn0.out]; exact present_last (by have := hLn0.out; have := hnp0.out; omega)))
              go_wp2_with (first
                | (go_at_call 19
                   refine hNo.out.mono ?_
                   rintro e wt ⟨rfl, hb⟩
                   have hTt := Lib.hid (hTv.out.below hb)
                   have hot := Lib.hid (hov.out.below hb fun j hj => (hov.out.lt j hj).2)
                   clear hb)
                | (go_at_call 20
                   refine (hSet.out _ hTt.out).mono ?_
                   rintro e wu ⟨rfl, h1, h2⟩
                   have hlo := Lib.hid h1
                   have hcu : Hid (wu.cell? ⟨bk, nk - 1, none⟩ = some (.string (listS (present L)))) := Lib.hid (((hot.out.tchG h2 (by decide)).cell (nk - 1) (by have := hnp0.out; omega)).trans hkl.out)
                   clear h1 h2)
                | (go_at_call 21
                   refine (hAw.out _ hcu.out).mono ?_
                   rintro e wx ⟨rfl, rfl⟩))
              go_ret
              exact ⟨rfl, hb0.out.trans (hlo.out.mono hb0.out.size)⟩
  · rw [decide_eq_false hq] at hsm
    clear hq hl hs hR hS ht
    go_enter Try.func6, Try.ntmps6
    go_wp2_with (first
      | (refine wpList_load_mid rfl 27 _ rfl w.heap.size 0 rfl [Value.bool b, .slice A1 n1 c1, .slice A2 n2 c2] _ (hrow.out _ (Below.refl _ _)) Try.underlying27 rfl hi3.out ?_)
      | (go_at_call 12; refine (hsm.out _).mono ?_; rintro e w1 ⟨rfl, hb⟩; have hb1 := Lib.hid hb; clear hb))
    go_ret
    exact ⟨rfl, hb0.out.trans (hb1.out.mono hb0.out.size)⟩
end Go.Proofs.Ytakcnkmlglkkpaa

/- The listing of a list of one's own. RootsLaid, walked. (Printed by tools/gentll.py.) RootsLaid: the arguments opened. -/
import Derived.Test.YtakcnkmlglkkpaaPkV1
import Derived.Test.YtakcnkmlglkkpaaPkV2
import Derived.Test.YtakcnkmlglkkpaaPkR41

namespace Go.Proofs.Ytakcnkmlglkkpaa
open Go.RowKit
set_option linter.unusedSimpArgs false
set_option linter.unusedVariables false
open Classical

theorem listed_own (W : World) (l : List RootT) (hok : okL l) (h64 : l.length ≤ 64) (A : Option Addr) (n c B : Nat) (hn : l.length = n) (ho : Own W B 61 33 A n c (rowsR l)) :
    Calls Try.prog 16 #[.slice A n c] W fun e w' => e = .returned (.string (listS l)) ∧ Below W.heap.size W w' := by
  have h1 := totS_named hok.2
  have h2 : l.length * 65 ≤ 64 * 65 := Nat.mul_le_mul_right _ h64
  exact listed_txt W l A n c W.heap.size hn (by omega) (RowR.of_own (by rw [hn]; exact ho)) (Nat.le_refl _) (by omega)
end Go.Proofs.Ytakcnkmlglkkpaa

namespace Go.Proofs.Ytakcnkmlglkkpaa
open Go.RowKit
set_option linter.unusedSimpArgs false
set_option linter.unusedVariables false
open Classical

def flipT (t : TurnT) : TurnT := ⟨t.name, t.has, t.had, t.new, t.old⟩
theorem merge_flip : ∀ (n : Nat) (a b : List RootT), a.length + b.length ≤ n → mergeQ b a = (mergeQ a b).map flipT
  | _, [], [], _ => by rw [mergeQ_nn]; rfl
  | 0, _ :: _, _, h => by simp at h
  | 0, [], _ :: _, h => by simp at h
  | n + 1, x :: a, [], h => by
    rw [mergeQ_xn, mergeQ_ny, List.map_cons, merge_flip n a [] (by simp at h ⊢; omega)]
    rfl
  | n + 1, [], y :: b, h => by
    rw [mergeQ_xn, mergeQ_ny, List.map_cons, merge_flip n [] b (by simp at h ⊢; omega)]
    rfl
  | n + 1, x :: a, y :: b, h => by
    simp only [List.length_cons] at h
    have e1 := mergeQ_xy x y a b
    have e2 := mergeQ_xy y x b a
    by_cases h1 : ltS x.1 y.1 = true
    · rw [if_pos h1] at e1
      rw [if_neg (by rw [ltS_asymm h1]; decide), if_pos h1] at e2
      rw [e1, e2, List.map_cons, merge_flip n a (y :: b) (by simp; omega)]
      rfl
    · by_cases h2 : ltS y.1 x.1 = true
      · rw [if_neg h1, if_pos h2] at e1
        rw [if_pos h2] at e2
        rw [e1, e2, List.map_cons, merge_flip n (x :: a) b (by simp; omega)]
        rfl
      · rw [if_neg h1, if_neg h2] at e1
        rw [if_neg h2, if_neg h1] at e2
        have hn : x.1 = y.1 := bytes_ext (ltS_three (by simpa using h1) (by simpa using h2))
        by_cases h3 : x.2 = y.2
        · rw [if_pos h3] at e1
          rw [if_pos h3.symm] at e2
          rw [e1, e2, merge_flip n a b (by omega)]
        · rw [if_neg h3] at e1
          rw [if_neg (fun e => h3 e.symm)] at e2
          rw [e1, e2, List.map_cons, merge_flip n a b (by omega)]
          simp only [tBoth, flipT, hn]
set_option maxRecDepth 100000 in
set_option maxHeartbeats 16000000 in
theorem laidlaw_any (w : World) (b : Bool) (l : List RootT) (ss : List StepT) (A1 : Option Addr) (n1 c1 : Nat) (A2 : Option Addr) (n2 c2 : Nat) (p q : Nat) (hp64 : p < 18446744073709551616) (hq64 : q < 18446744073709551616) (hl : l.length = n1) (hs : ss.length = n2) (hR : RowR w w.heap.size A1 l) (hS : RowS w w.heap.size A2 ss) (ht : n1 ≤ 4096 → totS l ≤ 4611686018427387904) :
    Calls Try.prog 7 #[.agg (encX b A1 n1 c1 A2 n2 c2), .int .u64 (p : Int), .int .u64 (q : Int)] w fun e w' => e = .returned (.bool true) ∧ Below w.heap.size w w' := by
  obtain ⟨w0, hw0⟩ : ∃ w0, w.alloc (.cells (encX b A1 n1 c1 A2 n2 c2) 27) = w0 := ⟨_, rfl⟩
  have hb0 : Hid (Below w.heap.size w w0) := Lib.hid (by rw [← hw0]; exact (Below.refl _ _).alloc (Nat.le_refl _) _)
  have hx0 : w0.heap[w.heap.size]? = some (.cells (encX b A1 n1 c1 A2 n2 c2) 27 (0, 0)) := by rw [← hw0]; exact heap_alloc_new w _
  have hlt : Hid (w.heap.size < w0.heap.size) := Lib.hid (Array.getElem?_eq_some_iff.1 hx0).1
  have hi3 : Hid ((Try.prog.info? 27).map (·.size) = some 3) := Lib.hid (by kernel_rfl)
  have hi37 : Hid ((Try.prog.info? 41).map (·.size) = some 37) := Lib.hid (by kernel_rfl)
  have l37 : Hid (∀ s : StepT, (encS s).length = 37) := Lib.hid encS_length
  have hrow : Hid (∀ W, Below w0.heap.size w0 W → W.rangeAt w.heap.size 0 [Value.bool b, .slice A1 n1 c1, .slice A2 n2 c2]) := Lib.hid fun W hW => range_below hlt.out (range_blk hx0) hW
  have hc2 : Hid (∀ W, Below w0.heap.size w0 W → W.cell? ⟨w.heap.size, 2, none⟩ = some (.slice A2 n2 c2)) := Lib.hid fun W hW => (hW.cell (p := ⟨w.heap.size, 2, none⟩) hlt.out).trans (scr_c2 hx0)
  have hsm := Lib.hid fun W => small_any W b A1 n1 c1 A2 n2 c2
  clear hx0
  by_cases hq : n2 ≤ 4096 ∧ n1 ≤ 4096
  · rw [decide_eq_true hq] at hsm
    have hR0 : Hid (∀ W, Below w0.heap.size w0 W → RowR W W.heap.size A1 l) := Lib.hid fun W hW => RowR.up (B := w.heap.size) (Rd.below hR (hb0.out.trans (hW.mono hb0.out.size))) (by have := hb0.out.size; have := hW.size; omega)
    have hmd : Hid (∀ W, Below w0.heap.size w0 W → Calls Try.prog 13 #[.agg (encX b A1 n1 c1 A2 n2 c2)] W (MadeP W b l)) := Lib.hid fun W hW => made_any W b l A1 n1 c1 A2 n2 c2 hl hq.2 (hR0.out W hW) (ht hq.2)
    have hn2 := hq.1
    have hs' := Lib.hid hs
    have hS' : Hid (RowS w0 w.heap.size A2 ss) := Lib.hid (Rd.below hS hb0.out)
    clear hq hl hs hR hS ht
    cases hQ : madeQ b l with
    | none =>
      have hmn : Hid (∀ W, Below w0.heap.size w0 W → Calls Try.prog 13 #[.agg (encX b A1 n1 c1 A2 n2 c2)] W fun e w' => e = .returned (.tuple #[.pointer none, .pointer none, .bool true]) ∧ Below W.heap.size W w') := Lib.hid fun W hW => (hmd.out W hW).mono (by
        rintro e w' ⟨h1 | h1, h2⟩
        · obtain ⟨l0, h3, _⟩ := h1
          rw [hQ] at h3
          cases h3
        · exact ⟨h1.2, h2⟩)
      clear hQ hmd
      go_enter Try.func7, Try.ntmps7
      go_wp2_with (first
        | (refine wpList_load_mid rfl 27 _ rfl w.heap.size 0 rfl [Value.bool b, .slice A1 n1 c1, .slice A2 n2 c2] _ (hrow.out _ (Below.refl _ _)) Try.underlying27 rfl hi3.out ?_)
        | (go_at_call 12; refine (hsm.out _).mono ?_; rintro e w1 ⟨rfl, hb⟩; have hd1 : Hid (Below w0.heap.size w0 w1) := Lib.hid hb; clear hb)
        | (refine wpList_load_mid rfl 27 _ rfl w.heap.size 0 rfl [Value.bool b, .slice A1 n1 c1, .slice A2 n2 c2] _ (hrow.out _ hd1.out) Try.underlying27 rfl hi3.out ?_)
        | (go_at_call 13; refine (hmn.out _ hd1.out).mono ?_; rintro e w2 ⟨rfl, hb⟩; have hd2 : Hid (Below w0.heap.size w0 w2) := Lib.hid (hd1.out.trans (hb.mono hd1.out.size)); clear hb))
      go_ret
      exact ⟨rfl, hb0.out.trans (hd2.out.mono hb0.out.size)⟩
    | some l0 =>
      have hmn : Hid (∀ W, Below w0.heap.size w0 W → Calls Try.prog 13 #[.agg (encX b A1 n1 c1 A2 n2 c2)] W fun e w' => ∃ g g', e = .returned (.tuple #[.pointer (some ⟨g, 0, none⟩), .pointer (some ⟨g', 0, none⟩), .bool true]) ∧ One w0 w' g [l0]) := Lib.hid fun W hW => (hmd.out W hW).mono (by
        rintro e w' ⟨h1 | h1, h2⟩
        · obtain ⟨l1, h3, g, g', A, A', h4, h5, h6⟩ := h1
          rw [hQ] at h3
          cases h3
          have hlo : Below w0.heap.size w0 w' := hW.trans (h2.mono hW.size)
          exact ⟨g, g', h4, ⟨hlo, A, h5.base hW.size⟩⟩
        · rw [hQ] at h1
          cases h1.1)
      clear hQ hmd
      go_enter Try.func7, Try.ntmps7
      go_wp2_with (first
        | (refine wpList_load_mid rfl 27 _ rfl w.heap.size 0 rfl [Value.bool b, .slice A1 n1 c1, .slice A2 n2 c2] _ (hrow.out _ (Below.refl _ _)) Try.underlying27 rfl hi3.out ?_)
        | (go_at_call 12; refine (hsm.out _).mono ?_; rintro e w1 ⟨rfl, hb⟩; have hd1 : Hid (Below w0.heap.size w0 w1) := Lib.hid hb; clear hb)
        | (refine wpList_load_mid rfl 27 _ rfl w.heap.size 0 rfl [Value.bool b, .slice A1 n1 c1, .slice A2 n2 c2] _ (hrow.out _ hd1.out) Try.underlying27 rfl hi3.out ?_)
        | (go_at_call 13; refine (hmn.out _ hd1.out).mono ?_; rintro e w2 ⟨g, g', rfl, hb⟩; have hT2 := Lib.hid hb; clear hb))
      have hzt := zeroTn
      have l67 : Hid (∀ t : TurnT, (encT t).length = 67) := Lib.hid encT_length
      have a67 : Hid (∀ t : TurnT, (encT t).toArray.size = 67) := Lib.hid fun k => by simp [encT_length]
      have hi67 : Hid ((Try.prog.info? 55).map (·.size) = some 67) := Lib.hid (by kernel_rfl)
      have oneT := Lib.hid encT_all
      have l32 : Hid (∀ k : RKey, (encKy k).length = 32) := Lib.hid encKy_length
      have hi32 : Hid ((Try.prog.info? 35).map (·.size) = some 32) := Lib.hid (by kernel_rfl)
      go_loopw [10] (fun i wr => ∃ (k : Nat) (L : Lists), k ≤ n2 ∧ i = .int .i64 k ∧ Hid (L.length ≤ k + 1) ∧ Hid (One w0 wr g L)) (fun i _ => n2 - (intOf i).toNat)
      case atStart => exact ⟨0, [l0], by omega, rfl, Lib.hid (by simp), hT2⟩
      case round =>
        obtain ⟨k, L, hk, rfl, hLk, hT⟩ := hrel
        have cc2 := hc2.out _ hT.out.lo
        by_cases hlt2 : k < n2
        · obtain ⟨x, hx⟩ : ∃ x, ss[k]? = some x := ⟨_, List.getElem?_eq_getElem (by have := hs'.out; omega)⟩
          obtain ⟨b2, off, rfl, hbb, hrg⟩ := RowS.range hS'.out hx
          have hrg' : Hid (∀ W, Below w0.heap.size w0 W → W.rangeAt b2 (off + k * 37) (encS x)) := Lib.hid fun W hW => range_below (Nat.lt_trans hbb hlt.out) hrg hW
          obtain ⟨y, L2, hst⟩ : ∃ y L2, Hid (∀ _ : Unit, stepQ L x = (y, L2)) := ⟨_, _, Lib.hid fun _ => rfl⟩
          have hL2 : Hid (L2.length ≤ k + 2) := Lib.hid (by have := (stepQ_len L x).2; rw [hst.out ()] at this; have := hLk.out; simp only at *; omega)
          have hAs : Hid (Calls Try.prog 14 #[.pointer (some ⟨g, 0, none⟩), .agg (encS x).toArray] wr fun e w' => e = .returned (.agg (encA y).toArray) ∧ One w0 w' g L2) := Lib.hid (by
            refine (asked_one hT.out (by have := hLk.out; omega) x).mono ?_
            rw [hst.out ()]
            exact fun e w' h => ⟨h.1, h.2.1⟩)
          have glt : (k : Int) < (n2 : Int) := by omega
          have g0 : (0 : Int) ≤ (k : Int) := by omega
          clear hrg hx hbb
          go_wp2_with (first
            | (refine wpList_load_mid rfl 41 _ rfl b2 (off + k * 37) rfl (encS x) _ (hrg'.out _ hT.out.lo) Try.underlying41 rfl (by rw [l37.out]; exact hi37.out) ?_)
            | (go_at_call 14; refine hAs.out.mono ?_; rintro e w3 ⟨rfl, h3⟩; have hT3 := Lib.hid h3; clear h3))
          go_roundw
          case rel => exact ⟨k + 1, L2, by omega, by go_num, hL2, hT3⟩
          case measure => simp [intOf]; omega
        · have glt : ¬ ((k : Int) < (n2 : Int)) := by omega
          have hLn := Lib.hid (show L.length ≤ 4097 by have := hLk.out; omega)
          have hver := version_one hT.out
          have hok := Lib.hid hT.out.ok
          obtain ⟨N, hN⟩ : ∃ N, L.length = N := ⟨_, rfl⟩
          have hN0 : 0 < N := by rw [← hN]; exact hok.out.1
          have hNl : N ≤ 4097 := by rw [← hN]; exact hLn.out
          obtain ⟨N1, hN1⟩ : ∃ N1, N = N1 + 1 := ⟨N - 1, by omega⟩
          obtain ⟨pv, hpv⟩ : ∃ pv, p % N = pv := ⟨_, rfl⟩
          obtain ⟨qv, hqv⟩ : ∃ qv, q % N = qv := ⟨_, rfl⟩
          have hpl : pv < N := by rw [← hpv]; exact Nat.mod_lt _ hN0
          have hql : qv < N := by rw [← hqv]; exact Nat.mod_lt _ hN0
          obtain ⟨a, ha⟩ : ∃ a, L[pv]? = some a := ⟨_, List.getElem?_eq_getElem (by omega)⟩
          obtain ⟨bb, hbb⟩ : ∃ bb, L[qv]? = some bb := ⟨_, List.getElem?_eq_getElem (by omega)⟩
          have oka := Lib.hid (hok.out.2 a (List.mem_of_getElem? ha))
          have okb := Lib.hid (hok.out.2 bb (List.mem_of_getElem? hbb))
          obtain ⟨d, hdd⟩ : ∃ d, mergeQ a bb = d := ⟨_, rfl⟩
          have hfl : mergeQ bb a = d.map flipT := by rw [← hdd]; exact merge_flip _ a bb (Nat.le_refl _)
          obtain ⟨na, hna⟩ : ∃ na, a.length = na := ⟨_, rfl⟩
          obtain ⟨nb, hnb⟩ : ∃ nb, bb.length = nb := ⟨_, rfl⟩
          obtain ⟨nd, hnd⟩ : ∃ nd, d.length = nd := ⟨_, rfl⟩
          have hV : Hid (∀ W, One w0 W g L → Calls Try.prog 18 #[.pointer (some ⟨g, 0, none⟩)] W fun e w' => e = .returned (.int .u64 (N1 : Nat)) ∧ Below W.heap.size W w') := Lib.hid fun W hW => by
            have := version_one hW
            rwa [show L.length - 1 = N1 by omega] at this
          have hA1 : Hid (∀ W, One w0 W g L → Calls Try.prog 19 #[.pointer (some ⟨g, 0, none⟩), .int .u64 (pv : Int)] W fun e w' => ∃ A' c', e = .returned (.tuple #[.slice A' na c', .int .i64 0]) ∧ Own w' W.heap.size 61 33 A' na c' (rowsR a) ∧ Below W.heap.size W w') := Lib.hid fun W hW => by
            have := at_one hW pv ha
            rwa [hna] at this
          have hA2 : Hid (∀ W, One w0 W g L → Calls Try.prog 19 #[.pointer (some ⟨g, 0, none⟩), .int .u64 (qv : Int)] W fun e w' => ∃ A' c', e = .returned (.tuple #[.slice A' nb c', .int .i64 0]) ∧ Own w' W.heap.size 61 33 A' nb c' (rowsR bb) ∧ Below W.heap.size W w') := Lib.hid fun W hW => by
            have := at_one hW qv hbb
            rwa [hnb] at this
          have hT1 : Hid (∀ W, One w0 W g L → Calls Try.prog 22 #[.pointer (some ⟨g, 0, none⟩), .int .u64 (pv : Int), .int .u64 (qv : Int)] W fun e w' => ∃ A' c', e = .returned (.tuple #[.slice A' nd c', .int .i64 0]) ∧ Own w' W.heap.size 55 67 A' nd c' (rowsT d) ∧ Below W.heap.size W w') := Lib.hid fun W hW => by
            have := turns_one hW pv qv ha hbb
            rwa [hdd, hnd] at this
          have hT2 : Hid (∀ W, One w0 W g L → Calls Try.prog 22 #[.pointer (some ⟨g, 0, none⟩), .int .u64 (qv : Int), .int .u64 (pv : Int)] W fun e w' => ∃ A' c', e = .returned (.tuple #[.slice A' nd c', .int .i64 0]) ∧ Own w' W.heap.size 55 67 A' nd c' (rowsT (d.map flipT)) ∧ Below W.heap.size W w') := Lib.hid fun W hW => by
            have := turns_one hW qv pv hbb ha
            rwa [hfl, List.length_map, hnd] at this
          have hLd : Hid (∀ (W : World) (A1 A2 : Option Addr) (c1 c2 B1 B2 : Nat), Own W B1 61 33 A1 na c1 (rowsR a) → Own W B2 55 67 A2 nd c2 (rowsT d) → Calls Try.prog 23 #[.slice A1 na c1, .slice A2 nd c2] W fun e w' => e = .returned (.tuple #[.string (listS bb), .bool true]) ∧ Below W.heap.size W w') := Lib.hid fun W A1 A2 c1 c2 B1 B2 o1 o2 =>
            laid_any W a bb oka.out.1 okb.out.1 oka.out.2 okb.out.2 d hdd A1 A2 na c1 nd c2 hna hnd (RowR.of_own (by rw [hna]; exact o1)) (RowT.of_own (by rw [hnd]; exact o2))
          have hLi : Hid (∀ (W : World) (A : Option Addr) (c B : Nat), Own W B 61 33 A nb c (rowsR bb) → Calls Try.prog 16 #[.slice A nb c] W fun e w' => e = .returned (.string (listS bb)) ∧ Below W.heap.size W w') := Lib.hid fun W A c B ho => listed_own W bb okb.out.1 okb.out.2 A nb c B hnb ho
          obtain ⟨tx, htx⟩ : ∃ tx, Hid (∀ _ : Unit, listS bb = tx) := ⟨_, Lib.hid fun _ => rfl⟩
          rw [htx.out ()] at hLd hLi
          have hnd' := Lib.hid hnd
          have hnd128 : nd ≤ 128 := by
            have h1 := mergeQ_len _ a bb (Nat.le_refl _)
            have h2 := oka.out.2
            have h3 := okb.out.2
            rw [hdd] at h1
            omega
          have eN : (N1 : Int) + 1 = (N : Int) := by omega
          have wN : IntKind.u64.wrap (N : Int) = (N : Int) := by rw [IntKind.wrap_u64]; omega
          have zN : ¬ (N : Int) = 0 := by omega
          have zN2 : ((N : Int) == 0) = false := by simp; omega
          have mp : (p : Int).tmod (N : Int) = (pv : Int) := by rw [← hpv]; rfl
          have mq : (q : Int).tmod (N : Int) = (qv : Int) := by rw [← hqv]; rfl
          have mp2 : (p : Int) % (N : Int) = (pv : Int) := by rw [← hpv]; rfl
          have mq2 : (q : Int) % (N : Int) = (qv : Int) := by rw [← hqv]; rfl
          have wp : IntKind.u64.wrap (pv : Int) = (pv : Int) := by rw [IntKind.wrap_u64]; omega
          have wq : IntKind.u64.wrap (qv : Int) = (qv : Int) := by rw [IntKind.wrap_u64]; omega
          clear hver hN hN1 hpv hqv ha hbb hdd hfl hna hnb hnd
          go_wp2_with (first
            | (go_at_call 18; first
                | (refine (hV.out _ hT.out).mono ?_; rintro e w3 ⟨rfl, hb⟩; have hT3 := Lib.hid (hT.out.below hb); clear hb hT)
                | (refine (hV.out _ hT3.out).mono ?_; rintro e w4 ⟨rfl, hb⟩; have hT4 := Lib.hid (hT3.out.below hb); clear hb))
            | (go_at_call 19
               refine (hA1.out _ hT4.out).mono ?_
               rintro e w5 ⟨A5, c5, rfl, ho, hb⟩
               have hT5 := Lib.hid (hT4.out.below hb)
               have oa5 := Lib.hid ho
               clear ho hb hT4)
            | (go_at_call 19
               refine (hA2.out _ hT5.out).mono ?_
               rintro e w6 ⟨A6, c6, rfl, ho, hb⟩
               have hT6 := Lib.hid (hT5.out.below hb)
               have oa6 := Lib.hid (oa5.out.below hb fun j hj => (oa5.out.lt j hj).2)
               have ob6 := Lib.hid ho
               clear ho hb)
            | (go_at_call 22
               refine (hT1.out _ hT6.out).mono ?_
               rintro e w7 ⟨A7, c7, rfl, ho, hb⟩
               have hT7 := Lib.hid (hT6.out.below hb)
               have oa7 := Lib.hid (oa6.out.below hb fun j hj => (oa6.out.lt j hj).2)
               have ob7 := Lib.hid (ob6.out.below hb fun j hj => (ob6.out.lt j hj).2)
               have od7 := Lib.hid ho
               clear ho hb hT6)
            | (go_at_call 22
               refine (hT2.out _ hT7.out).mono ?_
               rintro e w8 ⟨A8, c8, rfl, ho, hb⟩
               have hT8 := Lib.hid (hT7.out.below hb)
               have oa8 := Lib.hid (oa7.out.below hb fun j hj => (oa7.out.lt j hj).2)
               have ob8 := Lib.hid (ob7.out.below hb fun j hj => (ob7.out.lt j hj).2)
               have od8 := Lib.hid (od7.out.below hb fun j hj => (od7.out.lt j hj).2)
               have oe8 := Lib.hid ho
               clear ho hb))
          go_loopw [19] (fun i wr => ∃ k : Nat, k ≤ nd ∧ i = .int .i64 (k : Int) ∧ Hid (Below w8.heap.size w8 wr)) (fun i _ => nd - (intOf i).toNat)
          case atStart => exact ⟨0, by omega, rfl, Lib.hid (Below.refl _ _)⟩
          case round =>
            obtain ⟨k, hk, rfl, hB⟩ := hrel
            by_cases hkn : k < nd
            · obtain ⟨t, ht⟩ : ∃ t, d[k]? = some t := ⟨_, List.getElem?_eq_getElem (by have := hnd'.out; omega)⟩
              have hy : (d.map flipT)[k]? = some (flipT t) := by simp [ht]
              obtain ⟨bd, od, rfl, hbd, hrgd⟩ := RowT.range (RowT.of_own (w := wr) (c := c7) (by rw [hnd'.out]; exact od8.out.below hB.out fun j hj => (od8.out.lt j hj).2)) ht
              obtain ⟨be, oe, rfl, hbe, hrge⟩ := RowT.range (RowT.of_own (w := wr) (c := c8) (by rw [List.length_map, hnd'.out]; exact oe8.out.below hB.out fun j hj => (oe8.out.lt j hj).2)) hy
              have hrge' := Lib.hid hrge
              have hrT : Hid (∀ W, Below wr.heap.size wr W → W.rangeAt bd (od + k * 67) (encT t)) := Lib.hid fun W hW => range_below hbd hrgd hW
              obtain ⟨y, hyt⟩ : ∃ y, flipT t = y := ⟨_, rfl⟩
              have yN : Hid (y.name = t.name) := Lib.hid (by rw [← hyt]; rfl)
              have yH : Hid (y.had = t.has) := Lib.hid (by rw [← hyt]; rfl)
              have yS : Hid (y.has = t.had) := Lib.hid (by rw [← hyt]; rfl)
              have yO : Hid (y.old = t.new) := Lib.hid (by rw [← hyt]; rfl)
              have yW : Hid (y.new = t.old) := Lib.hid (by rw [← hyt]; rfl)
              rw [hyt] at hrge'
              have glt : (k : Int) < (nd : Int) := by omega
              have g0 : (0 : Int) ≤ (k : Int) := by omega
              clear ht hy hrge hrgd hbe hyt hbd
              go_wp2_with (first
                | (refine wpList_load_mid rfl 55 _ rfl be (oe + k * 67) rfl (encT y) _ hrge'.out Try.underlying55 rfl (by rw [l67.out]; exact hi67.out) ?_)
                | (refine wpList_store_mid rfl 55 _ _ rfl wr.heap.size 0 (encT y).toArray rfl rfl (by rw [a67.out]; exact (TA.new wr zT).there) (by rw [a67.out]; exact hi67.out) (oneT.out _) ?_
                   rw [List.toList_toArray]
                   obtain ⟨wq, hwq⟩ : ∃ wq, (wr.alloc (.cells (encT zT).toArray 55)).setCells wr.heap.size 0 (encT y) = wq := ⟨_, rfl⟩
                   obtain ⟨M, hM0⟩ : ∃ M, wr.heap.size = M := ⟨_, rfl⟩
                   have hbq : Hid (Below wr.heap.size wr wq) := Lib.hid (by rw [← hwq]; exact belTA (Nat.le_refl _) _ _ _ ((Below.refl _ _).alloc (Nat.le_refl _) _))
                   have hTA : Hid (TA wq M y) := Lib.hid (by rw [← hwq, ← hM0]; exact (TA.new wr zT).all y)
                   have hMq : Hid (M < wq.heap.size) := Lib.hid (by rw [← hwq, ← hM0, setCells_heap_size]; simp)
                   rw [hwq, hM0]
                   clear hwq hM0))
              have hrO : Hid (∀ W, Below wq.heap.size wq W → W.rangeAt M 3 (encKy t.new)) := Lib.hid fun W hW => by
                have := (hTA.out.below hW hMq.out).old
                rwa [yO.out] at this
              have hrN : Hid (∀ W, Below wq.heap.size wq W → W.rangeAt M 35 (encKy t.old)) := Lib.hid fun W hW => by
                have := (hTA.out.below hW hMq.out).new_
                rwa [yW.out] at this
              have hcN : Hid (∀ W, Below wq.heap.size wq W → W.cell? ⟨M, 0, none⟩ = some (.string t.name)) := Lib.hid fun W hW => (hTA.out.below hW hMq.out).nm.trans (by rw [yN.out])
              have hcH : Hid (∀ W, Below wq.heap.size wq W → W.cell? ⟨M, 1, none⟩ = some (.bool t.has)) := Lib.hid fun W hW => (hTA.out.below hW hMq.out).hd.trans (by rw [yH.out])
              have hcS : Hid (∀ W, Below wq.heap.size wq W → W.cell? ⟨M, 2, none⟩ = some (.bool t.had)) := Lib.hid fun W hW => (hTA.out.below hW hMq.out).hs.trans (by rw [yS.out])
              have hrTq : Hid (∀ W, Below wq.heap.size wq W → W.rangeAt bd (od + k * 67) (encT t)) := Lib.hid fun W hW => hrT.out W (hbq.out.trans (hW.mono hbq.out.size))
              have hneT : ∀ W, (binOp .neq 55 (.agg (encT t).toArray) (.agg (encT ⟨t.name, t.had, t.has, t.old, t.new⟩).toArray)).run Try.prog W = .ok (.bool false) W := fun W => by rw [neT]; simp
              have hguT := guT
              have hd : Hid (Below wq.heap.size wq (World.drew wq)) := Lib.hid (below_drewN (Below.refl _ _) 1)
              refine wp_region_held (S := fun W => Below wq.heap.size wq W) (by kernel_rfl) ?_
              change wpAnyH _ _ _ _ _ _ _ _ (World.drew _)
              refine takeD (i := 0) (d := 119) (v := .slice (some ⟨bd, od, none⟩) nd c7) rfl rfl (by kernel_rfl) (by kernel_rfl) (by kernel_rfl) (fun _ _ _ h => h) (Or.inl ⟨by rfl, by intro W hW; clear hW; go_simp⟩) hd.out ?_
              simp only [List.setIfInBounds_toArray, List.set_cons_zero, List.set_cons_succ]
              refine takeD (i := 1) (d := 120) (v := .int .i64 (k : Int)) rfl rfl (by kernel_rfl) (by kernel_rfl) (by kernel_rfl) (fun _ _ _ h => h) (Or.inl ⟨by rfl, by intro W hW; clear hW; go_simp⟩) hd.out ?_
              simp only [List.setIfInBounds_toArray, List.set_cons_zero, List.set_cons_succ]
              refine takeD (i := 2) (d := 121) (v := .pointer (some ⟨bd, od + k * 67, none⟩)) rfl rfl (by kernel_rfl) (by kernel_rfl) (by kernel_rfl) (fun _ _ _ h => h) (Or.inl ⟨by rfl, by intro W hW; clear hW; go_simp⟩) hd.out ?_
              simp only [List.setIfInBounds_toArray, List.set_cons_zero, List.set_cons_succ]
              refine takeD (i := 3) (d := 122) rfl rfl (by kernel_rfl) (by kernel_rfl) (by kernel_rfl) (fun _ _ _ h => h) (yieldsIf_load_mid (by rfl) 55 _ rfl bd (od + k * 67) rfl (encT t) _ hrTq.out Try.underlying55 rfl (by rw [l67.out]; exact hi67.out)) hd.out ?_
              simp only [List.setIfInBounds_toArray, List.set_cons_zero, List.set_cons_succ]
              refine takeD (i := 4) (d := 123) (v := .pointer (some ⟨M, 0, none⟩)) rfl rfl (by kernel_rfl) (by kernel_rfl) (by kernel_rfl) (fun _ _ _ h => h) (Or.inl ⟨by rfl, by intro W hW; clear hW; go_simp⟩) hd.out ?_
              simp only [List.setIfInBounds_toArray, List.set_cons_zero, List.set_cons_succ]
              refine takeD (i := 5) (d := 124) (v := .string t.name) rfl rfl (by kernel_rfl) (by kernel_rfl) (by kernel_rfl) (fun _ _ _ h => h) (Or.inl ⟨by rfl, by intro W hW; have cc := hcN.out W hW; clear hW; go_simp⟩) hd.out ?_
              simp only [List.setIfInBounds_toArray, List.set_cons_zero, List.set_cons_succ]
              refine takeD (i := 6) (d := 125) (v := .pointer (some ⟨M, 2, none⟩)) rfl rfl (by kernel_rfl) (by kernel_rfl) (by kernel_rfl) (fun _ _ _ h => h) (Or.inl ⟨by rfl, by intro W hW; clear hW; go_simp⟩) hd.out ?_
              simp only [List.setIfInBounds_toArray, List.set_cons_zero, List.set_cons_succ]
              refine takeD (i := 7) (d := 126) (v := .bool t.had) rfl rfl (by kernel_rfl) (by kernel_rfl) (by kernel_rfl) (fun _ _ _ h => h) (Or.inl ⟨by rfl, by intro W hW; have cc := hcS.out W hW; clear hW; go_simp⟩) hd.out ?_
              simp only [List.setIfInBounds_toArray, List.set_cons_zero, List.set_cons_succ]
              refine takeD (i := 8) (d := 127) (v := .pointer (some ⟨M, 1, none⟩)) rfl rfl (by kernel_rfl) (by kernel_rfl) (by kernel_rfl) (fun _ _ _ h => h) (Or.inl ⟨by rfl, by intro W hW; clear hW; go_simp⟩) hd.out ?_
              simp only [List.setIfInBounds_toArray, List.set_cons_zero, List.set_cons_succ]
              refine takeD (i := 9) (d := 128) (v := .bool t.has) rfl rfl (by kernel_rfl) (by kernel_rfl) (by kernel_rfl) (fun _ _ _ h => h) (Or.inl ⟨by rfl, by intro W hW; have cc := hcH.out W hW; clear hW; go_simp⟩) hd.out ?_
              simp only [List.setIfInBounds_toArray, List.set_cons_zero, List.set_cons_succ]
              refine takeD (i := 10) (d := 129) (v := .pointer (some ⟨M, 35, none⟩)) rfl rfl (by kernel_rfl) (by kernel_rfl) (by kernel_rfl) (fun _ _ _ h => h) (Or.inl ⟨by rfl, by intro W hW; clear hW; go_simp⟩) hd.out ?_
              simp only [List.setIfInBounds_toArray, List.set_cons_zero, List.set_cons_succ]
              refine takeD (i := 11) (d := 130) rfl rfl (by kernel_rfl) (by kernel_rfl) (by kernel_rfl) (fun _ _ _ h => h) (yieldsIf_load_mid (by rfl) 35 _ rfl M 35 rfl (encKy t.old) _ hrN.out Try.underlying35 rfl (by rw [l32.out]; exact hi32.out)) hd.out ?_
              simp only [List.setIfInBounds_toArray, List.set_cons_zero, List.set_cons_succ]
              refine takeD (i := 12) (d := 131) (v := .pointer (some ⟨M, 3, none⟩)) rfl rfl (by kernel_rfl) (by kernel_rfl) (by kernel_rfl) (fun _ _ _ h => h) (Or.inl ⟨by rfl, by intro W hW; clear hW; go_simp⟩) hd.out ?_
              simp only [List.setIfInBounds_toArray, List.set_cons_zero, List.set_cons_succ]
              refine takeD (i := 13) (d := 132) rfl rfl (by kernel_rfl) (by kernel_rfl) (by kernel_rfl) (fun _ _ _ h => h) (yieldsIf_load_mid (by rfl) 35 _ rfl M 3 rfl (encKy t.new) _ hrO.out Try.underlying35 rfl (by rw [l32.out]; exact hi32.out)) hd.out ?_
              simp only [List.setIfInBounds_toArray, List.set_cons_zero, List.set_cons_succ]
              refine takeD (i := 14) (d := 133) rfl rfl (by kernel_rfl) (by kernel_rfl) (by kernel_rfl) (fun _ _ _ h => h) (yieldsIf_build (by rfl) 55 _ rfl #[(0, .string t.name), (1, .bool t.had), (2, .bool t.has), (3, .agg (encKy t.old).toArray), (4, .agg (encKy t.new).toArray)] (by rw [List.map_toArray]; rfl) _ (fun W _ => buildTn t.name t.had t.has t.old t.new W)) hd.out ?_
              simp only [List.setIfInBounds_toArray, List.set_cons_zero, List.set_cons_succ]
              refine takeD (i := 15) (d := 134) (v := .bool false) rfl rfl (by kernel_rfl) (by kernel_rfl) (by kernel_rfl) (fun _ _ _ h => h) (Or.inl ⟨by rfl, by intro W hW; clear hW; go_simp⟩) hd.out ?_
              simp only [List.setIfInBounds_toArray, List.set_cons_zero, List.set_cons_succ]
              refine wpAnyH_done (by kernel_rfl) ?_ _
              obtain ⟨w9, hw9⟩ : ∃ w9, World.drew wq = w9 := ⟨_, rfl⟩
              have hb9 : Hid (Below wq.heap.size wq w9) := Lib.hid (by rw [← hw9]; exact below_drewN (Below.refl _ _) 1)
              rw [hw9]
              clear hw9 hneT hguT
              go_wp2_with fail
              go_roundw
              case rel => exact ⟨k + 1, by omega, by go_num, Lib.hid (hB.out.trans ((hbq.out.trans (hb9.out.mono hbq.out.size)).mono hB.out.size))⟩
              case measure => simp [intOf]; omega
            · have glt : ¬ ((k : Int) < (nd : Int)) := by omega
              have oaz := Lib.hid (oa8.out.below hB.out fun j hj => (oa8.out.lt j hj).2)
              have obz := Lib.hid (ob8.out.below hB.out fun j hj => (ob8.out.lt j hj).2)
              have odz := Lib.hid (od8.out.below hB.out fun j hj => (od8.out.lt j hj).2)
              have hlo := Lib.hid (hT8.out.lo.trans (hB.out.mono hT8.out.lo.size))
              go_wp2_with (first
                | (go_at_call 23
                   refine (hLd.out _ _ _ _ _ _ _ oaz.out odz.out).mono ?_
                   rintro e wx ⟨rfl, hb⟩
                   have obx := Lib.hid (obz.out.below hb fun j hj => (obz.out.lt j hj).2)
                   have hlx := Lib.hid (hlo.out.trans (hb.mono hlo.out.size))
                   clear hb)
                | (go_at_call 16
                   refine (hLi.out _ _ _ _ obx.out).mono ?_
                   rintro e wy ⟨rfl, hb⟩
                   have hly := Lib.hid (hlx.out.trans (hb.mono hlx.out.size))
                   clear hb))
              go_ret
              exact ⟨rfl, hb0.out.trans (hly.out.mono hb0.out.size)⟩
  · rw [decide_eq_false hq] at hsm
    clear hq hl hs hR hS ht
    go_enter Try.func7, Try.ntmps7
    go_wp2_with (first
      | (refine wpList_load_mid rfl 27 _ rfl w.heap.size 0 rfl [Value.bool b, .slice A1 n1 c1, .slice A2 n2 c2] _ (hrow.out _ (Below.refl _ _)) Try.underlying27 rfl hi3.out ?_)
      | (go_at_call 12; refine (hsm.out _).mono ?_; rintro e w1 ⟨rfl, hb⟩; have hb1 := Lib.hid hb; clear hb))
    go_ret
    exact ⟨rfl, hb0.out.trans (hb1.out.mono hb0.out.size)⟩
end Go.Proofs.Ytakcnkmlglkkpaa

namespace Go.Proofs.Ytakcnkmlglkkpaa
open Go.RowKit Go.ChangeShapes Go.WideShapes

theorem u64_open {H : Type} {enc : TypeId × Value → H} {W : World} {base : Nat} {v : Value} {d : DataW H} {p : List MemPlace} (o : Value.okWide Try.prog W .any base 36 v) (h : DataW.Trod enc Try.prog W 0 (fun _ => true) true 36 v d p) :
    ∃ n : Nat, v = .int .u64 (n : Int) ∧ n < 18446744073709551616 := by
  obtain ⟨z, rfl⟩ := okWide_int Try.underlying36 o
  obtain ⟨fuel, hf⟩ := h
  obtain ⟨n, hn, hl⟩ := cells_u64 Try.underlying36 hf
  refine ⟨n, ?_, hl⟩
  simpa [Value.cells] using hn
theorem rootsLaid_calls {H : Type} {enc : TypeId × Value → H} (W : World) (base : Nat) (v0 v1 v2 : Value) (d0 d1 d2 : DataW H) (p0 p1 p2 : List MemPlace)
    (o0 : Value.okWide Try.prog W .any base 27 v0) (h0 : DataW.Trod enc Try.prog W 0 (fun _ => true) true 27 v0 d0 p0)
    (o1 : Value.okWide Try.prog W .any base 36 v1) (h1 : DataW.Trod enc Try.prog W 0 (fun _ => true) true 36 v1 d1 p1)
    (o2 : Value.okWide Try.prog W .any base 36 v2) (h2 : DataW.Trod enc Try.prog W 0 (fun _ => true) true 36 v2 d2 p2)
    (hsz : (DataW.weightsEach Try.prog [27, 36, 36] [d0, d1, d2]).all (· ≤ reachBytes) = true) :
    Calls Try.prog 7 #[v0, v1, v2] W fun e W' => e = .returned (.bool true) ∧ Below W.heap.size W W' := by
  obtain ⟨b, l, ss, A1, A2, c1, c2, rfl, r1, r2, ht⟩ := script_open W base v0 d0 p0 o0 h0 (jj := 0) hsz rfl rfl
  obtain ⟨p, rfl, hp⟩ := u64_open o1 h1
  obtain ⟨q, rfl, hq⟩ := u64_open o2 h2
  exact laidlaw_any W b l ss A1 _ c1 A2 _ c2 p q hp hq rfl rfl r1 r2 ht
end Go.Proofs.Ytakcnkmlglkkpaa

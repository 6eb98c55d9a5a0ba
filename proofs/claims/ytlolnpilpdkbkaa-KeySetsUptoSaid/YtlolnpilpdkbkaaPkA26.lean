/- which, at sets that may be nil. (Printed by tools/gensko.py out of KyU.) -/
import Derived.Test.YtlolnpilpdkbkaaPkA25

namespace Go.Proofs.Ytlolnpilpdkbkaa
open Go.RowKit Go.Maps Go.Shelf
set_option linter.unusedSimpArgs false
set_option linter.unusedVariables false
attribute [local go_sem] Oper.semAt_some

set_option maxRecDepth 100000 in
set_option maxHeartbeats 4000000 in
theorem whichO_any (w : World) (oa ob : Option (Nat × Nat)) (ka kb : List (List Nat)) (ha : SetO w oa ka) (hb : SetO w ob kb) (hla : ka.length ≤ 2097152) (hlb : kb.length ≤ 2097152) (fT : Nat) (cT : Array Value) (t : List Nat → Bool) (hT : TakeAt w fT cT t)
    (eT : ∀ args w, (callFunc fT args).run Try.prog w = .ok (.enter fT args) w) :
    Calls Try.prog 32 #[pv oa, pv ob, .func (.func fT) #[] cT] w (WhichP w (takeK t kb (takeK t ka []))) := by
  obtain ⟨w1, hw1⟩ : ∃ w1, w.alloc (.cells #[.func (.func fT) #[] cT] 40) = w1 := ⟨_, rfl⟩
  have hB1 : Hid (Below w.heap.size w w1) := Lib.hid (by rw [← hw1]; exact (Below.refl _ _).alloc (Nat.le_refl _) _)
  have h51 : Hid (w1.heap[w.heap.size]? = some (.cells #[.func (.func fT) #[] cT] 40 (0, 0))) := Lib.hid (by rw [← hw1]; exact heap_alloc_new w _)
  have hN := Lib.hid (newK_any w1 none [] 0 0 rfl (by omega) (KeyRow.nil _ _))
  have hT' := Lib.hid hT
  have ha' := Lib.hid ha
  have hb' := Lib.hid hb
  have hra : Hid (Rise32 ka) := Lib.hid ha.rise
  have hrb : Hid (Rise32 kb) := Lib.hid hb.rise
  have hi32 : Hid ((Try.prog.info? 25).map (·.size) = some 32) := Lib.hid (by kernel_rfl)
  have hzs : Hid ((u8s (zeros 32)).toArray.size = 32) := Lib.hid (by simp [u8s, zeros])
  have hzk := zeroKy
  have hw1' := Lib.hid hw1
  clear ha hb hT
  refine calls_marks Try.func32 rfl ?_
  simp only [Try.ntmps32, List.size_toArray, List.length_cons, List.length_nil, Nat.reduceAdd, Nat.reduceSub, Array.replicate_succ, Array.replicate_zero, List.push_toArray, List.append_toArray, List.nil_append, List.cons_append]
  have hbs : Hid (Try.prog.builtSlice 35 2 [(0, pv oa), (1, pv ob)] = some #[pv oa, pv ob]) := Lib.hid (by cases oa <;> cases ob <;> kernel_rfl)
  go_wp2_with (first
    | (refine Great.wpList_buildSliceTo rfl 94 35 2 _ rfl _ rfl _ rfl Try.underlying94 #[pv oa, pv ob] (by rw [List.map_toArray]; exact hbs.out) ?_)
    | (go_at_call 10; (first | rw [hw1] | skip); refine hN.out.mono ?_; rintro e w2 ⟨rfl, s2, b2⟩; have s2' := Lib.hid s2; have b2' := Lib.hid b2; clear s2 b2 hN))
  refine wp_loop_rounds 3 ?_
  rw [rounds_succ]
  go_wp2_with fail
  obtain ⟨cs, hcs⟩ : ∃ cs, #[pv oa, pv ob] = cs := ⟨_, rfl⟩
  obtain ⟨w3, hw3⟩ : ∃ w3, Hid (∀ _ : Unit, ((w2.alloc (.cells #[.pointer (some ⟨w1.heap.size + 1, 0, none⟩)] 35)).alloc (.cells #[pv oa, pv ob] 35)) = w3) := ⟨_, Lib.hid fun _ => rfl⟩
  have hWa : Hid (WhI w w2.heap.size w.heap.size (w1.heap.size + 1) w1.heap.size (w2.heap.size + 1) cs 0 (.func (.func fT) #[] cT) [] [] w3) := Lib.hid (by
    have hb2 : Below w.heap.size w w2 := hB1.out.trans (b2'.out.mono hB1.out.size)
    have hs2 := s2'.out.lts
    have h5 : w.heap.size < w1.heap.size := (Array.getElem?_eq_some_iff.1 h51.out).1
    have h6 : w2.heap[w.heap.size]? = some (.cells #[.func (.func fT) #[] cT] 40 (0, 0)) := (b2'.out.block _ h5).trans h51.out
    rw [← hw3.out ()]
    refine ⟨(hb2.alloc hb2.size _).alloc (by have := hb2.size; simp; omega) _, ?_, ?_, ?_, s2'.out.keep ?_ ?_, hB1.out.size, by simp⟩
    · rw [heap_alloc_old _ _ (by simp)]
      exact heap_alloc_new w2 _
    · have := hb2.size
      have := b2'.out.size
      rw [heap_alloc_old _ _ (by simp; omega), heap_alloc_old _ _ (by omega)]
      exact h6
    · rw [← hcs]
      have := heap_alloc_new (w2.alloc (.cells #[.pointer (some ⟨w1.heap.size + 1, 0, none⟩)] 35)) (.cells #[pv oa, pv ob] 35)
      simpa using this
    · rw [heap_alloc_old _ _ (by simp; omega), heap_alloc_old _ _ (by omega)]
    · rw [heap_alloc_old _ _ (by simp; omega), heap_alloc_old _ _ (by omega)])
  have hso : Hid (w.heap.size ≤ w1.heap.size + 1) := Lib.hid (by have := hB1.out.size; omega)
  have hcs' := Lib.hid hcs
  rw [hw3.out ()]
  generalize w1.heap.size + 1 = so at hWa hso ⊢
  generalize w1.heap.size = mo at hWa ⊢
  obtain ⟨g14, hg14⟩ : ∃ g14, w2.heap.size + 1 = g14 := ⟨_, rfl⟩
  rw [hg14] at hWa ⊢
  generalize w2.heap.size = g7 at hWa ⊢
  have hAa : Hid (∀ W, Below w.heap.size w W → Calls Try.prog 26 #[pv oa] W (AllP W ka)) := Lib.hid fun W hW => by
    exact allO_any W oa ka (ha'.out.below hW) (by omega)
  have hAb : Hid (∀ W, Below w.heap.size w W → Calls Try.prog 26 #[pv ob] W (AllP W kb)) := Lib.hid fun W hW => by
    exact allO_any W ob kb (hb'.out.below hW) (by omega)
  clear hcs hg14 hw3 s2' b2' h51 hB1 hw1 hw1'
  go_wp2_with (go_at_call 26; refine (hAa.out _ hWa.out.bel).mono ?_; rintro e va ⟨gIa, AIa, cIa, rfl, hata, hbla, hlga, hlAa⟩; have hata' := Lib.hid hata; have hbla' := Lib.hid hbla; have hlga' := Lib.hid hlga; have hlAa' := Lib.hid hlAa; clear hata hbla hlga hlAa)
  have hIa : Hid (WhI w g7 w.heap.size so mo g14 cs 0 (.func (.func fT) #[] cT) [] [] va) := Lib.hid (hWa.out.keep hbla'.out)
  have hszDa : Hid (w.heap.size ≤ va.heap.size) := Lib.hid hIa.out.bel.size
  have hmoa : Hid (mo < va.heap.size ∧ mo < w3.heap.size) := Lib.hid ⟨hIa.out.set.lts.2, hWa.out.set.lts.2⟩
  have hdsa : Hid (∀ E ∈ [], E < va.heap.size) := Lib.hid fun E hE => (Array.getElem?_eq_some_iff.1 (hIa.out.ds E hE)).1
  refine wp_rangeFunc (gf := 53) (lb := #[.pointer (some ⟨gIa, 0, none⟩)]) rfl (enters_of Try.func53 (by kernel_rfl) rfl) (encs := fun x : List Nat => #[Value.agg (u8s x).toArray]) (fun _ => rfl) (G := KyG ka) (fun h => h.2)
    (allK_seq va gIa cIa AIa ka (fun j => j = gIa ∨ blockOf AIa = some j) hata'.out hra.out (by omega) (Or.inl rfl) (fun j hj => Or.inr hj) (fun j hj => by rcases hj with rfl | hj; exact hata'.out.lts.1; exact hata'.out.lts.2 j hj)) (Mid.refl _ _) (fun j hj => by rcases hj with rfl | hj; exact hata'.out.lts.1; exact hata'.out.lts.2 j hj)
    (fun pre W => ∃ N, N ≤ pre.length + 0 ∧ WhI w g7 w.heap.size so mo g14 cs N (.func (.func fT) #[] cT) (takeK t pre []) [] W) (fun _ _ _ => False) ?_ (fun _ _ _ _ h _ => h) ?_ ⟨0, by simp, by simpa [takeK, insAll] using hIa.out⟩ ?_ ?_ (fun _ _ _ _ _ _ h _ => h.elim)
  · rintro pre W W' ⟨N, hN, h⟩ hp
    exact ⟨N, hN, h.puts hp hszDa.out hmoa.out.1 hdsa.out⟩
  · rintro pre W W' ⟨N, hN, h⟩ hb
    exact ⟨N, hN, h.keep hb⟩
  · rintro lp pre x W0 W1 hlp ⟨N, hN, hw0⟩ hlt ⟨hpre, hbel⟩
    have hxm : x ∈ ka := hpre.subset (by simp)
    have hxk : IsK x := hra.out.ok x hxm
    have hpl : pre.length + 1 ≤ ka.length := by have := hpre.length_le; simpa using this
    have hw1 := Lib.hid (hw0.keep hbel)
    have hN9 : Hid (N < 140737488355328) := Lib.hid (by omega)
    have hNs : Hid (N + 1 ≤ (pre ++ [x]).length + 0) := Lib.hid (by simp; omega)
    have hNs0 : Hid (N ≤ (pre ++ [x]).length + 0) := Lib.hid (by simp; omega)
    have hxs : Hid ((u8s x).toArray.size = 32) := Lib.hid (by simp [u8s, hxk.1])
    have hxk' := Lib.hid hxk
    have hkn := key_new W1 x
    have hkc := Lib.hid hkn.1
    have hbn := Lib.hid hkn.2
    have hw2 := Lib.hid (hw1.out.keep hbn.out)
    have hok1 : Hid (∀ j, (j = gIa ∨ blockOf AIa = some j) → j < W1.heap.size ∧ j ≠ mo) := Lib.hid fun j hj => by
      have h1 : j < va.heap.size ∧ w3.heap.size ≤ j := by
        rcases hj with rfl | hj
        · exact ⟨hata'.out.lts.1, hlga'.out⟩
        · exact ⟨hata'.out.lts.2 j hj, hlAa'.out j hj⟩
      have h2 := hbel.size
      have h3 := hmoa.out.2
      exact ⟨by omega, by omega⟩
    have hlt' := Lib.hid hlt
    have hbel' := Lib.hid hbel
    clear hxm hxk hpl hkn hN hw0 hpre hbel hlt
    gi_wp2_with (refine wpListIn_store_row (by rfl) 25 _ _ rfl W1.heap.size (u8s x).toArray rfl rfl 25 _ (heap_alloc_new W1 _) (by rw [hxs.out]; exact hi32.out) (by rw [hxs.out, hzs.out]) (all_oneCell_toArray u8s_one) ?_)
    obtain ⟨W2, hW2⟩ : ∃ W2, (W1.alloc (.cells (u8s (zeros 32)).toArray 25)).setRow W1.heap.size (u8s x).toArray = W2 := ⟨_, rfl⟩
    rw [hW2] at hkc hbn hw2 ⊢
    clear hW2
    refine ⟨keepsFrom_below hbn.out, fun W3 hp => ?_⟩
    have hw3 := Lib.hid (hw2.out.puts hp hszDa.out hmoa.out.1 hdsa.out)
    have hk3 := Lib.hid (hp.cells _ _ _ _ hkc.out)
    have hp' := Lib.hid hp
    have m3 : Hid (Mid (fun j => j = gIa ∨ blockOf AIa = some j) W1 W3) := Lib.hid ((Mid.of_below hbn.out (fun j hj => (hok1.out j hj).1)).trans (Mid.of_below hp.bel (fun j hj => by rcases hj with rfl | hj; exact hata'.out.lts.1; exact hata'.out.lts.2 j hj)))
    clear hp
    have c7 := hw3.out.cel7
    have c5 := hw3.out.cel5
    generalize W1.heap.size = gk at hk3 ⊢
    have hTk := Lib.hid (hT'.out W3 hw3.out.bel x hxk'.out)
    obtain ⟨tb, htb⟩ : ∃ tb, t x = tb := ⟨_, rfl⟩
    rw [htb] at hTk
    have htb' := Lib.hid htb
    clear htb
    cases tb
    · skip
      gi_wp2_with (first
        | (refine wpListIn_load_row (by rfl) 25 _ rfl gk rfl 25 (u8s x).toArray (0, 0) _ hk3.out Try.underlying25 rfl (by rw [hxs.out]; exact hi32.out) ?_)
        | (refine ⟨trivial, rfl, ?_⟩; refine (callsIn_wide.2 hTk.out).mono ?_; rintro e W4 ⟨rfl, b4⟩; have b4' := Lib.hid b4; clear b4 hTk))
      exact ⟨(keepsFrom_below b4'.out), m3.out.trans (Mid.of_below b4'.out (fun j hj => Nat.lt_of_lt_of_le (hok1.out j hj).1 m3.out.size)), N, hNs0.out, by rw [takeK_snoc, htb'.out]; exact hw3.out.keep b4'.out⟩
    · skip
      gi_wp2_with (first
        | (refine wpListIn_load_row (by rfl) 25 _ rfl gk rfl 25 (u8s x).toArray (0, 0) _ hk3.out Try.underlying25 rfl (by rw [hxs.out]; exact hi32.out) ?_)
        | (refine wpListIn_load_row (by rfl) 25 _ rfl gk rfl 25 (u8s x).toArray (0, 0) _ hk4.out Try.underlying25 rfl (by rw [hxs.out]; exact hi32.out) ?_)
        | (refine ⟨trivial, rfl, ?_⟩; refine (callsIn_wide.2 hTk.out).mono ?_; rintro e W4 ⟨rfl, b4⟩
           have b4' := Lib.hid b4
           have hk4 := Lib.hid ((b4.block _ (Array.getElem?_eq_some_iff.1 hk3.out).1).trans hk3.out)
           have hw4 := Lib.hid (hw3.out.keep b4)
           have c7 := hw4.out.cel7
           have hAd := Lib.hid (addK_any W4 so mo N _ hw4.out.set hN9.out x hxk'.out)
           clear b4 hTk)
        | (refine ⟨trivial, rfl, ?_⟩; gi_at_call 46; refine (callsIn_wide.2 hAd.out).mono ?_; rintro e W5 ⟨rfl, s5, g5⟩
           have s5' := Lib.hid s5
           have g5' := Lib.hid g5
           clear s5 g5 hAd))
      exact ⟨⟨Nat.le_trans b4'.out.size g5'.out.size, fun j o _ hj hc => by
          have h1 := (b4'.out.block _ (Array.getElem?_eq_some_iff.1 hj).1).trans hj
          refine (g5'.out.block _ (Array.getElem?_eq_some_iff.1 h1).1 (fun e => ?_)).trans h1
          cases e
          have := hmoa.out.1
          omega⟩, (m3.out.trans (Mid.of_below b4'.out (fun j hj => Nat.lt_of_lt_of_le (hok1.out j hj).1 m3.out.size))).trans ⟨g5'.out.size, fun j hj => g5'.out.block _ (Nat.lt_of_lt_of_le (Nat.lt_of_lt_of_le (hok1.out j hj).1 m3.out.size) b4'.out.size) (fun e => by cases e; exact (hok1.out _ hj).2 rfl)⟩, N + 1, hNs.out, by rw [takeK_snoc, htb'.out]; exact hw4.out.add s5'.out g5'.out⟩
  · rintro Da xsa Wa hDa hxsa ⟨Na, hNa, hwa⟩ hmarka
    rw [hxsa] at hNa hwa
    clear hxsa
    have hNao : Na ≤ 2097152 := by omega
    have hma' := Lib.hid hmarka
    have hwa' := Lib.hid hwa
    have hNa' := Lib.hid hNa
    have hlodA := Lib.hid hDa
    have hWb : Hid (WhI w g7 w.heap.size so mo g14 cs Na (.func (.func fT) #[] cT) (takeK t ka []) [Da] Wa) := Lib.hid ⟨hwa.bel, hwa.c7, hwa.c5, hwa.c14, hwa.set, hwa.lo, fun D hD => by simp at hD; subst hD; exact hmarka⟩
    have c14 : Wa.cell? ⟨g14, 1, none⟩ = some (pv ob) := by
      unfold World.cell?
      simp [hwa.c14, ← hcs'.out]
    clear hmarka hwa hNa hDa
    go_wp2_with fail
    rw [rounds_succ]
    go_wp2_with (go_at_call 26; refine (hAb.out _ hWb.out.bel).mono ?_; rintro e vb ⟨gIb, AIb, cIb, rfl, hatb, hblb, hlgb, hlAb⟩; have hatb' := Lib.hid hatb; have hblb' := Lib.hid hblb; have hlgb' := Lib.hid hlgb; have hlAb' := Lib.hid hlAb; clear hatb hblb hlgb hlAb)
    have hIb : Hid (WhI w g7 w.heap.size so mo g14 cs Na (.func (.func fT) #[] cT) (takeK t ka []) [Da] vb) := Lib.hid (hWb.out.keep hblb'.out)
    have hszDb : Hid (w.heap.size ≤ vb.heap.size) := Lib.hid hIb.out.bel.size
    have hmob : Hid (mo < vb.heap.size ∧ mo < Wa.heap.size) := Lib.hid ⟨hIb.out.set.lts.2, hWb.out.set.lts.2⟩
    have hdsb : Hid (∀ E ∈ [Da], E < vb.heap.size) := Lib.hid fun E hE => (Array.getElem?_eq_some_iff.1 (hIb.out.ds E hE)).1
    refine wp_rangeFunc (gf := 53) (lb := #[.pointer (some ⟨gIb, 0, none⟩)]) rfl (enters_of Try.func53 (by kernel_rfl) rfl) (encs := fun x : List Nat => #[Value.agg (u8s x).toArray]) (fun _ => rfl) (G := KyG kb) (fun h => h.2)
      (allK_seq vb gIb cIb AIb kb (fun j => j = gIb ∨ blockOf AIb = some j) hatb'.out hrb.out (by omega) (Or.inl rfl) (fun j hj => Or.inr hj) (fun j hj => by rcases hj with rfl | hj; exact hatb'.out.lts.1; exact hatb'.out.lts.2 j hj)) (Mid.refl _ _) (fun j hj => by rcases hj with rfl | hj; exact hatb'.out.lts.1; exact hatb'.out.lts.2 j hj)
      (fun pre W => ∃ N, N ≤ pre.length + Na ∧ WhI w g7 w.heap.size so mo g14 cs N (.func (.func fT) #[] cT) (takeK t pre (takeK t ka [])) [Da] W) (fun _ _ _ => False) ?_ (fun _ _ _ _ h _ => h) ?_ ⟨Na, by simp, by simpa [takeK, insAll] using hIb.out⟩ ?_ ?_ (fun _ _ _ _ _ _ h _ => h.elim)
    · rintro pre W W' ⟨N, hN, h⟩ hp
      exact ⟨N, hN, h.puts hp hszDb.out hmob.out.1 hdsb.out⟩
    · rintro pre W W' ⟨N, hN, h⟩ hb
      exact ⟨N, hN, h.keep hb⟩
    · rintro lp pre x W0 W1 hlp ⟨N, hN, hw0⟩ hlt ⟨hpre, hbel⟩
      have hxm : x ∈ kb := hpre.subset (by simp)
      have hxk : IsK x := hrb.out.ok x hxm
      have hpl : pre.length + 1 ≤ kb.length := by have := hpre.length_le; simpa using this
      have hw1 := Lib.hid (hw0.keep hbel)
      have hN9 : Hid (N < 140737488355328) := Lib.hid (by omega)
      have hNs : Hid (N + 1 ≤ (pre ++ [x]).length + Na) := Lib.hid (by simp; omega)
      have hNs0 : Hid (N ≤ (pre ++ [x]).length + Na) := Lib.hid (by simp; omega)
      have hxs : Hid ((u8s x).toArray.size = 32) := Lib.hid (by simp [u8s, hxk.1])
      have hxk' := Lib.hid hxk
      have hkn := key_new W1 x
      have hkc := Lib.hid hkn.1
      have hbn := Lib.hid hkn.2
      have hw2 := Lib.hid (hw1.out.keep hbn.out)
      have hok1 : Hid (∀ j, (j = gIb ∨ blockOf AIb = some j) → j < W1.heap.size ∧ j ≠ mo) := Lib.hid fun j hj => by
        have h1 : j < vb.heap.size ∧ Wa.heap.size ≤ j := by
          rcases hj with rfl | hj
          · exact ⟨hatb'.out.lts.1, hlgb'.out⟩
          · exact ⟨hatb'.out.lts.2 j hj, hlAb'.out j hj⟩
        have h2 := hbel.size
        have h3 := hmob.out.2
        exact ⟨by omega, by omega⟩
      have hlt' := Lib.hid hlt
      have hbel' := Lib.hid hbel
      clear hxm hxk hpl hkn hN hw0 hpre hbel hlt
      gi_wp2_with (refine wpListIn_store_row (by rfl) 25 _ _ rfl W1.heap.size (u8s x).toArray rfl rfl 25 _ (heap_alloc_new W1 _) (by rw [hxs.out]; exact hi32.out) (by rw [hxs.out, hzs.out]) (all_oneCell_toArray u8s_one) ?_)
      obtain ⟨W2, hW2⟩ : ∃ W2, (W1.alloc (.cells (u8s (zeros 32)).toArray 25)).setRow W1.heap.size (u8s x).toArray = W2 := ⟨_, rfl⟩
      rw [hW2] at hkc hbn hw2 ⊢
      clear hW2
      refine ⟨keepsFrom_below hbn.out, fun W3 hp => ?_⟩
      have hw3 := Lib.hid (hw2.out.puts hp hszDb.out hmob.out.1 hdsb.out)
      have hk3 := Lib.hid (hp.cells _ _ _ _ hkc.out)
      have hp' := Lib.hid hp
      have m3 : Hid (Mid (fun j => j = gIb ∨ blockOf AIb = some j) W1 W3) := Lib.hid ((Mid.of_below hbn.out (fun j hj => (hok1.out j hj).1)).trans (Mid.of_below hp.bel (fun j hj => by rcases hj with rfl | hj; exact hatb'.out.lts.1; exact hatb'.out.lts.2 j hj)))
      clear hp
      have c7 := hw3.out.cel7
      have c5 := hw3.out.cel5
      generalize W1.heap.size = gk at hk3 ⊢
      have hTk := Lib.hid (hT'.out W3 hw3.out.bel x hxk'.out)
      obtain ⟨tb, htb⟩ : ∃ tb, t x = tb := ⟨_, rfl⟩
      rw [htb] at hTk
      have htb' := Lib.hid htb
      clear htb
      cases tb
      · skip
        gi_wp2_with (first
          | (refine wpListIn_load_row (by rfl) 25 _ rfl gk rfl 25 (u8s x).toArray (0, 0) _ hk3.out Try.underlying25 rfl (by rw [hxs.out]; exact hi32.out) ?_)
          | (refine ⟨trivial, rfl, ?_⟩; refine (callsIn_wide.2 hTk.out).mono ?_; rintro e W4 ⟨rfl, b4⟩; have b4' := Lib.hid b4; clear b4 hTk))
        exact ⟨(keepsFrom_below b4'.out), m3.out.trans (Mid.of_below b4'.out (fun j hj => Nat.lt_of_lt_of_le (hok1.out j hj).1 m3.out.size)), N, hNs0.out, by rw [takeK_snoc, htb'.out]; exact hw3.out.keep b4'.out⟩
      · skip
        gi_wp2_with (first
          | (refine wpListIn_load_row (by rfl) 25 _ rfl gk rfl 25 (u8s x).toArray (0, 0) _ hk3.out Try.underlying25 rfl (by rw [hxs.out]; exact hi32.out) ?_)
          | (refine wpListIn_load_row (by rfl) 25 _ rfl gk rfl 25 (u8s x).toArray (0, 0) _ hk4.out Try.underlying25 rfl (by rw [hxs.out]; exact hi32.out) ?_)
          | (refine ⟨trivial, rfl, ?_⟩; refine (callsIn_wide.2 hTk.out).mono ?_; rintro e W4 ⟨rfl, b4⟩
             have b4' := Lib.hid b4
             have hk4 := Lib.hid ((b4.block _ (Array.getElem?_eq_some_iff.1 hk3.out).1).trans hk3.out)
             have hw4 := Lib.hid (hw3.out.keep b4)
             have c7 := hw4.out.cel7
             have hAd := Lib.hid (addK_any W4 so mo N _ hw4.out.set hN9.out x hxk'.out)
             clear b4 hTk)
          | (refine ⟨trivial, rfl, ?_⟩; gi_at_call 46; refine (callsIn_wide.2 hAd.out).mono ?_; rintro e W5 ⟨rfl, s5, g5⟩
             have s5' := Lib.hid s5
             have g5' := Lib.hid g5
             clear s5 g5 hAd))
        exact ⟨⟨Nat.le_trans b4'.out.size g5'.out.size, fun j o _ hj hc => by
            have h1 := (b4'.out.block _ (Array.getElem?_eq_some_iff.1 hj).1).trans hj
            refine (g5'.out.block _ (Array.getElem?_eq_some_iff.1 h1).1 (fun e => ?_)).trans h1
            cases e
            have := hmob.out.1
            omega⟩, (m3.out.trans (Mid.of_below b4'.out (fun j hj => Nat.lt_of_lt_of_le (hok1.out j hj).1 m3.out.size))).trans ⟨g5'.out.size, fun j hj => g5'.out.block _ (Nat.lt_of_lt_of_le (Nat.lt_of_lt_of_le (hok1.out j hj).1 m3.out.size) b4'.out.size) (fun e => by cases e; exact (hok1.out _ hj).2 rfl)⟩, N + 1, hNs.out, by rw [takeK_snoc, htb'.out]; exact hw4.out.add s5'.out g5'.out⟩
    · rintro Db xsb Wb hDb hxsb ⟨Nb, hNb, hwb⟩ hmarkb
      rw [hxsb] at hNb hwb
      clear hxsb
      go_wp2_with fail
      rw [rounds_succ]
      have hmb' := Lib.hid hmarkb
      have hwb' := Lib.hid hwb
      have hNb' := Lib.hid hNb
      have hab : Hid (Da ≠ Db) := Lib.hid (by have := hdsb.out Da (by simp); omega)
      have c7 := hwb.cel7
      have hlodB := Lib.hid hDb
      clear hmarkb hwb hNb hDb
      go_wp2_with fail
      refine leaves_marks [Db, Da] Wb (by simpa using fun e => hab.out e.symm) (fun D hD => ?_) (fun W => results_tmp rfl _ _ _) (fun W hp => ?_)
      · simp at hD
        rcases hD with rfl | rfl
        · exact hmb'.out
        · exact hwb'.out.ds _ (by simp)
      · have hp2 := hp (va.heap.size) (fun D hD => by
            have h1 := hdsb.out Da (by simp)
            have h2 := hlodA.out
            have h3 := hlodB.out
            simp at hD
            rcases hD with rfl | rfl <;> omega)
        have hw9 := hwb'.out.set
        obtain ⟨Dd, ⟨a1, a2⟩, a3⟩ := hw9
        obtain ⟨es, clock, b1, b2⟩ := a2
        refine ⟨so, mo, Nb, rfl, ⟨Dd, ⟨hp2.cells _ _ _ _ a1, ⟨es, clock, (hp2.bel.block _ hmoa.out.1).trans b1, b2⟩⟩, a3⟩, below_puts hwb'.out.bel hp2 hszDa.out, hso.out, hwb'.out.lo, ?_⟩
        have := hNb'.out
        omega
end Go.Proofs.Ytlolnpilpdkbkaa

/- frame.All, frame.End: what they tell. -/
import Derived.Test.YtjofpjioaiamhaaScan
import Derived.Test.YtjofpjioaiamhaaRange
namespace Go.Proofs.Ytjofpjioaiamhaa
open Go.RowKit Go.Shelf
attribute [local go_sem] Oper.semAt_some

set_option maxRecDepth 20000 in
theorem clone_nil (n c : Nat) (w : World) : Calls Try.prog 27 #[.slice none n c] w fun e w' => e = .returned (.slice none 0 0) ∧ w = w' := by
  have e0 := fun w => eql_nil w none n c
  go_enter Try.func27, Try.ntmps27
  go_wp2_with fail
  go_ret
  exact ⟨rfl, rfl⟩
theorem clone_all (l : List Nat) (A : Option Addr) (n c B : Nat) (w : World) (hn : l.length = n) (hm : n ≤ 140737488355328) (h : Byt w B A l) :
    Calls Try.prog 27 #[.slice A n c] w fun e w' => (∃ A' c', e = .returned (.slice A' n c') ∧ Own w' w.heap.size 5 1 A' n c' (u8s l)) ∧ Below w.heap.size w w' := by
  cases A with
  | some ad => exact clone_any l ad n c B w hn hm h
  | none =>
    have h0 : l.length = 0 := by
      rcases Nat.eq_zero_or_pos l.length with h0 | h0
      · exact h0
      · obtain ⟨_, _, e, _⟩ := h h0
        cases e
    refine (clone_nil n c w).mono ?_
    rintro e w' ⟨rfl, rfl⟩
    have hl : l = [] := List.eq_nil_of_length_eq_zero h0
    subst hl
    obtain rfl : n = 0 := by simpa using hn.symm
    exact ⟨⟨none, 0, rfl, Own.nil _ _ _ _⟩, Below.refl _ _⟩

abbrev Rec := Nat × List Nat × Option Addr × Nat
def Rec.pr (x : Rec) : Nat × List Nat := (x.1, x.2.1)
abbrev recV (x : Rec) : Array Value := #[.int .i64 (x.1 : Nat), .slice x.2.2.1 x.2.1.length x.2.2.2]
def RecG (l : List Nat) (W0 W1 : World) (pre : List Rec) (x : Rec) : Prop :=
  Recs l (pre.map Rec.pr) x.1 ∧ (unpF (l.drop x.1)).1 = 0 ∧ x.2.1 = (unpF (l.drop x.1)).2.2 ∧ Own W1 W0.heap.size 5 1 x.2.2.1 x.2.1.length x.2.2.2 (u8s x.2.1) ∧ Below W0.heap.size W0 W1

set_option maxRecDepth 20000 in
set_option maxHeartbeats 2000000 in
theorem all1_stops (l : List Nat) (g : Nat) (A : Option Addr) (n c lo : Nat) (w : World) (hl : ∀ b ∈ l, b < 256) (hn : l.length = n) (hnm : n ≤ 281474976710656) (hg0 : lo ≤ g) (hg : g < w.heap.size) (hc : w.cell? ⟨g, 0, none⟩ = some (.slice A n c)) (h : Own w lo 5 1 A n c (u8s l)) :
    SeqW Try.prog 35 #[.pointer (some ⟨g, 0, none⟩)] recV (RecG l) (fun xs => xs.map Rec.pr = allL l) (fun _ => True) lo w.heap.size w := by
  intro lp J Jx W hW h0 hY
  obtain ⟨hnc, hcm⟩ := h.le
  have hY' := Lib.hid hY
  have hW' := Lib.hid hW
  have h' := Lib.hid h
  have hl' := Lib.hid hl
  have hc' := Lib.hid hc
  have hn' := Lib.hid hn
  clear hY hW h hl hc hn
  refine callsIn_of_wp Try.func35 rfl trivial ?_ rfl
  simp only [Try.ntmps35, List.size_toArray, List.length_cons, List.length_nil, Nat.reduceAdd, Nat.reduceSub, Array.replicate_succ, Array.replicate_zero, List.push_toArray, List.append_toArray, List.nil_append, List.cons_append]
  gi_wp2
  gi_loopw [3] (fun i wr => ∃ (pre : List Rec) (p : Nat), i = .int .i64 p ∧ Recs l (pre.map Rec.pr) p ∧ J pre wr ∧ Mid lo w.heap.size w wr) (fun i _ => n - (intOf i).toNat)
  case atStart => exact ⟨[], 0, rfl, .nil, h0, hW'.out⟩
  case round =>
    obtain ⟨pre, p, rfl, hrec, hJ, hbel⟩ := hrel
    have hp := hrec.le
    rw [hn'.out] at hp
    have hu := unpack_any l (p : Int) A n c wr.heap.size wr hl'.out hn'.out hnc hcm hnm (Nat.le_refl _) (h'.out.mid hbel (fun k hk => h'.out.lt k hk)).byt
    have e1 : unpL l (p : Int) = unpF (l.drop p) := by
      unfold unpL
      rw [if_neg (by rw [hn'.out]; omega)]
      rfl
    rw [e1] at hu
    have hcw := (hbel.cell (p := ⟨g, 0, none⟩) hg0 hg).trans hc'.out
    by_cases he : (unpF (l.drop p)).1 = 0
    · have hs := unpF_size he
      have hdl : (l.drop p).length = n - p := by rw [List.length_drop, hn'.out]
      have hrec2 := hrec.snoc he
      have hG := fun x (W1 : World) (h1 : x.1 = p) (h2 : x.2.1 = (unpF (l.drop p)).2.2) h3 h4 => hY'.out pre x wr W1 hJ ⟨h1 ▸ hrec, h1 ▸ he, h1 ▸ h2, h3, h4⟩
      have hG' := Lib.hid hG
      have hrec2' := Lib.hid hrec2
      rw [hdl] at hs
      have hu' := Lib.hid hu
      clear hG hrec2 hu hrec hJ
      generalize unpF (l.drop p) = r at hs hG' hrec2' hu' he
      obtain ⟨err, size, body⟩ := r
      simp only at hs he
      obtain ⟨rfl, hs2, hs3⟩ := hs
      subst he
      gi_wp2_with (refine ⟨trivial, rfl, ?_⟩; gi_at_call 14; refine (callsIn_wide.2 hu'.out).mono ?_; rintro e w1 ⟨A1, c1, rfl, o1, hb1⟩; obtain ⟨fn, tmps, assign, body_, hy, hR⟩ := hG'.out (p, body, A1, c1) w1 rfl rfl o1 hb1; dsimp only [recV] at hy)
      refine ⟨rfl, hR.mono ?_⟩
      rintro e W' (⟨rfl, hJ3, hb3⟩ | ⟨rfl, hJx⟩)
      · have hb4 : Mid lo w.heap.size w W' := (hbel.trans (Mid.of_below hb1 hbel.size)).trans hb3
        have hr3 := hrec2'.out
        clear hbel hb1 hb3 o1 hy hR hu' hG'
        gi_wp2
        go_roundw
        case rel => exact ⟨pre ++ [(p, body, A1, c1)], p + (10 + body.length), by go_num, by simpa [Rec.pr] using hr3, hJ3, hb4⟩
        case measure => simp [intOf]; omega
      · gi_wp2
        refine bodyPost_ret (results_none rfl _ _ _) rfl ?_
        exact ⟨⟨_, rfl⟩, .inr ⟨_, trivial, hJx⟩⟩
    · have hall := hrec.all he
      have hu' := Lib.hid hu
      have hall' := Lib.hid hall
      clear hu hall hrec
      generalize unpF (l.drop p) = r at hu' he
      obtain ⟨err, size, body⟩ := r
      simp only at he
      have he1 : ((err : Int) != 0) = true := by simp; omega
      gi_wp2_with (refine ⟨trivial, rfl, ?_⟩; gi_at_call 14; refine (callsIn_wide.2 hu'.out).mono ?_; rintro e w1 ⟨A1, c1, rfl, o1, hb1⟩)
      refine ⟨fun _ h => (by cases h), ?_⟩
      gi_wp2
      refine bodyPost_ret (results_none rfl _ _ _) rfl ?_
      exact ⟨⟨_, rfl⟩, .inl ⟨pre, wr, hall'.out.1, hJ, hb1⟩⟩

set_option maxRecDepth 20000 in
theorem all_any (l : List Nat) (A : Option Addr) (n c B : Nat) (w : World) (hn : l.length = n) (hm : n ≤ 140737488355328) (hB : B ≤ w.heap.size) (h : Byt w B A l) :
    Calls Try.prog 23 #[.slice A n c] w fun e w' => (∃ g A' c', e = .returned (.func (.func 35) #[] #[.pointer (some ⟨g, 0, none⟩)]) ∧ w.heap.size ≤ g ∧ g < w'.heap.size ∧ w'.cell? ⟨g, 0, none⟩ = some (.slice A' n c') ∧ Own w' w.heap.size 5 1 A' n c' (u8s l)) ∧ Below w.heap.size w w' := by
  have h1 : Below w.heap.size w (w.alloc (.cells #[.slice A n c] 23)) := (Below.refl _ _).alloc (Nat.le_refl _) _
  have hc := Lib.hid (clone_all l A n c B (w.alloc (.cells #[.slice A n c] 23)) hn hm (h.below (h1.mono hB)))
  have h1' := Lib.hid h1
  clear hn h h1
  go_enter Try.func23, Try.ntmps23
  go_wp2_with (go_at_call 27; refine hc.out.mono ?_; rintro e w2 ⟨⟨A', c', rfl, o2⟩, hb2⟩; have hq := hb2.cell (p := ⟨w.heap.size, 0, none⟩) (by simp); have hf := hb2.frozen (p := ⟨w.heap.size, 0, none⟩) (by simp); have hsz := hb2.size; rw [cell_of_row _ _ 0 _ _ _ (heap_alloc_new w _)] at hq; rw [frozen_of_row _ _ 0 _ _ (heap_alloc_new w _)] at hf)
  go_ret
  simp only [World.size_alloc] at hsz
  have hB2 := h1'.out.trans (hb2.mono (by simp))
  refine ⟨⟨w.heap.size, A', c', rfl, Nat.le_refl _, by simp [World.setCell]; omega, World.cell?_setCell_same w2 _ _ hq, ?_⟩, hB2.setCell (p := ⟨w.heap.size, 0, none⟩) (Nat.le_refl _) _⟩
  simp only [World.size_alloc] at o2
  have o3 : Own (w2.setCell ⟨w.heap.size, 0, none⟩ (.slice A' n c')) (w.heap.size + 1) 5 1 A' n c' (u8s l) := ownsRow_setCell_below o2 (Nat.lt_succ_self _) _
  exact o3.base (Nat.le_succ _)

/-- What holds between two rounds of End. -/
def EndI (l : List Nat) (w : World) (pre : List Rec) (W : World) : Prop :=
  ∃ p : Nat, Recs l (pre.map Rec.pr) p ∧ W.cell? ⟨w.heap.size, 0, none⟩ = some (.int .i64 (p : Int)) ∧ W.frozen? ⟨w.heap.size, 0, none⟩ = false ∧ w.heap.size < W.heap.size ∧ Below w.heap.size w W

set_option maxRecDepth 20000 in
set_option maxHeartbeats 2000000 in
theorem end_any (l : List Nat) (A : Option Addr) (n c B : Nat) (w : World) (hl : ∀ b ∈ l, b < 256) (hn : l.length = n) (hnc : n ≤ c) (hcm : c ≤ maxLen) (hm : n ≤ 140737488355328) (hB : B ≤ w.heap.size) (h : Byt w B A l) :
    Calls Try.prog 22 #[.slice A n c] w fun e w' => e = .returned (.tuple #[.int .i64 ((endAns l).1 : Nat), .int .i64 ((endAns l).2 : Nat)]) ∧ Below w.heap.size w w' := by
  have h1 : Below w.heap.size w (w.alloc (.cells #[.int .i64 0] 3)) := (Below.refl _ _).alloc (Nat.le_refl _) _
  have hcall := Lib.hid (all_any l A n c B (w.alloc (.cells #[.int .i64 0] 3)) hn hm (by simp; omega) (h.below (h1.mono hB)))
  have h1' := Lib.hid h1
  have hl' := Lib.hid hl
  have hn' := Lib.hid hn
  have h' := Lib.hid h
  clear hn h h1 hl
  refine calls_marks Try.func22 rfl ?_
  simp only [Try.ntmps22, List.size_toArray, List.length_cons, List.length_nil, Nat.reduceAdd, Nat.reduceSub, Array.replicate_succ, Array.replicate_zero, List.push_toArray, List.append_toArray, List.nil_append, List.cons_append]
  go_wp2_with (go_at_call 23; refine hcall.out.mono ?_; rintro e w2 ⟨⟨g, A', c', rfl, hg1, hg2, hcg, o2⟩, hb2⟩)
  have hq := hb2.cell (p := ⟨w.heap.size, 0, none⟩) (by simp)
  have hf := hb2.frozen (p := ⟨w.heap.size, 0, none⟩) (by simp)
  have hsz := hb2.size
  rw [cell_of_row _ _ 0 _ _ _ (heap_alloc_new w _)] at hq
  rw [frozen_of_row _ _ 0 _ _ (heap_alloc_new w _)] at hf
  simp only [World.size_alloc] at hsz hg1 o2
  have hB2 := h1'.out.trans (hb2.mono (by simp))
  clear hcall h1' hb2
  refine wp_rangeFunc (gf := 35) (lb := #[.pointer (some ⟨g, 0, none⟩)]) rfl (enters_of Try.func35 (by kernel_rfl) rfl) (encs := recV) (fun _ => rfl) (G := RecG l) (fun h => h.2.2.2.2)
    (all1_stops l g A' n c' (w.heap.size + 1) w2 hl'.out hn'.out (by omega) hg1 hg2 hcg o2) (Mid.refl _ _ _) (Nat.le_refl _)
    (EndI l w) (fun _ _ _ => False) ?_ (fun _ _ _ _ h _ => h) ?_ ⟨0, .nil, hq, hf, by omega, hB2⟩ ?_ ?_ (fun _ _ _ _ _ _ h _ => h.elim)
  · rintro s W W' ⟨p, h1, h2, h3, h4, h5⟩ hp
    exact ⟨p, h1, hp.cell h2, (hp.frozen h2).trans h3, Nat.lt_of_lt_of_le h4 hp.bel.size, below_puts h5 hp (by omega)⟩
  · rintro s W W' ⟨p, h1, h2, h3, h4, h5⟩ hb
    exact ⟨p, h1, (hb.cell (p := ⟨w.heap.size, 0, none⟩) h4).trans h2, (hb.frozen (p := ⟨w.heap.size, 0, none⟩) h4).trans h3, Nat.lt_of_lt_of_le h4 hb.size, h5.trans (hb.mono (by omega))⟩
  · rintro lp pre ⟨at_, body, A1, c1⟩ W0 W1 hlp ⟨p, h1, h2, h3, h4, h5⟩ hlt ⟨g1, g2, g3, g4, g5⟩
    have q1 := (g5.cell (p := ⟨w.heap.size, 0, none⟩) h4).trans h2
    have q2 := (g5.frozen (p := ⟨w.heap.size, 0, none⟩) h4).trans h3
    have hB1 := h5.trans (g5.mono (Nat.le_of_lt h4))
    have hlt1 := Nat.lt_of_lt_of_le h4 g5.size
    have hrec := Lib.hid (g1.snoc g2)
    have hsz2 := unpF_size g2
    simp only at hrec hsz2 g3
    rw [← g3] at hrec hsz2
    have hrl := g1.le
    rw [hn'.out] at hrl
    obtain ⟨hsz3, _, hbl⟩ := hsz2
    rw [hsz3] at hrec
    have hB1' := Lib.hid hB1
    clear h2 h3 h5 g5 g4 g3 g1 g2 hB1 h1 hsz3
    gi_wp2
    refine ⟨KeepsFrom.refl _ _, fun W3 hp => ?_⟩
    have q3 := hp.cell q1
    have q4 := (hp.frozen q1).trans q2
    have hB3 := Lib.hid (below_puts hB1'.out hp (by omega))
    have hs3 := hp.bel.size
    clear q1 q2
    gi_wp2
    refine ⟨keepsFrom_set _ _ _ _, (Mid.of_below hp.bel (Nat.le_refl _)).setCell (p := ⟨w.heap.size, 0, none⟩) (Nat.lt_succ_self _) _, at_ + (10 + body.length), by simpa [Rec.pr] using hrec.out, ?_, ?_, ?_, hB3.out.setCell (p := ⟨w.heap.size, 0, none⟩) (Nat.le_refl _) _⟩
    · rw [World.cell?_setCell_same W3 _ _ q3]
      simp
      omega
    · rw [World.frozen?_setCell]
      exact q4
    · simp [World.setCell]
      omega
  · rintro D xs W hD hS ⟨p, h1, h2, h3, h4, h5⟩ hmark
    rw [hS] at h1
    have he : p = endL l := h1.last.trans (allL_recs l).last.symm
    subst he
    have hbad := endL_bad l
    rw [hn'.out] at hbad
    obtain ⟨hbad, hle⟩ := hbad
    have ha : endAns l = (endL l, if endL l = n then 0 else (unpF (l.drop (endL l))).1) := by rw [← hn'.out]; rfl
    have hm' := Lib.hid hmark
    have h5' := Lib.hid h5
    have hDW := (Array.getElem?_eq_some_iff.1 hmark).1
    clear h1 hS h5 hmark
    have hu := unpack_any l (endL l : Int) A n c w.heap.size W hl'.out hn'.out hnc hcm (by omega) h5'.out.size (h'.out.below (h5'.out.mono hB) |>.mono hB)
    have e1 : unpL l (endL l : Int) = unpF (l.drop (endL l)) := by
      unfold unpL
      rw [if_neg (by rw [hn'.out]; omega)]
      rfl
    rw [e1] at hu
    have hu' := Lib.hid hu
    have ha' := Lib.hid ha
    clear hu ha e1
    generalize unpF (l.drop (endL l)) = r at hbad ha' hu'
    obtain ⟨err, size, body⟩ := r
    simp only at hbad ha'
    generalize endL l = p at *
    dsimp only
    by_cases hpn : p = n
    · subst hpn
      go_wp2_with fail
      refine ⟨by simp, .inl ⟨_, _, rfl, run_takeDeferred hm'.out, ?_⟩⟩
      refine ⟨_, results_tmp2 rfl _ _ _, ?_, below_puts h5'.out (Puts.putObj _ hm'.out rfl hD) (by omega)⟩
      rw [ha'.out]
      simp
    · have hne : ¬ (p : Int) = n := by omega
      go_wp2_with (go_at_call 14; refine hu'.out.mono ?_; rintro e w1 ⟨A1, c1, rfl, o1, hb1⟩; have q5 := (hb1.cell (p := ⟨w.heap.size, 0, none⟩) h4).trans h2)
      have hm2 := (hb1.block D hDW).trans hm'.out
      refine ⟨by simp, .inl ⟨_, _, rfl, run_takeDeferred hm2, ?_⟩⟩
      refine ⟨_, results_tmp2 rfl _ _ _, ?_, below_puts (h5'.out.trans (hb1.mono (Nat.le_of_lt h4))) (Puts.putObj _ hm2 rfl hD) (by omega)⟩
      rw [ha'.out, if_neg hpn]
      rfl
end Go.Proofs.Ytjofpjioaiamhaa

/- The law's with. (Printed by tools/genwlaw2.py.) -/
import Derived.Test.YtlghgfnkckaebaaWLaw1
namespace Go.Proofs.Ytlghgfnkckaebaa
open Go.RowKit
set_option linter.unusedSimpArgs false
set_option linter.unusedVariables false

/-- Behind a step on the pair d: what stands in its place. -/
def Near (s : Nat) : Option PD → Option PD → Prop
  | some d, some x => (x.A = d.A ∨ s ≤ x.A) ∧ (x.b = d.b ∨ s ≤ x.b) ∧ (x.r = d.r ∨ s ≤ x.r)
  | none, some x => s ≤ x.A ∧ s ≤ x.b ∧ s ≤ x.r
  | _, none => True
theorem Near.refl (s : Nat) (d : Option PD) : Near s d d := by
  cases d with
  | none => trivial
  | some d => exact ⟨.inl rfl, .inl rfl, .inl rfl⟩
def StepP (w : World) (B : Nat) (d : Option PD) (e : Ending) (w' : World) : Prop :=
  e = .returned (.bool true) ∧ ∃ d', PD.pp d' = PD.pp d ∧ PD.qq d' = PD.qq d ∧ PairAt w' B d' ∧ Fr (Mut d) w w' ∧ Near w.heap.size d d'
theorem StepP.same {w w' : World} {B : Nat} {d : Option PD} (h : PairAt w B d) (hb : Below w.heap.size w w') : StepP w B d (.returned (.bool true)) w' :=
  ⟨rfl, d, rfl, rfl, h.below hb, Fr.of_below _ hb, Near.refl _ _⟩
set_option maxRecDepth 20000 in
set_option maxHeartbeats 2000000 in
theorem withN_join {w : World} {B : Nat} {d e : Option PD} (hd : PairAt w B d) (he : PairAt w B e) (hn : d = none ∨ e = none) :
    Calls Try.prog 66 #[.agg #[PD.pp d, PD.qq d], .agg #[PD.pp e, PD.qq e], .bool false] w (StepP w B d) := by
  obtain ⟨K, hK⟩ : ∃ K, w.heap.size = K := ⟨_, rfl⟩
  obtain ⟨w1, hw1⟩ : ∃ w1, w.alloc (.cells #[PD.pp d, PD.qq d] 57) = w1 := ⟨_, rfl⟩
  obtain ⟨w2, hw2⟩ : ∃ w2, w1.alloc (.cells #[PD.pp e, PD.qq e] 57) = w2 := ⟨_, rfl⟩
  have hs1 : w1.heap.size = K + 1 := by rw [← hw1, ← hK]; simp
  have hb1 : Below w.heap.size w w1 := by rw [← hw1]; exact (Below.refl _ _).alloc (Nat.le_refl _) _
  have hb12 : Below w1.heap.size w1 w2 := by rw [← hw2]; exact (Below.refl _ _).alloc (Nat.le_refl _) _
  have hb2 : Hid (Below w.heap.size w w2) := Lib.hid (hb1.trans (hb12.mono hb1.size))
  have hk1 : w2.heap[K]? = some (.cells #[PD.pp d, PD.qq d] 57 (0, 0)) := (hb12.block K (by rw [hs1]; omega)).trans (by rw [← hw1, ← hK]; exact heap_alloc_new w _)
  have hk2 : w2.heap[K + 1]? = some (.cells #[PD.pp e, PD.qq e] 57 (0, 0)) := by rw [← hw2, ← hs1]; exact heap_alloc_new w1 _
  have hD := Lib.hid (hd.below hb2.out)
  have hE := Lib.hid (he.below hb2.out)
  have hfin := Lib.hid (fun (w' : World) (h : Below w.heap.size w w') => StepP.same hd h)
  have c0 : w2.cell? ⟨K, 0, none⟩ = some (PD.pp d) := cell_of_row _ _ 0 _ _ _ hk1
  have c1 : w2.cell? ⟨K, 1, none⟩ = some (PD.qq d) := cell_of_row _ _ 1 _ _ _ hk1
  have c2 : w2.cell? ⟨K + 1, 0, none⟩ = some (PD.pp e) := cell_of_row _ _ 0 _ _ _ hk2
  have c3 : w2.cell? ⟨K + 1, 1, none⟩ = some (PD.qq e) := cell_of_row _ _ 1 _ _ _ hk2
  clear hd he hb1 hb12 hk1 hk2
  cases d with
  | none =>
    have hj := Lib.hid (fun q => join_no1 (q := q) (.inl rfl : NoF w2 none))
    simp only [PD.pp, PD.qq] at c0 c1 hw1
    cases e with
    | none =>
      simp only [PD.pp, PD.qq] at c2 c3 hw1 hw2 ⊢
      go_enter Try.func66, Try.ntmps66
      go_wp2_with (go_at_call 30; refine (hj.out _).mono ?_; rintro e w9 ⟨rfl, rfl⟩)
      go_ret
      exact hfin.out _ hb2.out
    | some y =>
      simp only [PD.pp, PD.qq] at c2 c3 hw1 hw2 ⊢
      go_enter Try.func66, Try.ntmps66
      go_wp2_with (go_at_call 30; refine (hj.out _).mono ?_; rintro e w9 ⟨rfl, rfl⟩)
      go_ret
      exact hfin.out _ hb2.out
  | some x =>
    obtain rfl : e = none := hn.elim (fun q => by cases q) (fun q => q)
    have hj := Lib.hid (join_no2 hD.out.1 (.inl rfl : NoF w2 none))
    simp only [PD.pp, PD.qq] at c0 c1 c2 c3 hw1 hw2 ⊢
    go_enter Try.func66, Try.ntmps66
    go_wp2_with (go_at_call 30; refine hj.out.mono ?_; rintro e w9 ⟨rfl, rfl⟩)
    go_ret
    exact hfin.out _ hb2.out
set_option maxRecDepth 20000 in
set_option maxHeartbeats 2000000 in
theorem withS_join {w : World} {B : Nat} {d e : PD} (hd : PairAt w B (some d)) (he : PairAt w B (some e)) (ha : Apart (some d) (some e)) :
    Calls Try.prog 66 #[.agg #[PD.pp (some d), PD.qq (some d)], .agg #[PD.pp (some e), PD.qq (some e)], .bool false] w (StepP w B (some d)) := by
  obtain ⟨K, hK⟩ : ∃ K, w.heap.size = K := ⟨_, rfl⟩
  obtain ⟨w1, hw1⟩ : ∃ w1, w.alloc (.cells #[PD.pp (some d), PD.qq (some d)] 57) = w1 := ⟨_, rfl⟩
  obtain ⟨w2, hw2⟩ : ∃ w2, w1.alloc (.cells #[PD.pp (some e), PD.qq (some e)] 57) = w2 := ⟨_, rfl⟩
  have hs1 : w1.heap.size = K + 1 := by rw [← hw1, ← hK]; simp
  have hb1 : Below w.heap.size w w1 := by rw [← hw1]; exact (Below.refl _ _).alloc (Nat.le_refl _) _
  have hb12 : Below w1.heap.size w1 w2 := by rw [← hw2]; exact (Below.refl _ _).alloc (Nat.le_refl _) _
  have hb2 : Hid (Below w.heap.size w w2) := Lib.hid (hb1.trans (hb12.mono hb1.size))
  have hk1 : w2.heap[K]? = some (.cells #[PD.pp (some d), PD.qq (some d)] 57 (0, 0)) := (hb12.block K (by rw [hs1]; omega)).trans (by rw [← hw1, ← hK]; exact heap_alloc_new w _)
  have hk2 : w2.heap[K + 1]? = some (.cells #[PD.pp (some e), PD.qq (some e)] 57 (0, 0)) := by rw [← hw2, ← hs1]; exact heap_alloc_new w1 _
  have hD := Lib.hid (hd.below hb2.out)
  have hE := Lib.hid (he.below hb2.out)
  have hfin := Lib.hid (fun (w' : World) (h : Below w.heap.size w w') => StepP.same hd h)
  have hdr : Hid (d.g ≠ d.r ∧ d.A ≠ d.r ∧ d.A ≠ d.b) := Lib.hid ⟨typ_ne hd.tg hd.tr (by decide), typ_ne hd.tA hd.tr (by decide), typ_ne hd.tA hd.tb (by decide)⟩
  have hee : Hid (e.g ≠ d.r ∧ e.A ≠ d.r ∧ e.g ≠ d.A) := Lib.hid ⟨typ_ne he.tg hd.tr (by decide), typ_ne he.tA hd.tr (by decide), typ_ne he.tg hd.tA (by decide)⟩
  have hoff : Hid (d.A < w.heap.size ∧ d.b < w.heap.size ∧ d.r < w.heap.size ∧ e.A < w.heap.size ∧ e.r < w.heap.size) := Lib.hid ⟨by obtain ⟨a, e1, _, h, _⟩ := hd.1.at; injection e1 with e1; injection e1 with e1; omega, hd.2.off.2, RFlt.lt_ hd.2, by obtain ⟨a, e1, _, h, _⟩ := he.1.at; injection e1 with e1; injection e1 with e1; omega, RFlt.lt_ he.2⟩
  have ha' := Lib.hid ha
  have c0 : w2.cell? ⟨K, 0, none⟩ = some (PD.pp (some d)) := cell_of_row _ _ 0 _ _ _ hk1
  have c1 : w2.cell? ⟨K, 1, none⟩ = some (PD.qq (some d)) := cell_of_row _ _ 1 _ _ _ hk1
  have c2 : w2.cell? ⟨K + 1, 0, none⟩ = some (PD.pp (some e)) := cell_of_row _ _ 0 _ _ _ hk2
  have c3 : w2.cell? ⟨K + 1, 1, none⟩ = some (PD.qq (some e)) := cell_of_row _ _ 1 _ _ _ hk2
  have hKs0 := lt_of_block hk1
  have hKs1 := lt_of_block hk2
  clear hk1 hk2
  simp only [PD.pp, PD.qq] at c0 c1 c2 c3 hw1 hw2 ⊢
  have hKs : Hid (K < w2.heap.size ∧ K + 1 < w2.heap.size) := Lib.hid ⟨hKs0, hKs1⟩
  have hKK : Hid (K ≥ w.heap.size) := Lib.hid (by omega)
  by_cases hun : d.l.length = e.l.length ∧ d.h = e.h
  · have hE2 : PairAt w2 B (some ⟨e.g, e.A, e.c, e.r, e.b, e.cb, e.l, d.h⟩) := by
      have := hE.out
      obtain ⟨h1, h2⟩ := this
      rw [← hun.2] at h1 h2
      exact ⟨h1, h2⟩
    have hjr := Lib.hid (rjoin_any hD.out.2 hE2.2 hun.1)
    have hE2' := Lib.hid hE2
    have hlen := Lib.hid hun.1
    have q0 := c0
    have q2 := c2
    clear hd he ha hb1 hb12 hun hE2 hKs0 hKs1
    unfold RWithP at hjr
    go_enter Try.func66, Try.ntmps66
    go_wp2_with (first
      | (go_at_call 76
         refine hjr.out.mono ?_
         rintro e5 w3 ⟨rfl, ⟨b', cb', hrf, hb'⟩, hfr⟩
         have hrf' := Lib.hid hrf
         have hfr' := Lib.hid hfr
         have hbb := Lib.hid hb'
         have hF3 := Lib.hid (hD.out.1.fr hfr hdr.out.1 (fun k hk => by injection hk with hk; subst hk; exact hdr.out.2.1))
         have hG3 := Lib.hid (hE2'.out.1.fr hfr hee.out.1 (fun k hk => by injection hk with hk; subst hk; exact hee.out.2.1))
         have p0 := (World.cell?_of_block (a := ⟨K, 0, none⟩) (hfr.block K hKs.out.1 (fun q => by have := hoff.out; have := hKK.out; omega))).trans q0
         have p2 := (World.cell?_of_block (a := ⟨K + 1, 0, none⟩) (hfr.block (K + 1) hKs.out.2 (fun q => by have := hoff.out; have := hKK.out; omega))).trans q2
         clear hrf hb' hfr hjr c0 c1 c2 c3 q0 q2)
      | (go_at_call 30
         refine (join_any hF3.out hG3.out hlen.out ha'.out.1.symm hee.out.2.2).mono ?_
         unfold JoinP
         rintro e6 w4 ⟨rfl, hf4, hr4⟩
         have hf4' := Lib.hid hf4
         have hr4' := Lib.hid hr4
         clear hf4 hr4))
    go_ret
    have hall : Fr (fun k => k = d.r ∨ k = d.A) w w4 := ((Fr.of_below (fun k => k = d.r ∨ k = d.A) hb2.out).trans hfr'.out (fun _ _ q => .inl q)).trans hr4'.out (fun _ _ q => .inr q)
    refine ⟨rfl, some ⟨d.g, d.A, d.c, d.r, b', cb', joinQ d.l e.l, d.h⟩, rfl, rfl, ⟨hf4'.out, hrf'.out.fr hr4'.out (fun q => hdr.out.2.1 (by rw [← q])) (fun q => by have := hoff.out; have := hbb.out; have := hb2.out.size; have q : b' = d.A := q; omega)⟩, hall.mono (fun k _ q => q.elim (fun q => .inr (.inr q)) (fun q => .inl q)), .inl rfl, .inr (by have := hbb.out; have := hb2.out.size; show _ ≤ b'; omega), .inl rfl⟩
  · have hju := Lib.hid (fun V => rwith_un hD.out.2 hE.out.2 hun V)
    have hjf := Lib.hid (fun k => join_un (hD.out.1.below (below_drewN (Below.refl _ _) k)) (hE.out.1.below (below_drewN (Below.refl _ _) k)) hun)
    clear hd he ha hb1 hb12 hun hKs0 hKs1
    go_enter Try.func66, Try.ntmps66
    go_wp2_with (first
      | (go_at_call 76; refine (hju.out _).mono ?_; rintro e5 w3 ⟨rfl, m3, rfl⟩)
      | (go_at_call 30; refine (hjf.out _).mono ?_; rintro e5 w3 ⟨rfl, m4, rfl⟩))
    go_ret
    exact hfin.out _ (below_drewN hb2.out _)
theorem with_joinL {w : World} {B : Nat} {d e : Option PD} (hd : PairAt w B d) (he : PairAt w B e) (ha : Apart d e) :
    Calls Try.prog 66 #[.agg #[PD.pp d, PD.qq d], .agg #[PD.pp e, PD.qq e], .bool false] w (StepP w B d) := by
  cases d with
  | none => exact withN_join hd he (.inl rfl)
  | some x =>
    cases e with
    | none => exact withN_join hd he (.inr rfl)
    | some y => exact withS_join hd he ha
set_option maxRecDepth 20000 in
set_option maxHeartbeats 2000000 in
theorem withN_meet {w : World} {B : Nat} {d e : Option PD} (hd : PairAt w B d) (he : PairAt w B e) (hn : d = none ∨ e = none) :
    Calls Try.prog 66 #[.agg #[PD.pp d, PD.qq d], .agg #[PD.pp e, PD.qq e], .bool true] w (StepP w B d) := by
  obtain ⟨K, hK⟩ : ∃ K, w.heap.size = K := ⟨_, rfl⟩
  obtain ⟨w1, hw1⟩ : ∃ w1, w.alloc (.cells #[PD.pp d, PD.qq d] 57) = w1 := ⟨_, rfl⟩
  obtain ⟨w2, hw2⟩ : ∃ w2, w1.alloc (.cells #[PD.pp e, PD.qq e] 57) = w2 := ⟨_, rfl⟩
  have hs1 : w1.heap.size = K + 1 := by rw [← hw1, ← hK]; simp
  have hb1 : Below w.heap.size w w1 := by rw [← hw1]; exact (Below.refl _ _).alloc (Nat.le_refl _) _
  have hb12 : Below w1.heap.size w1 w2 := by rw [← hw2]; exact (Below.refl _ _).alloc (Nat.le_refl _) _
  have hb2 : Hid (Below w.heap.size w w2) := Lib.hid (hb1.trans (hb12.mono hb1.size))
  have hk1 : w2.heap[K]? = some (.cells #[PD.pp d, PD.qq d] 57 (0, 0)) := (hb12.block K (by rw [hs1]; omega)).trans (by rw [← hw1, ← hK]; exact heap_alloc_new w _)
  have hk2 : w2.heap[K + 1]? = some (.cells #[PD.pp e, PD.qq e] 57 (0, 0)) := by rw [← hw2, ← hs1]; exact heap_alloc_new w1 _
  have hD := Lib.hid (hd.below hb2.out)
  have hE := Lib.hid (he.below hb2.out)
  have hfin := Lib.hid (fun (w' : World) (h : Below w.heap.size w w') => StepP.same hd h)
  have c0 : w2.cell? ⟨K, 0, none⟩ = some (PD.pp d) := cell_of_row _ _ 0 _ _ _ hk1
  have c1 : w2.cell? ⟨K, 1, none⟩ = some (PD.qq d) := cell_of_row _ _ 1 _ _ _ hk1
  have c2 : w2.cell? ⟨K + 1, 0, none⟩ = some (PD.pp e) := cell_of_row _ _ 0 _ _ _ hk2
  have c3 : w2.cell? ⟨K + 1, 1, none⟩ = some (PD.qq e) := cell_of_row _ _ 1 _ _ _ hk2
  clear hd he hb1 hb12 hk1 hk2
  cases d with
  | none =>
    have hj := Lib.hid (fun q => meet_no1 (q := q) (.inl rfl : NoF w2 none))
    simp only [PD.pp, PD.qq] at c0 c1 hw1
    cases e with
    | none =>
      simp only [PD.pp, PD.qq] at c2 c3 hw1 hw2 ⊢
      go_enter Try.func66, Try.ntmps66
      go_wp2_with (go_at_call 29; refine (hj.out _).mono ?_; rintro e w9 ⟨rfl, rfl⟩)
      go_ret
      exact hfin.out _ hb2.out
    | some y =>
      simp only [PD.pp, PD.qq] at c2 c3 hw1 hw2 ⊢
      go_enter Try.func66, Try.ntmps66
      go_wp2_with (go_at_call 29; refine (hj.out _).mono ?_; rintro e w9 ⟨rfl, rfl⟩)
      go_ret
      exact hfin.out _ hb2.out
  | some x =>
    obtain rfl : e = none := hn.elim (fun q => by cases q) (fun q => q)
    have hj := Lib.hid (meet_no2 hD.out.1 (.inl rfl : NoF w2 none))
    simp only [PD.pp, PD.qq] at c0 c1 c2 c3 hw1 hw2 ⊢
    go_enter Try.func66, Try.ntmps66
    go_wp2_with (go_at_call 29; refine hj.out.mono ?_; rintro e w9 ⟨rfl, rfl⟩)
    go_ret
    exact hfin.out _ hb2.out
set_option maxRecDepth 20000 in
set_option maxHeartbeats 2000000 in
theorem withS_meet {w : World} {B : Nat} {d e : PD} (hd : PairAt w B (some d)) (he : PairAt w B (some e)) (ha : Apart (some d) (some e)) :
    Calls Try.prog 66 #[.agg #[PD.pp (some d), PD.qq (some d)], .agg #[PD.pp (some e), PD.qq (some e)], .bool true] w (StepP w B (some d)) := by
  obtain ⟨K, hK⟩ : ∃ K, w.heap.size = K := ⟨_, rfl⟩
  obtain ⟨w1, hw1⟩ : ∃ w1, w.alloc (.cells #[PD.pp (some d), PD.qq (some d)] 57) = w1 := ⟨_, rfl⟩
  obtain ⟨w2, hw2⟩ : ∃ w2, w1.alloc (.cells #[PD.pp (some e), PD.qq (some e)] 57) = w2 := ⟨_, rfl⟩
  have hs1 : w1.heap.size = K + 1 := by rw [← hw1, ← hK]; simp
  have hb1 : Below w.heap.size w w1 := by rw [← hw1]; exact (Below.refl _ _).alloc (Nat.le_refl _) _
  have hb12 : Below w1.heap.size w1 w2 := by rw [← hw2]; exact (Below.refl _ _).alloc (Nat.le_refl _) _
  have hb2 : Hid (Below w.heap.size w w2) := Lib.hid (hb1.trans (hb12.mono hb1.size))
  have hk1 : w2.heap[K]? = some (.cells #[PD.pp (some d), PD.qq (some d)] 57 (0, 0)) := (hb12.block K (by rw [hs1]; omega)).trans (by rw [← hw1, ← hK]; exact heap_alloc_new w _)
  have hk2 : w2.heap[K + 1]? = some (.cells #[PD.pp (some e), PD.qq (some e)] 57 (0, 0)) := by rw [← hw2, ← hs1]; exact heap_alloc_new w1 _
  have hD := Lib.hid (hd.below hb2.out)
  have hE := Lib.hid (he.below hb2.out)
  have hfin := Lib.hid (fun (w' : World) (h : Below w.heap.size w w') => StepP.same hd h)
  have hdr : Hid (d.g ≠ d.r ∧ d.A ≠ d.r ∧ d.A ≠ d.b) := Lib.hid ⟨typ_ne hd.tg hd.tr (by decide), typ_ne hd.tA hd.tr (by decide), typ_ne hd.tA hd.tb (by decide)⟩
  have hee : Hid (e.g ≠ d.r ∧ e.A ≠ d.r ∧ e.g ≠ d.A) := Lib.hid ⟨typ_ne he.tg hd.tr (by decide), typ_ne he.tA hd.tr (by decide), typ_ne he.tg hd.tA (by decide)⟩
  have hoff : Hid (d.A < w.heap.size ∧ d.b < w.heap.size ∧ d.r < w.heap.size ∧ e.A < w.heap.size ∧ e.r < w.heap.size) := Lib.hid ⟨by obtain ⟨a, e1, _, h, _⟩ := hd.1.at; injection e1 with e1; injection e1 with e1; omega, hd.2.off.2, RFlt.lt_ hd.2, by obtain ⟨a, e1, _, h, _⟩ := he.1.at; injection e1 with e1; injection e1 with e1; omega, RFlt.lt_ he.2⟩
  have ha' := Lib.hid ha
  have c0 : w2.cell? ⟨K, 0, none⟩ = some (PD.pp (some d)) := cell_of_row _ _ 0 _ _ _ hk1
  have c1 : w2.cell? ⟨K, 1, none⟩ = some (PD.qq (some d)) := cell_of_row _ _ 1 _ _ _ hk1
  have c2 : w2.cell? ⟨K + 1, 0, none⟩ = some (PD.pp (some e)) := cell_of_row _ _ 0 _ _ _ hk2
  have c3 : w2.cell? ⟨K + 1, 1, none⟩ = some (PD.qq (some e)) := cell_of_row _ _ 1 _ _ _ hk2
  have hKs0 := lt_of_block hk1
  have hKs1 := lt_of_block hk2
  clear hk1 hk2
  simp only [PD.pp, PD.qq] at c0 c1 c2 c3 hw1 hw2 ⊢
  have hKs : Hid (K < w2.heap.size ∧ K + 1 < w2.heap.size) := Lib.hid ⟨hKs0, hKs1⟩
  have hKK : Hid (K ≥ w.heap.size) := Lib.hid (by omega)
  by_cases hun : d.l.length = e.l.length ∧ d.h = e.h
  · have hE2 : PairAt w2 B (some ⟨e.g, e.A, e.c, e.r, e.b, e.cb, e.l, d.h⟩) := by
      have := hE.out
      obtain ⟨h1, h2⟩ := this
      rw [← hun.2] at h1 h2
      exact ⟨h1, h2⟩
    have hjr := Lib.hid (rmeet_any hD.out.2 hE2.2 hun.1)
    have hE2' := Lib.hid hE2
    have hlen := Lib.hid hun.1
    have q0 := c0
    have q2 := c2
    clear hd he ha hb1 hb12 hun hE2 hKs0 hKs1
    unfold RWithP at hjr
    go_enter Try.func66, Try.ntmps66
    go_wp2_with (first
      | (go_at_call 76
         refine hjr.out.mono ?_
         rintro e5 w3 ⟨rfl, ⟨b', cb', hrf, hb'⟩, hfr⟩
         have hrf' := Lib.hid hrf
         have hfr' := Lib.hid hfr
         have hbb := Lib.hid hb'
         have hF3 := Lib.hid (hD.out.1.fr hfr hdr.out.1 (fun k hk => by injection hk with hk; subst hk; exact hdr.out.2.1))
         have hG3 := Lib.hid (hE2'.out.1.fr hfr hee.out.1 (fun k hk => by injection hk with hk; subst hk; exact hee.out.2.1))
         have p0 := (World.cell?_of_block (a := ⟨K, 0, none⟩) (hfr.block K hKs.out.1 (fun q => by have := hoff.out; have := hKK.out; omega))).trans q0
         have p2 := (World.cell?_of_block (a := ⟨K + 1, 0, none⟩) (hfr.block (K + 1) hKs.out.2 (fun q => by have := hoff.out; have := hKK.out; omega))).trans q2
         clear hrf hb' hfr hjr c0 c1 c2 c3 q0 q2)
      | (go_at_call 29
         refine (meet_any hF3.out hG3.out hlen.out ha'.out.1.symm hee.out.2.2).mono ?_
         unfold MeetP
         rintro e6 w4 ⟨rfl, hf4, hr4⟩
         have hf4' := Lib.hid hf4
         have hr4' := Lib.hid hr4
         clear hf4 hr4))
    go_ret
    have hall : Fr (fun k => k = d.r ∨ k = d.A) w w4 := ((Fr.of_below (fun k => k = d.r ∨ k = d.A) hb2.out).trans hfr'.out (fun _ _ q => .inl q)).trans hr4'.out (fun _ _ q => .inr q)
    refine ⟨rfl, some ⟨d.g, d.A, d.c, d.r, b', cb', meetQ d.l e.l, d.h⟩, rfl, rfl, ⟨hf4'.out, hrf'.out.fr hr4'.out (fun q => hdr.out.2.1 (by rw [← q])) (fun q => by have := hoff.out; have := hbb.out; have := hb2.out.size; have q : b' = d.A := q; omega)⟩, hall.mono (fun k _ q => q.elim (fun q => .inr (.inr q)) (fun q => .inl q)), .inl rfl, .inr (by have := hbb.out; have := hb2.out.size; show _ ≤ b'; omega), .inl rfl⟩
  · have hju := Lib.hid (fun V => rwith_un hD.out.2 hE.out.2 hun V)
    have hjf := Lib.hid (fun k => meet_un (hD.out.1.below (below_drewN (Below.refl _ _) k)) (hE.out.1.below (below_drewN (Below.refl _ _) k)) hun)
    clear hd he ha hb1 hb12 hun hKs0 hKs1
    go_enter Try.func66, Try.ntmps66
    go_wp2_with (first
      | (go_at_call 76; refine (hju.out _).mono ?_; rintro e5 w3 ⟨rfl, m3, rfl⟩)
      | (go_at_call 29; refine (hjf.out _).mono ?_; rintro e5 w3 ⟨rfl, m4, rfl⟩))
    go_ret
    exact hfin.out _ (below_drewN hb2.out _)
theorem with_meetL {w : World} {B : Nat} {d e : Option PD} (hd : PairAt w B d) (he : PairAt w B e) (ha : Apart d e) :
    Calls Try.prog 66 #[.agg #[PD.pp d, PD.qq d], .agg #[PD.pp e, PD.qq e], .bool true] w (StepP w B d) := by
  cases d with
  | none => exact withN_meet hd he (.inl rfl)
  | some x =>
    cases e with
    | none => exact withN_meet hd he (.inr rfl)
    | some y => exact withS_meet hd he ha
end Go.Proofs.Ytlghgfnkckaebaa

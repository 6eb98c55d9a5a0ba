/- KeySets: changes: what they leave. (Printed by tools/genac.py.) KeySets: changes, kind 1. (Printed by tools/genac.py.) -/
import Derived.Test.YtlolnpilpdkbkaaPkA30

namespace Go.Proofs.Ytlolnpilpdkbkaa
open Go.RowKit Go.Maps
set_option linter.unusedSimpArgs false
set_option linter.unusedVariables false

def ChgP (w0 : World) (T : List (List Nat)) (gw : Nat) (Ak : Option Addr) (ck : Nat) (K : List Kp) (e : Ending) (w' : World) : Prop :=
  e = .returned (.bool true) ∧ ∃ P, Eqs P ∧ WS w0 T gw P Ak ck K w'
theorem Eqs.up {P : Nat → Pl} (h : Eqs P) (i : Nat) (p : Pl) (hp : p.kp = p.kr) : Eqs (upP P i p) := fun j hj => by
  by_cases e : j = i
  · subst e; rw [upP_same]; exact hp
  · rw [upP_other P p e]; exact h j hj
theorem Eqs.up2 {P : Nat → Pl} (h : Eqs P) (i : Nat) (p p' : Pl) (hp : p'.kp = p'.kr) : Eqs (upP (upP P i p) i p') := fun j hj => by
  by_cases e : j = i
  · subst e; rw [upP_same]; exact hp
  · rw [upP_other _ _ e, upP_other _ _ e]; exact h j hj
/-- The cells of the other place. -/
structure CJ (gw j : Nat) (vj : Value) (qj : Nat) (W : World) : Prop where
  p : W.cell? ⟨gw, j, none⟩ = some vj
  r : W.cell? ⟨gw, 3 + j, none⟩ = some (.pointer (some ⟨qj, 0, none⟩))
/-- The struct's cells, the step's box. -/
structure CS (gw : Nat) (wc : List Value) (gs : Nat) (s : St) (W : World) : Prop where
  wld : W.heap[gw]? = some (.cells wc.toArray 55 (0, 0))
  box : SB gs s W
section
variable {gw gs : Nat} {wc : List Value} {s : St} {W W' : World}
theorem CS.below (h : CS gw wc gs s W) (hb : Below W.heap.size W W') : CS gw wc gs s W' := ⟨(hb.block _ (Array.getElem?_eq_some_iff.1 h.wld).1).trans h.wld, h.box.below hb⟩
theorem CS.only {X : Nat} (h : CS gw wc gs s W) (ho : Only X W W') : CS gw wc gs s W' := ⟨(ho.at_ h.wld (by decide)).trans h.wld, (ho.at_ h.box (by decide)).trans h.box⟩
theorem CS.cell (h : CS gw wc gs s W) {k : Nat} {v : Value} (hv : wc[k]? = some v) : W.cell? ⟨gw, k, none⟩ = some v := by
  unfold World.cell?
  simp only [h.wld, List.getElem?_toArray]
  exact hv
end
section
variable {w0 W W' : World} {T : List (List Nat)} {gw ck : Nat} {P : Nat → Pl} {Ak : Option Addr} {K : List Kp} {x : List Nat}
theorem isK_ins {ks : List (List Nat)} (hx : x ∈ T) (h : ∀ y ∈ ks, y ∈ T) : ∀ y ∈ insK x ks, y ∈ T := fun y hy => by
  rcases mem_insK.1 hy with rfl | hy
  · exact hx
  · exact h y hy
/-- The program's Add. -/
theorem WS.addP (h : WS w0 T gw P Ak ck K W) {i : Nat} (hi : i < 3) {r : Nat × Nat} (hr : (P i).o = some r) (hx : x ∈ T) (hs : SetO W' (P i).o (insK x (P i).kp)) (hg : W.grownBy W' (some r.2)) :
    Only r.2 W W' ∧ WS w0 T gw (upP P i { P i with kp := insK x (P i).kp }) Ak ck K W' := by
  have hO := h.only_m hi hr hg
  have hp := h.pl i hi
  have hb : Below w0.heap.size w0 W' := h.bel.grown hg h.bel.size (fun j hj => by cases hj; exact (hp.los r hr).2)
  refine ⟨hO, h.turn hi hO (.inr ⟨r, hr, rfl⟩) hb _ rfl rfl ⟨hs, ?_, hp.rise, hp.lo, hp.los, isK_ins hx hp.inP, hp.inR⟩⟩
  refine hp.ref.keep ?_ (fun k hk => by obtain ⟨cs, fr, ht⟩ := hp.ref.tag hk; exact hO.at_ ht (by decide))
  refine hO.chg _ hp.ref.lts.1 fun e => ?_
  have h3 := hp.set
  rw [hr] at h3
  obtain ⟨n, D, ⟨_, es, clock, b1, _⟩, _⟩ := h3
  have h4 := hp.ref.1
  rw [e, b1] at h4
  cases h4
theorem WS.delP (h : WS w0 T gw P Ak ck K W) {i : Nat} (hi : i < 3) {r : Nat × Nat} (hr : (P i).o = some r) (hs : SetO W' (P i).o (delK x (P i).kp)) (hg : W.grownBy W' (some r.2)) :
    Only r.2 W W' ∧ WS w0 T gw (upP P i { P i with kp := delK x (P i).kp }) Ak ck K W' := by
  have hO := h.only_m hi hr hg
  have hp := h.pl i hi
  have hb : Below w0.heap.size w0 W' := h.bel.grown hg h.bel.size (fun j hj => by cases hj; exact (hp.los r hr).2)
  refine ⟨hO, h.turn hi hO (.inr ⟨r, hr, rfl⟩) hb _ rfl rfl ⟨hs, ?_, hp.rise, hp.lo, hp.los, fun y hy => hp.inP y (mem_delK.1 hy).1, hp.inR⟩⟩
  refine hp.ref.keep ?_ (fun k hk => by obtain ⟨cs, fr, ht⟩ := hp.ref.tag hk; exact hO.at_ ht (by decide))
  refine hO.chg _ hp.ref.lts.1 fun e => ?_
  have h3 := hp.set
  rw [hr] at h3
  obtain ⟨n, D, ⟨_, es, clock, b1, _⟩, _⟩ := h3
  have h4 := hp.ref.1
  rw [e, b1] at h4
  cases h4
/-- The document's set has changed. -/
theorem WS.chgR (h : WS w0 T gw P Ak ck K W) {i : Nat} (hi : i < 3) {A : Option Addr} {c : Nat} {ks : List (List Nat)} (hs : RSet W' (P i).q A c ks) (hr : Rise32 ks) (hT : ∀ y ∈ ks, y ∈ T) (hu : Upd (fun k => k = (P i).q) W W') :
    Only (P i).q W W' ∧ WS w0 T gw (upP P i { P i with A := A, c := c, kr := ks }) Ak ck K W' := by
  have hO := h.only_q hi hu
  have hp := h.pl i hi
  have hb : Below w0.heap.size w0 W' := h.bel.trans (hu.below (fun k _ e => by rw [e]; exact hp.lo) h.bel.size)
  refine ⟨hO, h.turn hi hO (.inl rfl) hb _ rfl rfl ⟨?_, hs, hr, hp.lo, hp.los, hp.inP, hT⟩⟩
  refine hp.set.same (hO.set hp.set fun r hr2 e => ?_)
  have h3 := hp.set
  rw [hr2] at h3
  obtain ⟨n, D, ⟨_, es, clock, b1, _⟩, _⟩ := h3
  have h4 := hp.ref.1
  rw [← e, b1] at h4
  cases h4
end
section
variable {ka kb : List (List Nat)}
theorem union_eq (ra : Rise32 ka) (rb : Rise32 kb) : takeK (unionT ka kb) kb (takeK (unionT ka kb) ka []) = insAll kb (insAll ka []) :=
  Rise32.ext (takeK_rise rb.ok (takeK_rise ra.ok Rise32.nil)) (Rise32.insAll rb.ok (Rise32.insAll ra.ok Rise32.nil)) fun z => by
    simp [mem_takeK, mem_insAll, unionT]
theorem both_eq (ra : Rise32 ka) (rb : Rise32 kb) : takeK (bothT ka kb) kb (takeK (bothT ka kb) ka []) = takeK (fun z => decide (z ∈ kb)) ka [] :=
  Rise32.ext (takeK_rise rb.ok (takeK_rise ra.ok Rise32.nil)) (takeK_rise ra.ok Rise32.nil) fun z => by
    simp [mem_takeK, bothT] <;> (intro h1 h2 _; exact ⟨h2, h1⟩)
theorem minus_eq (ra : Rise32 ka) (rb : Rise32 kb) : takeK (minusT ka kb) kb (takeK (minusT ka kb) ka []) = takeK (fun z => !decide (z ∈ kb)) ka [] :=
  Rise32.ext (takeK_rise rb.ok (takeK_rise ra.ok Rise32.nil)) (takeK_rise ra.ok Rise32.nil) fun z => by
    simp [mem_takeK, minusT] <;> (intro h1 _ h3; exact absurd h1 h3)
end
theorem th_succ {j : Nat} (hj : j < 3) : th ((j : Int) + 1) < 3 ∧ j ≠ th ((j : Int) + 1) := by
  rcases (show j = 0 ∨ j = 1 ∨ j = 2 by omega) with rfl | rfl | rfl <;> decide
theorem WS.fresh {w0 W : World} {T : List (List Nat)} {gw ck : Nat} {P : Nat → Pl} {Ak : Option Addr} {K : List Kp} (h : WS w0 T gw P Ak ck K W) {t so mo q : Nat} (h1 : W.heap.size ≤ so) (h2 : W.heap.size ≤ mo) (h3 : W.heap.size ≤ q) :
    ∀ j, j < 3 → j ≠ t → (P j).q ≠ q ∧ ∀ r, (P j).o = some r → r.1 ≠ so ∧ r.2 ≠ mo := fun j hj _ => by
  have hp := h.pl j hj
  have l1 := hp.ref.lts.1
  refine ⟨by omega, fun r hr => ?_⟩
  have l2 := hp.set.lts hr
  omega
theorem upP_self (P : Nat → Pl) (i : Nat) : upP P i (P i) = P := by
  funext j
  by_cases e : j = i
  · subst e; rw [upP_same]
  · rw [upP_other P _ e]
section
variable {w0 W : World} {T : List (List Nat)} {gw ck : Nat} {P : Nat → Pl} {Ak : Option Addr} {K : List Kp} {x : List Nat}
theorem WS.callDelP (h : WS w0 T gw P Ak ck K W) {i : Nat} (hi : i < 3) (hx : IsK x) :
    Calls Try.prog 47 #[pv (P i).o, .agg (u8s x).toArray] W fun e w' => e = .returned (.bool (decide (x ∈ (P i).kp))) ∧ WS w0 T gw (upP P i { P i with kp := delK x (P i).kp }) Ak ck K w' ∧ ∀ gs s, SB gs s W → SB gs s w' := by
  refine (delO_any W _ _ (h.pl i hi).set x hx).mono ?_
  rintro e w' ⟨he, hs, hg⟩
  cases hr : (P i).o with
  | none =>
    rw [hr] at hg
    have hb : Below W.heap.size W w' := hg
    have hk : (P i).kp = [] := by have := (h.pl i hi).set; rw [hr] at this; exact this
    refine ⟨he, ?_, fun gs s hb2 => hb2.below hb⟩
    have e : ({ P i with kp := delK x (P i).kp } : Pl) = P i := by rw [hk]; show ({ P i with kp := [] } : Pl) = P i; rw [← hk]
    rw [e, upP_self]
    exact h.keep hb
  | some r =>
    rw [hr] at hg
    have hg : W.grownBy w' (some r.2) := hg
    obtain ⟨hO, hW⟩ := h.delP (x := x) hi hr hs hg
    exact ⟨he, hW, fun gs s hb => (hO.at_ hb (by decide)).trans hb⟩
theorem WS.callDelR (h : WS w0 T gw P Ak ck K W) (hT : T.length ≤ 1048576) {i : Nat} (hi : i < 3) (hx : IsK x) :
    Calls Try.prog 48 #[.pointer (some ⟨(P i).q, 0, none⟩), .agg (u8s x).toArray] W fun e w' => e = .returned (.bool (decide (x ∈ (P i).kr))) ∧ (∃ A c, WS w0 T gw (upP P i { P i with A := A, c := c, kr := delK x (P i).kr }) Ak ck K w') ∧ ∀ gs s, SB gs s W → SB gs s w' := by
  have hp := h.pl i hi
  refine (rDel_any W _ _ _ _ hp.ref hp.rise (by have := hp.lenR; omega) x hx).mono ?_
  rintro e w' ⟨he, ⟨A, c, hs⟩, hu⟩
  obtain ⟨hO, hW⟩ := h.chgR hi hs hp.rise.del (fun y hy => hp.inR y (mem_delK.1 hy).1) hu
  exact ⟨he, ⟨A, c, hW⟩, fun gs s hb => (hO.at_ hb (by decide)).trans hb⟩
theorem WS.callAddP (h : WS w0 T gw P Ak ck K W) (hT : T.length ≤ 1048576) {i : Nat} (hi : i < 3) (hx : IsK x) (hxT : x ∈ T) {r : Nat × Nat} (hr : (P i).o = some r) :
    Calls Try.prog 46 #[pv (P i).o, .agg (u8s x).toArray] W fun e w' => e = .returned (.bool (!decide (x ∈ (P i).kp))) ∧ WS w0 T gw (upP P i { P i with kp := insK x (P i).kp }) Ak ck K w' ∧ ∀ gs s, SB gs s W → SB gs s w' := by
  have hp := h.pl i hi
  refine (addO_any W _ _ hp.set (by have := hp.lenP; omega) x hx).mono ?_
  intro e w' hA
  have hset := hp.set
  rw [hr] at hA hset
  obtain ⟨he, hs, hg⟩ := hA
  obtain ⟨hO, hW⟩ := h.addP (x := x) hi hr hxT (by rw [hr]; exact hs) hg
  exact ⟨he, hW, fun gs s hb => (hO.at_ hb (by decide)).trans hb⟩
theorem WS.callAddR (h : WS w0 T gw P Ak ck K W) (hT : T.length ≤ 1048576) {i : Nat} (hi : i < 3) (hx : IsK x) (hxT : x ∈ T) :
    Calls Try.prog 38 #[.pointer (some ⟨(P i).q, 0, none⟩), .agg (u8s x).toArray] W fun e w' => e = .returned (.bool (!decide (x ∈ (P i).kr))) ∧ (∃ A c, WS w0 T gw (upP P i { P i with A := A, c := c, kr := insK x (P i).kr }) Ak ck K w') ∧ ∀ gs s, SB gs s W → SB gs s w' := by
  have hp := h.pl i hi
  refine (rAdd_any W _ _ _ _ hp.ref hp.rise (by have := hp.lenR; omega) x hx).mono ?_
  rintro e w' ⟨he, ⟨A, c, hs⟩, hu⟩
  obtain ⟨hO, hW⟩ := h.chgR hi hs (hp.rise.ins hx) (isK_ins hxT hp.inR) hu
  exact ⟨he, ⟨A, c, hW⟩, fun gs s hb => (hO.at_ hb (by decide)).trans hb⟩
end
end Go.Proofs.Ytlolnpilpdkbkaa

namespace Go.Proofs.Ytlolnpilpdkbkaa
open Go.RowKit Go.Maps
set_option linter.unusedSimpArgs false
set_option linter.unusedVariables false

set_option maxRecDepth 100000 in
set_option maxHeartbeats 4000000 in
theorem chg1 (w0 w : World) (T : List (List Nat)) (hT : T.length ≤ 1048576) (gw : Nat) (P : Nat → Pl) (Ak : Option Addr) (ck : Nat) (L : List Kp) (h : WS w0 T gw P Ak ck L w) (hE : Eqs P) (s : St) (hs : StOk w0 T s)
    (hk : s.kind = 1) :
    Calls Try.prog 24 #[.pointer (some ⟨gw, 0, none⟩), .agg (stepL s).toArray] w (ChgP w0 T gw Ak ck L) := by
  obtain ⟨gs, hgs⟩ : ∃ gs, w.heap.size = gs := ⟨_, rfl⟩
  obtain ⟨w1, hw1⟩ : ∃ w1, w.alloc (.cells (stepL s).toArray 60) = w1 := ⟨_, rfl⟩
  have hB : Below w.heap.size w w1 := by rw [← hw1]; exact (Below.refl _ _).alloc (Nat.le_refl _) _
  have hW1 := Lib.hid (h.keep hB)
  have hS1 : Hid (SB gs s w1) := Lib.hid (by rw [← hw1, ← hgs]; exact heap_alloc_new w _)
  obtain ⟨i, hi⟩ : ∃ i, th s.on = i := ⟨_, rfl⟩
  have hi3 : i < 3 := by rw [← hi]; exact th_lt _
  obtain ⟨j, hj⟩ : ∃ j, th s.wi = j := ⟨_, rfl⟩
  have hj3 : j < 3 := by rw [← hj]; exact th_lt _
  have h3a : Hid (∀ (W : World), Calls Try.prog 39 #[.int .i64 s.on] W fun e w' => e = .returned (.int .i64 (i : Int)) ∧ W = w') := Lib.hid (fun W => (three_any W s.on).mono fun e w' ⟨a, b⟩ => ⟨by rw [← hi]; exact a, b.symm⟩)
  have h3b : Hid (∀ (W : World), Calls Try.prog 39 #[.int .i64 s.wi] W fun e w' => e = .returned (.int .i64 (j : Int)) ∧ W = w') := Lib.hid (fun W => (three_any W s.wi).mono fun e w' ⟨a, b⟩ => ⟨by rw [← hj]; exact a, b.symm⟩)
  have hi3' := Lib.hid hi3
  have hj3' := Lib.hid hj3
  have hi3i : (i : Int) < 3 := by omega
  have hj3i : (j : Int) < 3 := by omega
  obtain ⟨p, hp⟩ : ∃ p, P i = p := ⟨_, rfl⟩
  have hp' := Lib.hid hp
  have hE' := Lib.hid hE
  have hEi : Hid (p.kp = p.kr) := Lib.hid (by rw [← hp]; exact hE i hi3)
  obtain ⟨Q, hQ⟩ : ∃ Q, ChgP w0 T gw Ak ck L = Q := ⟨_, rfl⟩
  have hfin : Hid (∀ P' W, Eqs P' → WS w0 T gw P' Ak ck L W → Q (.returned (.bool true)) W) := Lib.hid fun P' W he hW => by rw [← hQ]; exact ⟨rfl, P', he, hW⟩
  rw [hQ]
  have hs' := Lib.hid hs
  have hT' := Lib.hid hT
  obtain ⟨vs, hvs⟩ : ∃ vs, (stepL s).toArray = vs := ⟨_, rfl⟩
  rw [hvs] at hw1 ⊢
  have c0 := hS1.out.c0
  have c1 := hS1.out.c1
  have c2 := hS1.out.c2
  have d0 := hW1.out.cp hi3
  have d1 := hW1.out.cr hi3
  rw [hp] at d0 d1
  obtain ⟨vp, hvp⟩ : ∃ vp, pv p.o = vp := ⟨_, rfl⟩
  obtain ⟨q, hq⟩ : ∃ q, p.q = q := ⟨_, rfl⟩
  rw [hvp] at d0
  rw [hq] at d1
  have hvp' := Lib.hid hvp
  have hq' := Lib.hid hq
  have hi32 : Hid ((Try.prog.info? 25).map (·.size) = some 32) := Lib.hid (by kernel_rfl)
  have hzk := zeroKy
  have hkl : Hid (s.key.length = 32) := Lib.hid hs.key.1
  have hks : Hid ((u8s s.key).length = 32) := Lib.hid (by simp [u8s, hs.key.1])
  have hpl : Hid (∀ W, WS w0 T gw P Ak ck L W → PlAt w0 T p W) := Lib.hid fun W hW => by rw [← hp]; exact hW.pl i hi3
  obtain ⟨n, hn⟩ : ∃ n, s.xs.length = n := ⟨_, rfl⟩
  have hn' := Lib.hid hn
  have hnl : Hid (n ≤ 1048576) := Lib.hid (by rw [← hn]; exact hs'.out.len)
  have hKe : Hid (∀ W, Below w0.heap.size w0 W → Calls Try.prog 44 #[.slice s.A n s.c] W fun e w' => e = .returned (.slice (some ⟨W.heap.size, 0, none⟩) n (n + 9)) ∧ KBlk w' W.heap.size (keysL s.xs) ∧ Below W.heap.size W w') := Lib.hid fun W hW => by
    have := keys_any W s.A s.xs n s.c hn (by have := hnl.out; omega) (hs'.out.row.below hW)
    unfold KeysP at this
    rwa [hn] at this
  obtain ⟨KU, hKU⟩ : ∃ KU, insAll s.xs [] = KU := ⟨_, rfl⟩
  have hxk : ∀ x ∈ s.xs, IsK x := fun x hx => by
    obtain ⟨k, hk, rfl⟩ := List.mem_iff_getElem.1 hx
    exact (hs'.out.row k _ (List.getElem?_eq_getElem hk)).1
  have hxk' := Lib.hid hxk
  have hKr : Hid (Rise32 KU) := Lib.hid (by rw [← hKU]; exact Rise32.insAll hxk Rise32.nil)
  have hKT : Hid (∀ x ∈ KU, x ∈ T) := Lib.hid fun x hx => by
    rw [← hKU] at hx
    rcases mem_insAll.1 hx with h | h
    · exact hs'.out.inX x h
    · simp at h
  have hNs : Hid (∀ W kg, KBlk W kg (keysL s.xs) → Calls Try.prog 10 #[.slice (some ⟨kg, 0, none⟩) n (n + 9)] W fun e w' => e = .returned (.pointer (some ⟨W.heap.size + 1, 0, none⟩)) ∧ SetO w' (some (W.heap.size + 1, W.heap.size)) KU ∧ Below W.heap.size W w') := Lib.hid fun W kg hk => by
    have hrow : KeyRow W (some ⟨kg, 0, none⟩) s.xs := fun k x hx => by
      have hkl := (List.getElem?_eq_some_iff.1 hx).1
      have hat := keysL_at s.xs k (by omega)
      rw [if_pos hkl, hx, Option.getD_some] at hat
      refine ⟨hxk x (List.mem_of_getElem? hx), kg, 0, rfl, hk.lt (by rw [keysL_length]; omega), ?_⟩
      have := hk.at_ hat
      rwa [Nat.zero_add]
    have := newK_any W (some ⟨kg, 0, none⟩) s.xs n (n + 9) hn (by have := hnl.out; omega) hrow
    unfold NewK at this
    rw [hKU] at this
    exact this.mono fun e w' ⟨a, b, c⟩ => ⟨a, ⟨_, b⟩, c⟩
  have hUn : Hid (∀ W kg, Below w0.heap.size w0 W → w0.heap.size ≤ kg → KBlk W kg (keysL s.xs) → Calls Try.prog 45 #[.slice (some ⟨kg, 0, none⟩) n (n + 9), .slice s.A n s.c] W (UntP W kg)) := Lib.hid fun W kg hW hg hk =>
    untouched_any W kg s.A s.xs n s.c hn (by have := hnl.out; omega) (hs'.out.row.below hW) (fun k x hx b hb => by
      obtain ⟨_, b', off, e, hl, _⟩ := hs'.out.row k x hx
      rw [e] at hb
      have hb : b' = b := by simpa [blockOf] using hb
      omega) hk
  have hRn : Hid (∀ W, Below w0.heap.size w0 W → Calls Try.prog 22 #[.slice s.A n s.c] W (RNewP W KU)) := Lib.hid fun W hW => by
    have := rNew_any W s.A s.xs n s.c hn (by have := hnl.out; omega) (hs'.out.row.below hW)
    rwa [hKU] at this
  clear hn hKU hxk
  clear h hE hs hT hQ hB hvs hi3 hj3 hi hj hp hvp hq
  go_enter Try.func24, Try.ntmps24
  go_wp2_with fail
  go_quiet ((go_at_call 39; first | exact quiet_l (fun W => h3a.out W) | exact quiet_l (fun W => h3b.out W)))
  have hWa := Lib.hid (hW1.out.keep (below_drewN (Below.refl _ _) nq))
  have hSa := Lib.hid (hS1.out.below (below_drewN (Below.refl _ _) nq))
  clear hW1 hS1 c0 c1 c2 d0 d1
  generalize w1.drewN nq = wa at hWa hSa ⊢
  have d0 := hWa.out.cp hi3'.out
  have d1 := hWa.out.cr hi3'.out
  rw [hp'.out] at d0 d1
  rw [hvp'.out] at d0
  rw [hq'.out] at d1
  go_wp2_with fail
  go_quiet (fail)
  have hW2 := Lib.hid (hWa.out.keep (below_drewN (Below.refl _ _) nq))
  have hS2 := Lib.hid (hSa.out.below (below_drewN (Below.refl _ _) nq))
  clear hWa hSa d0 d1
  generalize wa.drewN nq = w2 at hW2 hS2 ⊢
  have c0 := hS2.out.c0
  rw [hk] at c0
  have c35 := hS2.out.c35 hkl.out
  rw [hn'.out] at c35
  go_wp2_with (first
    | (go_at_call 44; refine (hKe.out _ hW2.out.bel).mono ?_; rintro e wk ⟨rfl, hK, bk⟩
       have hKk := Lib.hid hK
       have bk' := Lib.hid bk
       have hg0 : Hid (w0.heap.size ≤ w2.heap.size ∧ w2.heap.size < wk.heap.size) := Lib.hid ⟨hW2.out.bel.size, hK.lt (by rw [keysL_length]; omega)⟩
       obtain ⟨kg, hkg⟩ : ∃ kg, w2.heap.size = kg := ⟨_, rfl⟩
       rw [hkg] at hKk hg0 ⊢
       have hkg' := Lib.hid hkg
       clear hK bk hKe hkg c35)
    | (go_at_call 10; refine (hNs.out _ _ hKk.out).mono ?_; rintro e wn ⟨rfl, hset, bn⟩
       have hset' := Lib.hid hset
       have hKn : Hid (KBlk wn kg (keysL s.xs)) := Lib.hid (hKk.out.same (bn.block _ hg0.out.2))
       have bn' : Hid (Below w2.heap.size w2 wn) := Lib.hid (bk'.out.trans (bn.mono bk'.out.size))
       have hsz : Hid (wk.heap.size ≤ wn.heap.size) := Lib.hid bn.size
       have hSn := Lib.hid (hS2.out.below bn'.out)
       have c35 := hSn.out.c35 hkl.out
       rw [hn'.out] at c35
       clear hset bn hNs)
    | (go_at_call 45; refine (hUn.out _ _ (hW2.out.bel.trans (bn'.out.mono hW2.out.bel.size)) hg0.out.1 hKn.out).mono ?_; rintro e wu ⟨rfl, hu⟩
       have bu : Hid (Below w2.heap.size w2 wu) := Lib.hid (bn'.out.trans (hu.below (fun k _ e => by rw [e, hkg'.out]; exact Nat.le_refl _) bn'.out.size))
       have hsetu : Hid (SetO wu (some (wk.heap.size + 1, wk.heap.size)) KU) := Lib.hid (hset'.out.same fun r hr => by
         have hl := hset'.out.lts hr
         cases hr
         have := hg0.out.2
         exact ⟨hu.block _ hl.1 (by show wk.heap.size + 1 ≠ kg; omega), hu.block _ hl.2 (by show wk.heap.size ≠ kg; omega)⟩)
       have hWu := Lib.hid (hW2.out.keep bu.out)
       have hSu := Lib.hid (hS2.out.below bu.out)
       have c35 := hSu.out.c35 hkl.out
       rw [hn'.out] at c35
       clear hu hUn)
    | (go_at_call 22; refine (hRn.out _ hWu.out.bel).mono ?_; rintro e wr ⟨q2, A2, c2, rfl, href, br, l3⟩
       have hWr := Lib.hid (hWu.out.keep br)
       have hk2 := hg0.out
       have hpn : Hid (PlAt w0 T ⟨some (wk.heap.size + 1, wk.heap.size), KU, q2, A2, c2, KU⟩ wr) := Lib.hid ⟨hsetu.out.below br, href, hKr.out, Nat.le_trans hWu.out.bel.size l3, fun r hr => by cases hr; exact ⟨by show w0.heap.size ≤ wk.heap.size + 1; omega, by show w0.heap.size ≤ wk.heap.size; omega⟩, hKT.out, hKT.out⟩
       have hnw := Lib.hid (hW2.out.fresh (t := i) (so := wk.heap.size + 1) (mo := wk.heap.size) (q := q2) (by rw [hkg'.out]; omega) (by rw [hkg'.out]; omega) (Nat.le_trans bu.out.size l3))
       clear br l3 href hk2 hRn)
    | (go_at_call 21; refine (put_any w0 _ T gw P Ak ck L hWr.out i hi3'.out (wk.heap.size + 1) wk.heap.size KU q2 A2 c2 KU hpn.out hnw.out).mono ?_; rintro e wp ⟨rfl, hW9⟩
       have hf := Lib.hid (hfin.out _ _ (hE'.out.up i _ rfl) hW9)
       clear hW9 hWr))
  exact hf.out
end Go.Proofs.Ytlolnpilpdkbkaa

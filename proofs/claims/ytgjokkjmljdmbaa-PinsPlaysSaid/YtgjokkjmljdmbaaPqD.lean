/- done: pairs of calls, the program's and the document's, answer alike. -/
import Derived.Test.YtgjokkjmljdmbaaPqR
import Derived.Test.YtgjokkjmljdmbaaPwP
namespace Go.Proofs.Ytgjokkjmljdmbaa
open Go.RowKit Go.Maps
set_option linter.unusedSimpArgs false
set_option linter.unusedVariables false

theorem wr_tag {w : World} {p k : Nat} {L : List (Option Ses)} (h : PinsAt w p L) (hk : Wr p L k) {cs : Array Value} {t : TypeId} {fr : Nat × Nat} (hh : w.heap[k]? = some (.cells cs t fr)) : t = 53 ∨ t = 57 := by
  rcases hk with rfl | ⟨i, σ, hi, rfl | rfl⟩
  · rw [h.cells] at hh
    cases hh
    exact .inl rfl
  · rw [(h.ses i σ hi).1] at hh
    cases hh
    exact .inr rfl
  · obtain ⟨h1, D, ⟨h2, es, clock, h3, _⟩, _⟩ := h.ses i σ hi
    rw [h3] at hh
    cases hh
section
variable {w w' : World} {p q : Nat} {L : List (Option Ses)} {f : Nat → RSes}
theorem RefAt.updP (h : RefAt w q f) (hp : PinsAt w p L) (hu : Upd (Wr p L) w w') : RefAt w' q f :=
  h.keep (hu.block _ h.lt fun hk => by have := wr_tag hp hk h.cells; revert this; decide) fun i hi k hk => hu.block _ ((h.row i hi).lt k hk).2 fun hw => by
    obtain ⟨cs, fr, h1⟩ := own_tag (h.row i hi) hk
    have := wr_tag hp hw h1
    revert this
    decide
theorem PinsAt.updR (h : PinsAt w p L) (hr : RefAt w q f) (hu : Upd (AtQ q) w w') : PinsAt w' p L := by
  have hne : ∀ {k : Nat} {cs : Array Value} {t : TypeId} {fr : Nat × Nat}, w.heap[k]? = some (.cells cs t fr) → t ≠ 67 → k ≠ q := fun hk ht e => by
    rw [e, hr.cells] at hk
    cases hk
    exact ht rfl
  refine ⟨h.len, (hu.block _ h.lt (hne h.cells (by decide))).trans h.cells, fun i σ hi => ?_, h.sep⟩
  have hs := h.ses i σ hi
  obtain ⟨l1, l2, l3⟩ := hs.lts
  obtain ⟨h1, D, ⟨h2, es, clock, h3, _⟩, _⟩ := id hs
  refine hs.keep (hu.block _ l1 (hne h1 (by decide))) (hu.block _ l2 (hne h2 (by decide))) (hu.block _ l3 fun e => ?_)
  rw [show σ.mb = q from e, hr.cells] at h3
  cases h3
end
/-- What is new in a table: its blocks, its numbers. -/
def GL (w1 : World) (p N : Nat) (L L' : List (Option Ses)) : Prop :=
  (∀ k, Wr p L' k → Wr p L k ∨ w1.heap.size ≤ k) ∧ ∀ (i : Nat) σ, L'[i]? = some (some σ) → σ.n ≤ N + 1 ∧ σ.busy ≤ N + 1 ∧ σ.ks.length ≤ N + 1
/-- Both calls answer v; one content is left. -/
def PairOk (fP fR : Nat) (argf : Value → Array Value) (w1 : World) (B p : Nat) (L : List (Option Ses)) (q : Nat) (f : Nat → RSes) (N : Nat) : Prop :=
  ∃ (v : Int) (X : List (Option Ses) → Prop),
    Calls Try.prog fP (argf (.pointer (some ⟨p, 0, none⟩))) w1 (fun e w' => e = .returned (.int .i64 v) ∧ ∃ L', GL w1 p N L L' ∧ X L' ∧ PinsAt w' p L' ∧ Upd (Wr p L) w1 w') ∧
    ∀ W L', X L' → RefAt W q f → Calls Try.prog fR (argf (.pointer (some ⟨q, 0, none⟩))) W (fun e w' => e = .returned (.int .i64 v) ∧ ∃ f', Rel L' f' ∧ RefAt w' q f' ∧ Upd (AtQ q) W w')
section
variable {w1 : World} {B p q N : Nat} {L : List (Option Ses)} {f : Nat → RSes}
theorem GL.same (h : Duo w1 B p L q f N) : GL w1 p N L L := ⟨fun k hk => .inl hk, fun i σ hi => by have := h.small i σ hi; omega⟩
theorem GL.set (h : Duo w1 B p L q f N) {k : Nat} {y : Option Ses} (hy : ∀ σ, y = some σ → (∀ j, j = σ.sb ∨ j = σ.mb → Wr p L j ∨ w1.heap.size ≤ j) ∧ σ.n ≤ N + 1 ∧ σ.busy ≤ N + 1 ∧ σ.ks.length ≤ N + 1) : GL w1 p N L (L.set k y) := by
  refine ⟨fun j hj => ?_, fun i σ hi => ?_⟩
  · rcases wr_set hj with h1 | ⟨σ, e, h1⟩
    · exact .inl h1
    · exact (hy σ e).1 j h1
  · rw [List.getElem?_set] at hi
    split at hi
    · split at hi
      · cases hi
        exact (hy σ rfl).2
      · cases hi
    · have := h.small i σ hi
      omega
theorem atS_of {k : Nat} {σ : Ses} (h : Duo w1 B p L q f N) (hk : k < 16) (hL : L[k]? = some (some σ)) : atS L (k : Int) = some σ := by
  have := h.pins.get hk
  rw [hL] at this
  exact (Option.some.inj this).symm
theorem open_pair (h : Duo w1 B p L q f N) (s : Int) : PairOk 6 24 (fun a => #[a, .int .i64 s]) w1 B p L q f N := by
  by_cases hs : ¬ (0 ≤ s ∧ s < 16) ∨ ∃ σ, atS L s = some σ
  · refine ⟨if 0 ≤ s ∧ s < 16 then 141 else 140, fun L' => L' = L, (pOpen_no w1 p L h.pins s hs).mono fun e w' ⟨h1, h2⟩ => ?_, fun W L' hX hR => ?_⟩
    · subst h2
      exact ⟨h1, L, GL.same h, rfl, h.pins, Upd.refl _ _⟩
    · subst hX
      refine (rOpen_no W q f hR s ?_).mono fun e w' ⟨h1, h2⟩ => ?_
      · rcases hs with hs | ⟨σ, hσ⟩
        · exact .inl hs
        · obtain ⟨k, rfl, hk, _, ho, _⟩ := h.rel.at hσ
          exact .inr (by rw [opR_nat f hk]; exact ho)
      · subst h2
        exact ⟨h1, f, h.rel, hR, Upd.refl _ _⟩
  · have h1 : 0 ≤ s ∧ s < 16 := by
      rcases Classical.em (0 ≤ s ∧ s < 16) with h1 | h1
      · exact h1
      · exact absurd (.inl h1) hs
    have h2 : atS L s = none := by
      cases ha : atS L s with
      | none => rfl
      | some σ => exact absurd (.inr ⟨σ, ha⟩) hs
    obtain ⟨k, rfl⟩ : ∃ k : Nat, s = k := ⟨s.toNat, by omega⟩
    have hk : k < 16 := by omega
    have hf : f k = ⟨false, 0, [], none, 0⟩ := by
      have hg := h.rel.get hk
      rw [h2] at hg
      exact h.rel.2 k _ hg
    refine ⟨0, fun L' => ∃ σ : Ses, L' = L.set k (some σ) ∧ σ.ks = [] ∧ σ.busy = 0, (pOpen_new w1 p L h.pins k hk h2).mono fun e w' ⟨h3, σ, hσ, h4, h5⟩ => ?_, fun W L' hX hR => ?_⟩
    · refine ⟨h3, _, GL.set h fun τ hτ => ?_, ⟨σ, rfl, hσ.ks, hσ.busy⟩, h4, h5⟩
      cases hτ
      have hlo := hσ.lo
      refine ⟨fun j hj => .inr ?_, by rw [hσ.n]; omega, by rw [hσ.busy]; omega, by rw [hσ.ks]; simp⟩
      rcases hj with rfl | rfl
      · exact hlo.1
      · exact hlo.2.1
    · obtain ⟨σ, rfl, e1, e2⟩ := hX
      refine (rOpen_new W q f hR k hk (by rw [hf])).mono fun e w' ⟨h3, h4, h5⟩ => ⟨h3, _, h.rel.set ?_, h4, h5⟩
      exact ⟨rfl, by rw [hf, e2], by rw [hf, e1]⟩
theorem close_pair (h : Duo w1 B p L q f N) (s : Int) : PairOk 23 25 (fun a => #[a, .int .i64 s]) w1 B p L q f N := by
  have hc := pClose_any w1 p L h.pins s
  unfold PCloseP closeL at hc
  cases ha : atS L s with
  | none =>
    rw [ha] at hc
    refine ⟨140, fun L' => L' = L, hc.mono fun e w' ⟨h1, h2, h3⟩ => ⟨h1, L, GL.same h, rfl, h2, h3⟩, fun W L' hX hR => ?_⟩
    subst hX
    refine (rClose_no W q f hR s (h.rel.no ha)).mono fun e w' ⟨h1, h2⟩ => ?_
    subst h2
    exact ⟨h1, f, h.rel, hR, Upd.refl _ _⟩
  | some σ =>
    rw [ha] at hc
    obtain ⟨k, rfl, hk, hL, ho, hb, hks⟩ := h.rel.at ha
    by_cases hbz : 0 < σ.busy
    · simp only [if_pos hbz] at hc
      refine ⟨142, fun L' => L' = L, hc.mono fun e w' ⟨h1, h2, h3⟩ => ⟨by rw [h1]; unfold closeE; simp only [if_pos hbz], L, GL.same h, rfl, h2, h3⟩, fun W L' hX hR => ?_⟩
      subst hX
      refine (rClose_busy W q f hR k hk ho (by omega)).mono fun e w' ⟨h1, h2⟩ => ?_
      subst h2
      exact ⟨h1, f, h.rel, hR, Upd.refl _ _⟩
    · simp only [if_neg hbz, Int.toNat_natCast] at hc
      refine ⟨0, fun L' => L' = L.set k none, hc.mono fun e w' ⟨h1, h2, h3⟩ => ⟨by rw [h1]; unfold closeE; simp only [if_neg hbz], _, GL.set h (fun τ hτ => by cases hτ), rfl, h2, h3⟩, fun W L' hX hR => ?_⟩
      subst hX
      exact (rClose_ok W q f hR k hk ho (by omega)).mono fun e w' ⟨h1, h2, h3⟩ => ⟨h1, _, h.rel.set rfl, h2, h3⟩
theorem pin_pair (h : Duo w1 B p L q f N) (hN : N < 4398046511104) (s : Int) (x : List Nat) (hx : IsK x) : PairOk 7 26 (fun a => #[a, .int .i64 s, .agg (u8s x).toArray]) w1 B p L q f N := by
  have hc := pPin_any w1 p L h.pins s x hx (fun σ hσ => by
    obtain ⟨k, _, _, hk⟩ := h.pins.atS_some hσ
    have := (h.small k σ hk).1
    omega)
  unfold PinP pinL at hc
  cases ha : atS L s with
  | none =>
    rw [ha] at hc
    refine ⟨140, fun L' => L' = L, hc.mono fun e w' ⟨h1, h2, h3⟩ => ⟨h1, L, GL.same h, rfl, h2, h3⟩, fun W L' hX hR => ?_⟩
    subst hX
    exact (rPin_no W q f hR s (h.rel.no ha) x).mono fun e w' ⟨h1, h2⟩ => ⟨h1, f, h.rel, hR.below h2 (Nat.le_refl _), Upd.of_below h2⟩
  | some σ =>
    rw [ha] at hc
    obtain ⟨k, rfl, hk, hL, ho, hb, hks⟩ := h.rel.at ha
    simp only [Int.toNat_natCast] at hc
    have hsm := h.small k σ hL
    refine ⟨0, fun L' => L' = L.set k (some (pinS x σ)), hc.mono fun e w' ⟨h1, h2, h3⟩ => ⟨h1, _, GL.set h fun τ hτ => ?_, rfl, h2, h3⟩, fun W L' hX hR => ?_⟩
    · cases hτ
      refine ⟨fun j hj => .inl (.inr ⟨k, σ, hL, hj⟩), by simp only [pinS]; omega, by simp only [pinS]; omega, ?_⟩
      have := length_insK_le x σ.ks
      simp only [pinS]
      omega
    · subst hX
      refine (rPin_ok W q f hR k hk ho (by rw [hks]; omega) x hx).mono fun e w' ⟨h1, ⟨A, c, h2⟩, h3⟩ => ⟨h1, _, h.rel.set ?_, h2, h3⟩
      exact ⟨ho, hb, by rw [hks]; rfl⟩
theorem enter_pair (h : Duo w1 B p L q f N) (hN : N < 4398046511104) (s : Int) : PairOk 27 28 (fun a => #[a, .int .i64 s]) w1 B p L q f N := by
  cases ha : atS L s with
  | none =>
    refine ⟨140, fun L' => L' = L, (pEnter_no w1 p L h.pins s ha).mono fun e w' ⟨h1, h2⟩ => ?_, fun W L' hX hR => ?_⟩
    · subst h2
      exact ⟨h1, L, GL.same h, rfl, h.pins, Upd.refl _ _⟩
    · subst hX
      refine (rEnter_no W q f hR s (h.rel.no ha)).mono fun e w' ⟨h1, h2⟩ => ?_
      subst h2
      exact ⟨h1, f, h.rel, hR, Upd.refl _ _⟩
  | some σ =>
    obtain ⟨k, rfl, hk, hL, ho, hb, hks⟩ := h.rel.at ha
    have hsm := h.small k σ hL
    refine ⟨0, fun L' => L' = L.set k (some { σ with busy := σ.busy + 1 }), (pEnter_ok w1 p L h.pins k hk σ hL (by omega)).mono fun e w' ⟨h1, h2, h3⟩ => ⟨h1, _, GL.set h fun τ hτ => ?_, rfl, h2, h3⟩, fun W L' hX hR => ?_⟩
    · cases hτ
      exact ⟨fun j hj => .inl (.inr ⟨k, σ, hL, hj⟩), by simp only; omega, by simp only; omega, by simp only; omega⟩
    · subst hX
      refine (rEnter_ok W q f hR k σ.busy hk ho hb (by omega)).mono fun e w' ⟨h1, h2, h3⟩ => ⟨h1, _, h.rel.set ?_, h2, h3⟩
      exact ⟨ho, rfl, hks⟩
theorem leave_pair (h : Duo w1 B p L q f N) (hN : N < 4398046511104) (s : Int) : PairOk 29 30 (fun a => #[a, .int .i64 s]) w1 B p L q f N := by
  cases ha : atS L s with
  | none =>
    refine ⟨140, fun L' => L' = L, (pLeave_no w1 p L h.pins s ha).mono fun e w' ⟨h1, h2⟩ => ?_, fun W L' hX hR => ?_⟩
    · subst h2
      exact ⟨h1, L, GL.same h, rfl, h.pins, Upd.refl _ _⟩
    · subst hX
      refine (rLeave_no W q f hR s (h.rel.no ha)).mono fun e w' ⟨h1, h2⟩ => ?_
      subst h2
      exact ⟨h1, f, h.rel, hR, Upd.refl _ _⟩
  | some σ =>
    obtain ⟨k, rfl, hk, hL, ho, hb, hks⟩ := h.rel.at ha
    have hsm := h.small k σ hL
    by_cases hz : σ.busy = 0
    · refine ⟨3, fun L' => L' = L, (pLeave_0 w1 p L h.pins k hk σ hL hz).mono fun e w' ⟨h1, h2⟩ => ?_, fun W L' hX hR => ?_⟩
      · subst h2
        exact ⟨h1, L, GL.same h, rfl, h.pins, Upd.refl _ _⟩
      · subst hX
        refine (rLeave_0 W q f hR k hk ho (by omega)).mono fun e w' ⟨h1, h2⟩ => ?_
        subst h2
        exact ⟨h1, f, h.rel, hR, Upd.refl _ _⟩
    · obtain ⟨m, hm⟩ : ∃ m, σ.busy = m + 1 := ⟨σ.busy - 1, by omega⟩
      refine ⟨0, fun L' => L' = L.set k (some { σ with busy := m }), (pLeave_ok w1 p L h.pins k m hk σ hL hm (by omega)).mono fun e w' ⟨h1, h2, h3⟩ => ⟨h1, _, GL.set h fun τ hτ => ?_, rfl, h2, h3⟩, fun W L' hX hR => ?_⟩
      · cases hτ
        exact ⟨fun j hj => .inl (.inr ⟨k, σ, hL, hj⟩), by simp only; omega, by simp only; omega, by simp only; omega⟩
      · subst hX
        refine (rLeave_ok W q f hR k m hk ho (by omega) (by omega)).mono fun e w' ⟨h1, h2, h3⟩ => ⟨h1, _, h.rel.set ?_, h2, h3⟩
        exact ⟨ho, rfl, hks⟩
end
/-- What a step leaves. -/
def DoneP (w : World) (B p : Nat) (L : List (Option Ses)) (q : Nat) (f : Nat → RSes) (N : Nat) (e : Ending) (w' : World) : Prop :=
  e = .returned (.bool true) ∧ ∃ L' f', Duo w' B p L' q f' (N + 1) ∧ Upd (DuoF p L q) w w' ∧ ∀ k, DuoF p L' q k → DuoF p L q k ∨ w.heap.size ≤ k
end Go.Proofs.Ytgjokkjmljdmbaa

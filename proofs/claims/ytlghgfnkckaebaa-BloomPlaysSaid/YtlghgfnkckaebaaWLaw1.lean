/- Two filters as the law holds them; told. -/
import Derived.Test.YtlghgfnkckaebaaWRf4
import Derived.Test.YtlghgfnkckaebaaWTold0
namespace Go.Proofs.Ytlghgfnkckaebaa
open Go.RowKit
set_option linter.unusedSimpArgs false
set_option linter.unusedVariables false

theorem same_reflL (x : Nat) (w : World) : Calls Try.prog 14 #[.float .f64 x, .float .f64 x] w fun e w' => e = .returned (.bool true) ∧ w = w' := by
  by_cases h : (FloatKind.f64.format.order x x == some .eq) = true
  · go_enter Try.func14, Try.ntmps14
    go_wp2
    go_ret
    exact ⟨rfl, rfl⟩
  · have h' : (FloatKind.f64.format.order x x == some .eq) = false := by simpa using h
    have h2 : (FloatKind.f64.format.order x x != some .eq) = true := by simpa using h
    go_enter Try.func14, Try.ntmps14
    go_wp2
    go_ret
    exact ⟨rfl, rfl⟩
set_option maxRecDepth 20000 in
set_option maxHeartbeats 1000000 in
theorem shape_any {w : World} {B g h c : Nat} {A : Option Addr} {l : List Nat} (f : Flt w B g A c l h) : Calls Try.prog 55 #[.pointer (some ⟨g, 0, none⟩)] w fun e w' => e = .returned (.tuple #[.int .i64 ((64 * l.length : Nat) : Int), .int .i64 (h : Int)]) ∧ ∃ m, w' = w.drewN m := by
  have hth := Lib.hid (there_any f)
  have c0 := f.c0
  have c1 := f.c1
  have nm := f.nm
  clear f
  obtain ⟨n, hn⟩ : ∃ n, l.length = n := ⟨_, rfl⟩
  rw [hn] at c0 nm ⊢
  obtain ⟨N, hN⟩ : ∃ N, 64 * n = N := ⟨_, rfl⟩
  have e64 : (n : Int) * 64 = (N : Int) := by omega
  rw [hN]
  clear hn hN
  go_enter Try.func55, Try.ntmps55
  go_wp2_with (go_at_call 48; refine hth.out.mono ?_; rintro e w2 ⟨rfl, rfl⟩)
  go_quiet (fail)
  go_wp2_with fail
  go_ret2
  exact ⟨rfl, _, rfl⟩
/-- A filter of the program's beside the document's: where each lies. -/
structure PD where
  g : Nat
  A : Nat
  c : Nat
  r : Nat
  b : Nat
  cb : Nat
  l : List Nat
  h : Nat
def PD.pp : Option PD → Value
  | none => .pointer none
  | some d => .pointer (some ⟨d.g, 0, none⟩)
def PD.qq : Option PD → Value
  | none => .pointer none
  | some d => .pointer (some ⟨d.r, 0, none⟩)
def PairAt (w : World) (B : Nat) : Option PD → Prop
  | none => True
  | some d => Flt w B d.g (some ⟨d.A, 0, none⟩) d.c d.l d.h ∧ RF w B d.r d.b d.cb d.l d.h
theorem PairAt.below {w w' : World} {B : Nat} {d : Option PD} (h : PairAt w B d) (hb : Below w.heap.size w w') : PairAt w' B d := by
  cases d with
  | none => trivial
  | some d => exact ⟨h.1.below hb, h.2.below hb⟩
/-- What a filter's changes may touch. -/
def Mut : Option PD → Nat → Prop
  | none, _ => False
  | some d, k => k = d.A ∨ k = d.b ∨ k = d.r
def Apart : Option PD → Option PD → Prop
  | some d, some e => d.A ≠ e.A ∧ d.b ≠ e.b ∧ d.r ≠ e.r
  | _, _ => True
theorem Apart.symm {d e : Option PD} (h : Apart d e) : Apart e d := by
  cases d <;> cases e <;> first | trivial | exact ⟨h.1.symm, h.2.1.symm, h.2.2.symm⟩
/-- A block's kind. -/
def typ (w : World) (k : Nat) : Option TypeId := match w.heap[k]? with | some (.cells _ t _) => some t | _ => none
theorem typ_ne {w : World} {k k' : Nat} {t t' : TypeId} (h : typ w k = some t) (h' : typ w k' = some t') (hne : t ≠ t') : k ≠ k' := fun e => by
  subst e
  rw [h] at h'
  injection h' with h'
  exact hne h'
theorem typ_cells {w : World} {k : Nat} {cs : Array Value} {t : TypeId} {fz : Nat × Nat} (h : w.heap[k]? = some (.cells cs t fz)) : typ w k = some t := by
  unfold typ
  rw [h]
section
variable {w : World} {B : Nat} {d : PD}
theorem PairAt.tg (h : PairAt w B (some d)) : typ w d.g = some 55 := typ_cells h.1.blk
theorem PairAt.tr (h : PairAt w B (some d)) : typ w d.r = some 89 := typ_cells (RFlt.blk h.2)
theorem PairAt.tA (h : PairAt w B (some d)) : typ w d.A = some 77 := by
  obtain ⟨a, cs, e, _, ha⟩ := h.1.row.row h.1.n1
  injection e with e
  injection e with e
  rw [e]
  exact typ_cells ha
theorem PairAt.tb (h : PairAt w B (some d)) : typ w d.b = some 4 := by
  have o := RFlt.own h.2
  rcases o.2 with ⟨q, _⟩ | ⟨k2, cap, cur, hv, _, hc, _⟩
  · cases q
  · injection hv with hv
    injection hv with hv
    injection hv with hv _ _
    rw [hv]
    exact typ_cells hc
end
/-- Another filter stays. -/
theorem PairAt.keep {w w' : World} {B : Nat} {d e : Option PD} (h : PairAt w B d) (he : PairAt w B e) (ha : Apart d e) {D : Nat → Prop} (hf : Fr D w w') (hD : ∀ k, D k → Mut e k ∨ typ w k = some 57) : PairAt w' B d := by
  cases d with
  | none => trivial
  | some d =>
    have no : ∀ k t, typ w k = some t → t ≠ 57 → (∀ x, e = some x → k ≠ x.A ∧ k ≠ x.b ∧ k ≠ x.r) → ¬ D k := fun k t ht hne hx q => by
      rcases hD k q with q | q
      · cases e with
        | none => exact q
        | some x =>
          obtain ⟨h1, h2, h3⟩ := hx x rfl
          rcases q with q | q | q
          · exact h1 q
          · exact h2 q
          · exact h3 q
      · exact typ_ne ht q hne rfl
    have hg : ¬ D d.g := no _ _ h.tg (by decide) fun x hx => by
      subst hx
      exact ⟨typ_ne h.tg he.tA (by decide), typ_ne h.tg he.tb (by decide), typ_ne h.tg he.tr (by decide)⟩
    have hA : ¬ D d.A := no _ _ h.tA (by decide) fun x hx => by
      subst hx
      exact ⟨ha.1, typ_ne h.tA he.tb (by decide), typ_ne h.tA he.tr (by decide)⟩
    have hr : ¬ D d.r := no _ _ h.tr (by decide) fun x hx => by
      subst hx
      exact ⟨typ_ne h.tr he.tA (by decide), typ_ne h.tr he.tb (by decide), ha.2.2⟩
    have hb : ¬ D d.b := no _ _ h.tb (by decide) fun x hx => by
      subst hx
      exact ⟨typ_ne h.tb he.tA (by decide), ha.2.1, typ_ne h.tb he.tr (by decide)⟩
    exact ⟨h.1.fr hf hg (fun k hk => by injection hk with hk; subst hk; exact hA), h.2.fr hf hr hb⟩
set_option maxRecDepth 20000 in
set_option maxHeartbeats 2000000 in
theorem told_yes {w : World} {B : Nat} {d : PD} (h : PairAt w B (some d)) : Calls Try.prog 25 #[.agg #[.pointer (some ⟨d.g, 0, none⟩), .pointer (some ⟨d.r, 0, none⟩)]] w fun e w' => e = .returned (.bool true) ∧ Below w.heap.size w w' := by
  obtain ⟨f, r⟩ := h
  obtain ⟨g, A, c, rr, b, cb, l, hh⟩ := d
  simp only at f r ⊢
  obtain ⟨K, hK⟩ : ∃ K, w.heap.size = K := ⟨_, rfl⟩
  obtain ⟨w1, hw1⟩ : ∃ w1, w.alloc (.cells #[.pointer (some ⟨g, 0, none⟩), .pointer (some ⟨rr, 0, none⟩)] 57) = w1 := ⟨_, rfl⟩
  have hb1 : Hid (Below w.heap.size w w1) := Lib.hid (by rw [← hw1]; exact (Below.refl _ _).alloc (Nat.le_refl _) _)
  have hc1 : w1.heap[K]? = some (.cells #[.pointer (some ⟨g, 0, none⟩), .pointer (some ⟨rr, 0, none⟩)] 57 (0, 0)) := by rw [← hw1, ← hK]; exact heap_alloc_new w _
  have c0 : w1.cell? ⟨K, 0, none⟩ = some (.pointer (some ⟨g, 0, none⟩)) := cell_of_row _ _ _ _ _ _ hc1
  have c1 : w1.cell? ⟨K, 1, none⟩ = some (.pointer (some ⟨rr, 0, none⟩)) := cell_of_row _ _ _ _ _ _ hc1
  have f1 := f.below hb1.out
  have r1 := r.below hb1.out
  have d0 := r1.c0
  have d1 := r1.c1
  have hsh := Lib.hid (shape_any f1)
  have hF : Hid (∀ k, Flt (w1.drewN k) B g (some ⟨A, 0, none⟩) c l hh) := Lib.hid fun k => f1.below (below_drewN (Below.refl _ _) k)
  have hR : Hid (∀ k, RF (w1.drewN k) B rr b cb l hh) := Lib.hid fun k => r1.below (below_drewN (Below.refl _ _) k)
  obtain ⟨N, hN⟩ : ∃ N, 64 * l.length = N := ⟨_, rfl⟩
  rw [hN] at hsh d0
  have hon := Lib.hid (fun k => ones_any (hF.out k))
  have hro := Lib.hid (fun k => rones_any (hR.out k))
  have hfi := Lib.hid (fun k => fill_any (hF.out k))
  have hrf := Lib.hid (fun k => rfill_any (hR.out k))
  have hal := Lib.hid (fun k => alarm_any (hF.out k))
  have hra := Lib.hid (fun k => ralarm_any (hR.out k))
  rw [hN] at hfi hrf hal hra
  generalize alarmF (popL l) N hh = z1 at hal hra
  generalize fillF (popL l) N = z2 at hfi hrf
  generalize popL l = z3 at hon hro
  clear hc1 f r f1 r1 hN
  go_enter Try.func25, Try.ntmps25
  go_wp2_with (go_at_call 55; refine hsh.out.mono ?_; rintro e w9 ⟨rfl, m9, rfl⟩)
  go_quiet (first
    | (go_at_call 28; exact quiet_e2 (hon.out _))
    | (go_at_call 56; exact quiet_e2 (hro.out _))
    | (go_at_call 32; exact quiet_d2 (hfi.out _))
    | (go_at_call 57; exact quiet_d2 (hrf.out _))
    | (go_at_call 31; exact quiet_d2 (hal.out _))
    | (go_at_call 58; exact quiet_d2 (hra.out _))
    | (go_at_call 14; exact quiet_l2 (same_reflL _)))
  go_wp2_with fail
  go_ret
  exact ⟨rfl, below_drewN (below_drewN hb1.out _) _⟩
theorem told_any {w : World} {B : Nat} {d : Option PD} (h : PairAt w B d) : Calls Try.prog 25 #[.agg #[PD.pp d, PD.qq d]] w fun e w' => e = .returned (.bool true) ∧ Below w.heap.size w w' := by
  cases d with
  | none => exact told_no (.inl rfl)
  | some d => exact told_yes h
end Go.Proofs.Ytlghgfnkckaebaa

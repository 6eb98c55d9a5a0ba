/- PinsPlays: the law's walk. (Printed by tools/genpq8.py.) -/
import Derived.Test.YtgjokkjmljdmbaaPqZ
namespace Go.Proofs.Ytgjokkjmljdmbaa
open Go.RowKit Go.Maps
set_option linter.unusedSimpArgs false
set_option linter.unusedVariables false

/-- The law's two tables. -/
structure Tb (gp gm P0 P1 Q0 Q1 : Nat) (W : World) : Prop where
  hp : W.heap[gp]? = some (.cells #[.pointer (some ⟨P0, 0, none⟩), .pointer (some ⟨P1, 0, none⟩)] 41 (0, 0))
  hm : W.heap[gm]? = some (.cells #[.pointer (some ⟨Q0, 0, none⟩), .pointer (some ⟨Q1, 0, none⟩)] 43 (0, 0))
section
variable {gp gm P0 P1 Q0 Q1 : Nat} {W : World}
theorem Tb.p0 (h : Tb gp gm P0 P1 Q0 Q1 W) : W.cell? ⟨gp, 0, none⟩ = some (.pointer (some ⟨P0, 0, none⟩)) := by unfold World.cell?; simp [h.hp]
theorem Tb.p1 (h : Tb gp gm P0 P1 Q0 Q1 W) : W.cell? ⟨gp, 1, none⟩ = some (.pointer (some ⟨P1, 0, none⟩)) := by unfold World.cell?; simp [h.hp]
theorem Tb.m0 (h : Tb gp gm P0 P1 Q0 Q1 W) : W.cell? ⟨gm, 0, none⟩ = some (.pointer (some ⟨Q0, 0, none⟩)) := by unfold World.cell?; simp [h.hm]
theorem Tb.m1 (h : Tb gp gm P0 P1 Q0 Q1 W) : W.cell? ⟨gm, 1, none⟩ = some (.pointer (some ⟨Q1, 0, none⟩)) := by unfold World.cell?; simp [h.hm]
end
/-- What a held region may look at. -/
structure Tb2 (w : World) (gp gm P0 P1 Q0 Q1 : Nat) (W : World) : Prop where
  tb : Tb gp gm P0 P1 Q0 Q1 W
  bel : Below w.heap.size w W
structure Tb3 (w : World) (gp gm P0 P1 Q0 Q1 g8 : Nat) (kv : Array Value) (W : World) : Prop where
  t2 : Tb2 w gp gm P0 P1 Q0 Q1 W
  key : W.heap[g8]? = some (.cells kv 29 (0, 0))
/-- Both pairs. -/
structure Sx (w : World) (gp gm P0 P1 Q0 Q1 N : Nat) (W : World) : Prop where
  tb2 : Tb2 w gp gm P0 P1 Q0 Q1 W
  two : ∃ L0 f0 L1 f1, Duo W w.heap.size P0 L0 Q0 f0 N ∧ Duo W w.heap.size P1 L1 Q1 f1 N ∧ ∀ b, DuoF P0 L0 Q0 b → ¬ DuoF P1 L1 Q1 b
structure Sy (w : World) (gp gm P0 P1 Q0 Q1 N g8 : Nat) (kv : Array Value) (W : World) : Prop where
  sx : Sx w gp gm P0 P1 Q0 Q1 N W
  key : W.heap[g8]? = some (.cells kv 29 (0, 0))
theorem Sy.tb3 {w : World} {gp gm P0 P1 Q0 Q1 N g8 : Nat} {kv : Array Value} {W : World} (h : Sy w gp gm P0 P1 Q0 Q1 N g8 kv W) : Tb3 w gp gm P0 P1 Q0 Q1 g8 kv W := ⟨h.sx.tb2, h.key⟩
/-- The types of what a pair writes. -/
theorem duoF_tag {w : World} {B p q N k : Nat} {L : List (Option Ses)} {f : Nat → RSes} (h : Duo w B p L q f N) (hk : DuoF p L q k) {cs : Array Value} {t : TypeId} {fr : Nat × Nat} (hh : w.heap[k]? = some (.cells cs t fr)) : t = 53 ∨ t = 57 ∨ t = 67 := by
  rcases hk with hk | rfl
  · rcases wr_tag h.pins hk hh with e | e
    · exact .inl e
    · exact .inr (.inl e)
  · rw [h.ref.cells] at hh
    cases hh
    exact .inr (.inr rfl)
theorem Duo.flt {w : World} {B p q N k : Nat} {L : List (Option Ses)} {f : Nat → RSes} (h : Duo w B p L q f N) (hk : DuoF p L q k) : k < w.heap.size := by
  rcases hk with hk | rfl
  · exact h.pins.wr hk
  · exact h.ref.lt
/-- What the other pair writes does not touch this one. -/
theorem Duo.other {w w' : World} {B p q N p' q' N' : Nat} {L L' : List (Option Ses)} {f f' : Nat → RSes} (h : Duo w B p L q f N) (ho : Duo w B p' L' q' f' N') (hs : ∀ b, DuoF p L q b → ¬ DuoF p' L' q' b) (hu : Upd (DuoF p' L' q') w w') : Duo w' B p L q f N := by
  have key : ∀ k, k < w.heap.size → DuoF p L q k → w'.heap[k]? = w.heap[k]? := fun k hk hd => hu.block k hk (hs k hd)
  have tag : ∀ {k : Nat} {cs : Array Value} {t : TypeId} {fr : Nat × Nat}, w.heap[k]? = some (.cells cs t fr) → t ≠ 53 → t ≠ 57 → t ≠ 67 → w'.heap[k]? = w.heap[k]? := fun hk h1 h2 h3 =>
    hu.block _ (Array.getElem?_eq_some_iff.1 hk).1 fun hd => by
      rcases duoF_tag ho hd hk with e | e | e
      · exact h1 e
      · exact h2 e
      · exact h3 e
  refine ⟨⟨h.pins.len, (key _ h.pins.lt (.inl (.inl rfl))).trans h.pins.cells, fun i σ hi => ?_, h.pins.sep⟩, h.ref.keep (key _ h.ref.lt (.inr rfl)) fun i hi k hk => ?_, h.rel, h.lo, h.small⟩
  · have hsx := h.pins.ses i σ hi
    obtain ⟨l1, l2, l3⟩ := hsx.lts
    obtain ⟨h1, D, ⟨h2, es, clock, h3, _⟩, _⟩ := id hsx
    exact hsx.keep (key _ l1 (.inl (.inr ⟨i, σ, hi, .inl rfl⟩))) (tag h2 (by decide) (by decide) (by decide)) (key _ l3 (.inl (.inr ⟨i, σ, hi, .inr rfl⟩)))
  · obtain ⟨cs, fr, h1⟩ := own_tag (h.ref.row i hi) hk
    exact tag h1 (by decide) (by decide) (by decide)
section
variable {w W W' : World} {gp gm P0 P1 Q0 Q1 N : Nat}
theorem Tb2.upd {B p q N : Nat} {L : List (Option Ses)} {f : Nat → RSes} (h : Tb2 w gp gm P0 P1 Q0 Q1 W) (hd : Duo W w.heap.size p L q f N) (hu : Upd (DuoF p L q) W W') : Tb2 w gp gm P0 P1 Q0 Q1 W' := by
  have tag : ∀ {k : Nat} {cs : Array Value} {t : TypeId} {fr : Nat × Nat}, W.heap[k]? = some (.cells cs t fr) → t ≠ 53 → t ≠ 57 → t ≠ 67 → W'.heap[k]? = W.heap[k]? := fun hk h1 h2 h3 =>
    hu.block _ (Array.getElem?_eq_some_iff.1 hk).1 fun hx => by
      rcases duoF_tag hd hx hk with e | e | e
      · exact h1 e
      · exact h2 e
      · exact h3 e
  refine ⟨⟨(tag h.tb.hp (by decide) (by decide) (by decide)).trans h.tb.hp, (tag h.tb.hm (by decide) (by decide) (by decide)).trans h.tb.hm⟩, h.bel.trans (hu.below (fun k _ hk => hd.lo k hk) h.bel.size)⟩
theorem key_upd {p q N g8 : Nat} {L : List (Option Ses)} {f : Nat → RSes} {kv : Array Value} (hd : Duo W w.heap.size p L q f N) (hu : Upd (DuoF p L q) W W') (hk : W.heap[g8]? = some (.cells kv 29 (0, 0))) : W'.heap[g8]? = some (.cells kv 29 (0, 0)) :=
  (hu.block _ (Array.getElem?_eq_some_iff.1 hk).1 fun hx => by have := duoF_tag hd hx hk; revert this; decide).trans hk
/-- A step on either. -/
theorem Sx.done0 (h : Sx w gp gm P0 P1 Q0 Q1 N W) (hN : N < 4398046511104) (d : Int) (o : Bool) (s : Int) (x : List Nat) (hx : IsK x) (al : Bool) :
    Calls Try.prog 14 #[.pointer (some ⟨P0, 0, none⟩), .pointer (some ⟨Q0, 0, none⟩), .agg (stepL d o s x al).toArray] W fun e w' => e = .returned (.bool true) ∧ Sx w gp gm P0 P1 Q0 Q1 (N + 1) w' ∧ ∀ (g8 : Nat) (kv : Array Value), W.heap[g8]? = some (.cells kv 29 (0, 0)) → w'.heap[g8]? = some (.cells kv 29 (0, 0)) := by
  obtain ⟨h2, L0, f0, L1, f1, d0, d1, hs⟩ := h
  refine (done_any W w.heap.size P0 Q0 N L0 f0 d0 hN d o s x hx al).mono fun e w' ⟨e1, L', f', a1, a2, a3⟩ => ⟨e1, ⟨h2.upd (B := 0) d0 a2, L', f', L1, f1, a1, (d1.other d0 (fun b hb hc => hs b hc hb) a2).mono (by omega), fun b hb hc => ?_⟩, fun g8 kv hk => key_upd d0 a2 hk⟩
  rcases a3 b hb with hb | hb
  · exact hs b hb hc
  · have := d1.flt hc
    omega
theorem Sx.done1 (h : Sx w gp gm P0 P1 Q0 Q1 N W) (hN : N < 4398046511104) (d : Int) (o : Bool) (s : Int) (x : List Nat) (hx : IsK x) (al : Bool) :
    Calls Try.prog 14 #[.pointer (some ⟨P1, 0, none⟩), .pointer (some ⟨Q1, 0, none⟩), .agg (stepL d o s x al).toArray] W fun e w' => e = .returned (.bool true) ∧ Sx w gp gm P0 P1 Q0 Q1 (N + 1) w' ∧ ∀ (g8 : Nat) (kv : Array Value), W.heap[g8]? = some (.cells kv 29 (0, 0)) → w'.heap[g8]? = some (.cells kv 29 (0, 0)) := by
  obtain ⟨h2, L0, f0, L1, f1, d0, d1, hs⟩ := h
  refine (done_any W w.heap.size P1 Q1 N L1 f1 d1 hN d o s x hx al).mono fun e w' ⟨e1, L', f', a1, a2, a3⟩ => ⟨e1, ⟨h2.upd (B := 0) d1 a2, L0, f0, L', f', (d0.other d1 (fun b hb hc => hs b hb hc) a2).mono (by omega), a1, fun b hb hc => ?_⟩, fun g8 kv hk => key_upd d1 a2 hk⟩
  rcases a3 b hc with hc | hc
  · exact hs b hb hc
  · have := d0.flt hb
    omega
end
/-- A step of the script. -/
structure StT where
  d : Int
  o : Bool
  s : Int
  k : List Nat
  al : Bool
def encT (z : StT) : List Value := stepL z.d z.o z.s z.k z.al
def SRow (w : World) (A : Option Addr) (zs : List StT) : Prop :=
  ∀ (i : Nat) z, zs[i]? = some z → IsK z.k ∧ ∃ b off, A = some ⟨b, off, none⟩ ∧ b < w.heap.size ∧ w.rangeAt b (off + i * 36) (encT z)
/-- One pair just made. -/
theorem duo_new {w W' : World} {p q : Nat} (hp : PinsAt W' p (List.replicate 16 none)) (hr : RefAt W' q f0R) (h1 : w.heap.size ≤ p) (h2 : w.heap.size ≤ q) : Duo W' w.heap.size p (List.replicate 16 none) q f0R 0 := by
  refine ⟨hp, hr, ⟨by simp, fun i y hi => ?_⟩, fun k hk => ?_, fun i σ hi => ?_⟩
  · rw [List.getElem?_replicate] at hi
    split at hi
    · cases hi; rfl
    · cases hi
  · rcases hk with (rfl | ⟨i, σ, hi, _⟩) | rfl
    · exact h1
    · rw [List.getElem?_replicate] at hi
      split at hi <;> cases hi
    · exact h2
  · rw [List.getElem?_replicate] at hi
    split at hi <;> cases hi
theorem duoF_new {p q b : Nat} (h : DuoF p (List.replicate 16 none) q b) : b = p ∨ b = q := by
  rcases h with (rfl | ⟨i, σ, hi, _⟩) | rfl
  · exact .inl rfl
  · rw [List.getElem?_replicate] at hi
    split at hi <;> cases hi
  · exact .inr rfl
def k55 : List Nat := (zeros 32).set 5 5
theorem isK_55 : IsK k55 := ⟨by decide, by decide⟩
theorem isK_z : IsK (zeros 32) := ⟨by decide, by decide⟩
theorem bld55 (w : World) : (Instr.build 29 #[(5, .int .u8 5)]).run Try.prog w = .ok (.agg (u8s k55).toArray) w := run_build w _ _ _ (by kernel_rfl)
theorem bs0 (w : World) : (Instr.build 46 #[(0, .int .i64 10)]).run Try.prog w = .ok (.agg (stepL 10 false 0 (zeros 32) false).toArray) w := run_build w _ _ _ (by kernel_rfl)
theorem bs1 (w : World) : (Instr.build 46 #[(0, .int .i64 0), (2, .int .i64 3)]).run Try.prog w = .ok (.agg (stepL 0 false 3 (zeros 32) false).toArray) w := run_build w _ _ _ (by kernel_rfl)
theorem bs2 (w : World) : (Instr.build 46 #[(0, .int .i64 2), (2, .int .i64 3), (3, .agg (u8s k55).toArray)]).run Try.prog w = .ok (.agg (stepL 2 false 3 k55 false).toArray) w := run_build w _ _ _ (by kernel_rfl)
theorem bs3 (w : World) : (Instr.build 46 #[(0, .int .i64 6), (2, .int .i64 3), (3, .agg (u8s k55).toArray)]).run Try.prog w = .ok (.agg (stepL 6 false 3 k55 false).toArray) w := run_build w _ _ _ (by kernel_rfl)
theorem bs4 (w : World) : (Instr.build 46 #[(0, .int .i64 9), (3, .agg (u8s k55).toArray)]).run Try.prog w = .ok (.agg (stepL 9 false 0 k55 false).toArray) w := run_build w _ _ _ (by kernel_rfl)

theorem yieldsIf_bldQ {P : Program} {ops : Array Oper} {S : World → Prop} {op : Oper} {a : Act} (hw : Region.wanted op (yielded ops a.tmps) = true) (t : TypeId) (parts : Array (Nat × Operand)) (ho : op.op = .build t parts) (vs : Array (Nat × Value)) (hv : (parts.map fun (i, x) => (i, a.eval x)) = vs) (v : Value)
    (hb : ∀ w, (Instr.build t vs).run P w = .ok v w) : YieldsIf P ops S op v a :=
  .inl ⟨hw, fun w _ => by
    unfold execOp
    simp only [ho, hv, Sem.run_bind, hb w, Result.andThen_ok, Sem.run_pure]⟩
theorem Sx.below {w W W' : World} {gp gm P0 P1 Q0 Q1 N : Nat} (h : Sx w gp gm P0 P1 Q0 Q1 N W) (hb : Below W.heap.size W W') : Sx w gp gm P0 P1 Q0 Q1 N W' := by
  obtain ⟨h2, L0, f0, L1, f1, d0, d1, hs⟩ := h
  exact ⟨⟨⟨(hb.block _ (Array.getElem?_eq_some_iff.1 h2.tb.hp).1).trans h2.tb.hp, (hb.block _ (Array.getElem?_eq_some_iff.1 h2.tb.hm).1).trans h2.tb.hm⟩, h2.bel.trans (hb.mono h2.bel.size)⟩, L0, f0, L1, f1, d0.below hb, d1.below hb, hs⟩
theorem Sy.below {w W W' : World} {gp gm P0 P1 Q0 Q1 N g8 : Nat} {kv : Array Value} (h : Sy w gp gm P0 P1 Q0 Q1 N g8 kv W) (hb : Below W.heap.size W W') : Sy w gp gm P0 P1 Q0 Q1 N g8 kv W' :=
  ⟨h.sx.below hb, (hb.block _ (Array.getElem?_eq_some_iff.1 h.key).1).trans h.key⟩
theorem Sy.done0 {w W : World} {gp gm P0 P1 Q0 Q1 N g8 : Nat} {kv : Array Value} (h : Sy w gp gm P0 P1 Q0 Q1 N g8 kv W) (hN : N < 4398046511104) (d : Int) (o : Bool) (s : Int) (x : List Nat) (hx : IsK x) (al : Bool) :
    Calls Try.prog 14 #[.pointer (some ⟨P0, 0, none⟩), .pointer (some ⟨Q0, 0, none⟩), .agg (stepL d o s x al).toArray] W fun e w' => e = .returned (.bool true) ∧ Sy w gp gm P0 P1 Q0 Q1 (N + 1) g8 kv w' :=
  (h.sx.done0 hN d o s x hx al).mono fun e w' ⟨h1, h2, h3⟩ => ⟨h1, h2, h3 _ _ h.key⟩
theorem Sy.done1 {w W : World} {gp gm P0 P1 Q0 Q1 N g8 : Nat} {kv : Array Value} (h : Sy w gp gm P0 P1 Q0 Q1 N g8 kv W) (hN : N < 4398046511104) (d : Int) (o : Bool) (s : Int) (x : List Nat) (hx : IsK x) (al : Bool) :
    Calls Try.prog 14 #[.pointer (some ⟨P1, 0, none⟩), .pointer (some ⟨Q1, 0, none⟩), .agg (stepL d o s x al).toArray] W fun e w' => e = .returned (.bool true) ∧ Sy w gp gm P0 P1 Q0 Q1 (N + 1) g8 kv w' :=
  (h.sx.done1 hN d o s x hx al).mono fun e w' ⟨h1, h2, h3⟩ => ⟨h1, h2, h3 _ _ h.key⟩
theorem pinsAt_of {W : World} {p : Nat} (h : W.heap[p]? = some (.cells (pcells (List.replicate 16 none)).toArray 53 (0, 0))) : PinsAt W p (List.replicate 16 none) :=
  ⟨by simp, h, (fun i σ hi => by rw [List.getElem?_replicate] at hi; split at hi <;> cases hi), (fun i j σ τ _ hi => by rw [List.getElem?_replicate] at hi; split at hi <;> cases hi)⟩
theorem refAt_of {W : World} {q : Nat} (h : W.heap[q]? = some (.cells (rcells f0R).toArray 67 (0, 0))) : RefAt W q f0R :=
  ⟨h, fun _ _ => Own.nil _ _ _ _, fun _ _ => Rise32.nil⟩
/-- The tables while the pairs are made. -/
structure Mk (w : World) (gp gm : Nat) (a b c d : Value) (W : World) : Prop where
  hp : W.heap[gp]? = some (.cells #[a, b] 41 (0, 0))
  hm : W.heap[gm]? = some (.cells #[c, d] 43 (0, 0))
  bel : Below w.heap.size w W
def NewAt (p q : Nat) (W : World) : Prop := W.heap[p]? = some (.cells (pcells (List.replicate 16 none)).toArray 53 (0, 0)) ∧ W.heap[q]? = some (.cells (rcells f0R).toArray 67 (0, 0))
/-- Two pairs made. -/
theorem sx_new {w W : World} {gp gm P0 P1 Q0 Q1 : Nat} (h : Mk w gp gm (.pointer (some ⟨P0, 0, none⟩)) (.pointer (some ⟨P1, 0, none⟩)) (.pointer (some ⟨Q0, 0, none⟩)) (.pointer (some ⟨Q1, 0, none⟩)) W) (h0 : NewAt P0 Q0 W) (h1 : NewAt P1 Q1 W)
    (l0 : w.heap.size ≤ P0 ∧ w.heap.size ≤ Q0) (l1 : P0 < P1 ∧ Q0 < P1 ∧ P0 < Q1 ∧ Q0 < Q1) : Sx w gp gm P0 P1 Q0 Q1 0 W :=
  ⟨⟨⟨h.hp, h.hm⟩, h.bel⟩, _, _, _, _, duo_new (w := w) (pinsAt_of h0.1) (refAt_of h0.2) l0.1 l0.2, duo_new (w := w) (pinsAt_of h1.1) (refAt_of h1.2) (by omega) (by omega), fun b hb hc => by
    rcases duoF_new hb with e | e <;> rcases duoF_new hc with e' | e' <;> omega⟩
theorem Mk.setP {w W : World} {gp gm : Nat} {a b c d v : Value} {i : Nat} (h : Mk w gp gm a b c d W) (hg : w.heap.size ≤ gp) (hne : gm ≠ gp) (hi : i < 2) : Mk w gp gm (if i = 0 then v else a) (if i = 1 then v else b) c d (W.setCell ⟨gp, i, none⟩ v) := by
  refine ⟨?_, (heap_setCell_other W _ _ _ hne).trans h.hm, h.bel.setCell (p := ⟨gp, i, none⟩) hg _⟩
  rw [heap_setCell_same W gp i _ _ v h.hp]
  rcases (show i = 0 ∨ i = 1 by omega) with rfl | rfl <;> rfl
theorem Mk.setM {w W : World} {gp gm : Nat} {a b c d v : Value} {i : Nat} (h : Mk w gp gm a b c d W) (hg : w.heap.size ≤ gm) (hne : gp ≠ gm) (hi : i < 2) : Mk w gp gm a b (if i = 0 then v else c) (if i = 1 then v else d) (W.setCell ⟨gm, i, none⟩ v) := by
  refine ⟨(heap_setCell_other W _ _ _ hne).trans h.hp, ?_, h.bel.setCell (p := ⟨gm, i, none⟩) hg _⟩
  rw [heap_setCell_same W gm i _ _ v h.hm]
  rcases (show i = 0 ∨ i = 1 by omega) with rfl | rfl <;> rfl
theorem Mk.below {w W W' : World} {gp gm : Nat} {a b c d : Value} (h : Mk w gp gm a b c d W) (hb : Below W.heap.size W W') : Mk w gp gm a b c d W' :=
  ⟨(hb.block _ (Array.getElem?_eq_some_iff.1 h.hp).1).trans h.hp, (hb.block _ (Array.getElem?_eq_some_iff.1 h.hm).1).trans h.hm, h.bel.trans (hb.mono h.bel.size)⟩
/-- A round: both are made and laid in. -/
theorem make_round {w W v1 v3 : World} {gp gm i : Nat} {a b c d : Value} (h : Mk w gp gm a b c d W) (hg : w.heap.size ≤ gp ∧ gp < W.heap.size) (hg2 : w.heap.size ≤ gm ∧ gm < W.heap.size) (hne : gp ≠ gm) (hi : i < 2)
    (a1 : PinsAt v1 W.heap.size (List.replicate 16 none)) (b1 : Below W.heap.size W v1) (a3 : RefAt v3 (v1.setCell ⟨gp, i, none⟩ (.pointer (some ⟨W.heap.size, 0, none⟩))).heap.size f0R) (b3 : Below (v1.setCell ⟨gp, i, none⟩ (.pointer (some ⟨W.heap.size, 0, none⟩))).heap.size (v1.setCell ⟨gp, i, none⟩ (.pointer (some ⟨W.heap.size, 0, none⟩))) v3) :
    ∃ Q, Q = (v1.setCell ⟨gp, i, none⟩ (.pointer (some ⟨W.heap.size, 0, none⟩))).heap.size ∧ W.heap.size < Q ∧
      Mk w gp gm (if i = 0 then .pointer (some ⟨W.heap.size, 0, none⟩) else a) (if i = 1 then .pointer (some ⟨W.heap.size, 0, none⟩) else b) (if i = 0 then .pointer (some ⟨Q, 0, none⟩) else c) (if i = 1 then .pointer (some ⟨Q, 0, none⟩) else d) (v3.setCell ⟨gm, i, none⟩ (.pointer (some ⟨Q, 0, none⟩))) ∧
      NewAt W.heap.size Q (v3.setCell ⟨gm, i, none⟩ (.pointer (some ⟨Q, 0, none⟩))) ∧ (∀ k, k < W.heap.size → k ≠ gp → k ≠ gm → (v3.setCell ⟨gm, i, none⟩ (.pointer (some ⟨Q, 0, none⟩))).heap[k]? = W.heap[k]?) := by
  have hm1 := h.below b1
  have hm2 := hm1.setP (v := .pointer (some ⟨W.heap.size, 0, none⟩)) hg.1 (Ne.symm hne) hi
  have hm3 := hm2.below b3
  have hs : (v1.setCell ⟨gp, i, none⟩ (.pointer (some ⟨W.heap.size, 0, none⟩))).heap.size = v1.heap.size := by simp [World.setCell]
  have hlt := a1.lt
  have hq := a3.lt
  refine ⟨_, rfl, by omega, hm3.setM hg2.1 hne hi, ⟨?_, ?_⟩, fun k hk h1 h2 => ?_⟩
  · refine (heap_setCell_other _ _ _ _ (by simp; omega)).trans ((b3.block _ (by omega)).trans ((heap_setCell_other _ _ _ _ (by simp; omega)).trans a1.cells))
  · exact (heap_setCell_other _ _ _ _ (by simp; omega)).trans a3.cells
  · exact (heap_setCell_other _ _ _ _ (by simp; omega)).trans ((b3.block _ (by omega)).trans ((heap_setCell_other _ _ _ _ (by simp; omega)).trans (b1.block _ hk)))
set_option maxRecDepth 100000 in
set_option maxHeartbeats 4000000 in
theorem pinsPlays_any (w : World) (A : Option Addr) (n c : Nat) (zs : List StT) (hn : zs.length = n) (hN : n < 4398046511000) (hA : SRow w A zs) :
    Calls Try.prog 4 #[.slice A n c] w fun e w' => e = .returned (.bool true) ∧ Below w.heap.size w w' := by
  have hn' := Lib.hid hn
  have hA' := Lib.hid hA
  obtain ⟨gp, hgp⟩ : ∃ g, w.heap.size = g := ⟨_, rfl⟩
  obtain ⟨gm, hgm⟩ : ∃ g, gp + 1 = g := ⟨_, rfl⟩
  obtain ⟨w1, hw1⟩ : ∃ w1, (w.alloc (.cells #[.pointer none, .pointer none] 41)).alloc (.cells #[.pointer none, .pointer none] 43) = w1 := ⟨_, rfl⟩
  have hM0 : Hid (Mk w gp gm (.pointer none) (.pointer none) (.pointer none) (.pointer none) w1) := Lib.hid (by
    rw [← hw1, ← hgm, ← hgp]
    refine ⟨heap_alloc2_old w _ _, heap_alloc2_new w _ _, ((Below.refl _ _).alloc (Nat.le_refl _) _).alloc (by simp) _⟩)
  have hgN : Hid (w.heap.size = gp ∧ gm = gp + 1) := Lib.hid ⟨hgp, hgm.symm⟩
  have hne : gp ≠ gm := by omega
  have hi32 : Hid ((Try.prog.info? 29).map (·.size) = some 32) := Lib.hid (by kernel_rfl)
  have hi36 : Hid ((Try.prog.info? 46).map (·.size) = some 36) := Lib.hid (by kernel_rfl)
  clear hn hA
  go_enter Try.func4, Try.ntmps4
  go_wp2_with fail
  clear hw1
  go_loopw [5] (fun iv wr => (iv = .int .i64 0 ∧ Hid (Mk w gp gm (.pointer none) (.pointer none) (.pointer none) (.pointer none) wr)) ∨ (iv = .int .i64 1 ∧ Hid (∃ P0 Q0 : Nat, Mk w gp gm (.pointer (some ⟨P0, 0, none⟩)) (.pointer none) (.pointer (some ⟨Q0, 0, none⟩)) (.pointer none) wr ∧ NewAt P0 Q0 wr ∧ gm < P0 ∧ gm < Q0)) ∨
    (iv = .int .i64 2 ∧ Hid (∃ P0 P1 Q0 Q1 : Nat, Sx w gp gm P0 P1 Q0 Q1 0 wr))) (fun iv _ => 2 - (intOf iv).toNat)
  case atStart => exact .inl ⟨rfl, hM0⟩
  case round =>
    clear hM0
    rcases hrel with ⟨rfl, hM⟩ | ⟨rfl, hM⟩ | ⟨rfl, hM⟩
    · have hgs : Hid (gp < wr.heap.size ∧ gm < wr.heap.size) := Lib.hid ⟨(Array.getElem?_eq_some_iff.1 hM.out.hp).1, (Array.getElem?_eq_some_iff.1 hM.out.hm).1⟩
      go_wp2_with (first
        | (go_at_call 5; refine (pNew_any wr).mono ?_; rintro e v1 ⟨rfl, a1, b1⟩
           have hb1 := Lib.hid b1
           have ha1 := Lib.hid a1
           have hm1 := hM.out.below b1
           have cp1 := cell_of_row v1 gp 0 _ _ _ hm1.hp
           have fp1 := frozen_of_row v1 gp 0 _ _ hm1.hp
           simp only [List.getElem?_toArray, List.getElem?_cons_zero, List.getElem?_cons_succ] at cp1
           clear a1 b1 hm1)
        | (go_at_call 13; refine (rNew_any _).mono ?_; rintro e v3 ⟨rfl, a3, b3⟩
           obtain ⟨Q0, hQ, hlQ, hm4, hn4, hk4⟩ := make_round hM.out ⟨by have := hgN.out; omega, hgs.out.1⟩ ⟨by have := hgN.out; omega, hgs.out.2⟩ hne (by omega) ha1.out hb1.out a3 b3
           have hm3 := (((hM.out.below hb1.out).setP (v := .pointer (some ⟨wr.heap.size, 0, none⟩)) (i := 0) (by have := hgN.out; omega) (Ne.symm hne) (by omega))).below b3
           have cm3 := cell_of_row v3 gm 0 _ _ _ hm3.hm
           have fm3 := frozen_of_row v3 gm 0 _ _ hm3.hm
           have cp3 := cell_of_row v3 gp 0 _ _ _ hm3.hp
           simp only [List.getElem?_toArray, List.getElem?_cons_zero, List.getElem?_cons_succ, if_true] at cm3 cp3
           rw [← hQ]
           have hM4 := Lib.hid hm4
           have hN4 := Lib.hid hn4
           have hlQ' := Lib.hid hlQ
           clear a3 b3 hm4 hn4 hk4 hm3 hQ hlQ))
      go_roundw
      case rel => exact .inr (.inl ⟨rfl, Lib.hid ⟨_, Q0, hM4.out, hN4.out, hgs.out.2, by have := hlQ'.out; have := hgs.out.2; omega⟩⟩)
      case measure => simp [intOf]
    · obtain ⟨P0, Q0, hMx, hNx, l1, l2⟩ := hM.out
      have hM := Lib.hid hMx
      have hNw := Lib.hid hNx
      have hl := Lib.hid (And.intro l1 l2)
      have hgs : Hid (gp < wr.heap.size ∧ gm < wr.heap.size) := Lib.hid ⟨(Array.getElem?_eq_some_iff.1 hM.out.hp).1, (Array.getElem?_eq_some_iff.1 hM.out.hm).1⟩
      have hlt : Hid (P0 < wr.heap.size ∧ Q0 < wr.heap.size) := Lib.hid ⟨(Array.getElem?_eq_some_iff.1 hNx.1).1, (Array.getElem?_eq_some_iff.1 hNx.2).1⟩
      clear hMx hNx l1 l2
      go_wp2_with (first
        | (go_at_call 5; refine (pNew_any wr).mono ?_; rintro e v1 ⟨rfl, a1, b1⟩
           have hb1 := Lib.hid b1
           have ha1 := Lib.hid a1
           have hm1 := hM.out.below b1
           have cp1 := cell_of_row v1 gp 1 _ _ _ hm1.hp
           have fp1 := frozen_of_row v1 gp 1 _ _ hm1.hp
           simp only [List.getElem?_toArray, List.getElem?_cons_zero, List.getElem?_cons_succ] at cp1
           clear a1 b1 hm1)
        | (go_at_call 13; refine (rNew_any _).mono ?_; rintro e v3 ⟨rfl, a3, b3⟩
           obtain ⟨Q1, hQ, hlQ, hm4, hn4, hk4⟩ := make_round hM.out ⟨by have := hgN.out; omega, hgs.out.1⟩ ⟨by have := hgN.out; omega, hgs.out.2⟩ hne (by omega) ha1.out hb1.out a3 b3
           have hm3 := (((hM.out.below hb1.out).setP (v := .pointer (some ⟨wr.heap.size, 0, none⟩)) (i := 1) (by have := hgN.out; omega) (Ne.symm hne) (by omega))).below b3
           have cm3 := cell_of_row v3 gm 1 _ _ _ hm3.hm
           have fm3 := frozen_of_row v3 gm 1 _ _ hm3.hm
           have cp3 := cell_of_row v3 gp 1 _ _ _ hm3.hp
           simp only [List.getElem?_toArray, List.getElem?_cons_zero, List.getElem?_cons_succ, if_true] at cm3 cp3
           rw [← hQ]
           have hS4 := Lib.hid (sx_new (by simpa using hm4) ⟨(hk4 _ hlt.out.1 (by have := hl.out; have := hgN.out; omega) (by have := hl.out; omega)).trans hNw.out.1, (hk4 _ hlt.out.2 (by have := hl.out; have := hgN.out; omega) (by have := hl.out; omega)).trans hNw.out.2⟩ hn4 (by have := hl.out; have := hgN.out; omega) (by have := hlt.out; omega))
           clear a3 b3 hm4 hn4 hk4 hm3 hQ hlQ))
      go_roundw
      case rel => exact .inr (.inr ⟨rfl, Lib.hid ⟨P0, _, Q0, Q1, hS4.out⟩⟩)
      case measure => simp [intOf]
    · obtain ⟨P0, P1, Q0, Q1, hS0⟩ := hM.out
      have hS := Lib.hid hS0
      clear hM hS0
      go_wp2_with fail
      go_loopw [6] (fun iv wr => ∃ i : Nat, i ≤ n ∧ iv = .int .i64 (i : Int) ∧ Hid (Sx w gp gm P0 P1 Q0 Q1 i wr)) (fun iv _ => n - (intOf iv).toNat)
      case atStart => exact ⟨0, by omega, rfl, hS⟩
      case round =>
        clear hS
        obtain ⟨i, hi, rfl, hS⟩ := hrel
        by_cases hlt : i < n
        · obtain ⟨z, hz⟩ : ∃ z, zs[i]? = some z := ⟨_, List.getElem?_eq_getElem (by rw [hn'.out]; exact hlt)⟩
          obtain ⟨hzk, b, off, rfl, hbl, hrg⟩ := hA'.out i z hz
          have hrs0 : ∀ W, Below w.heap.size w W → W.rangeAt b (off + i * 36) (encT z) := fun W hW j v hv => (hW.cell (p := ⟨b, off + i * 36 + j, none⟩) hbl).trans (hrg j v hv)
          have c1 : wr.cell? ⟨b, off + i * 36 + 1, none⟩ = some (.bool z.o) := hrs0 wr hS.out.tb2.bel 1 _ rfl
          have hs36 : Hid ((encT z).length = 36) := Lib.hid (by simp [encT, stepL, u8s, hzk.1])
          have hDn0 : Hid (∀ W, Sx w gp gm P0 P1 Q0 Q1 i W → Calls Try.prog 14 #[.pointer (some ⟨P0, 0, none⟩), .pointer (some ⟨Q0, 0, none⟩), .agg (encT z).toArray] W fun e w' => e = .returned (.bool true) ∧ Sx w gp gm P0 P1 Q0 Q1 (i + 1) w') := Lib.hid fun W hW =>
            (hW.done0 (by omega) z.d z.o z.s z.k hzk z.al).mono fun e w' ⟨h1, h2, _⟩ => ⟨h1, h2⟩
          have hDn1 : Hid (∀ W, Sx w gp gm P0 P1 Q0 Q1 i W → Calls Try.prog 14 #[.pointer (some ⟨P1, 0, none⟩), .pointer (some ⟨Q1, 0, none⟩), .agg (encT z).toArray] W fun e w' => e = .returned (.bool true) ∧ Sx w gp gm P0 P1 Q0 Q1 (i + 1) w') := Lib.hid fun W hW =>
            (hW.done1 (by omega) z.d z.o z.s z.k hzk z.al).mono fun e w' ⟨h1, h2, _⟩ => ⟨h1, h2⟩
          have hrs := Lib.hid hrs0
          have hsd : Hid (Sx w gp gm P0 P1 Q0 Q1 i wr.drew) := Lib.hid (hS.out.below (below_drewN (Below.refl _ _) 1))
          have hd : Hid (Tb2 w gp gm P0 P1 Q0 Q1 wr.drew) := Lib.hid hsd.out.tb2
          generalize encT z = stz at hrs hs36 hDn0 hDn1
          generalize z.o = zo at c1
          clear hz hzk hbl hrg hrs0 hS
          cases zo
          · go_wp2_with fail
            refine wp_region_held (S := Tb2 w gp gm P0 P1 Q0 Q1) (by kernel_rfl) ?_
            change wpAnyH _ _ _ _ _ _ _ _ (World.drew _)
            refine tk (i := 0) (d := 35) (v := (.int .i64 0)) rfl rfl (Or.inl ⟨by rfl, by intro W hW; clear hW; go_simp⟩) hd.out ?_
            simp only [List.setIfInBounds_toArray, List.set_cons_zero, List.set_cons_succ]
            refine tk (i := 1) (d := 36) (v := (.pointer (some ⟨gp, 0, none⟩))) rfl rfl (Or.inl ⟨by rfl, by intro W hW; clear hW; go_simp⟩) hd.out ?_
            simp only [List.setIfInBounds_toArray, List.set_cons_zero, List.set_cons_succ]
            refine tk (i := 2) (d := 37) (v := (.pointer (some ⟨P0, 0, none⟩))) rfl rfl (Or.inl ⟨by rfl, by intro W hW; have cc := hW.tb.p0; clear hW; go_simp⟩) hd.out ?_
            simp only [List.setIfInBounds_toArray, List.set_cons_zero, List.set_cons_succ]
            refine tk (i := 3) (d := 38) (v := (.int .i64 0)) rfl rfl (Or.inl ⟨by rfl, by intro W hW; clear hW; go_simp⟩) hd.out ?_
            simp only [List.setIfInBounds_toArray, List.set_cons_zero, List.set_cons_succ]
            refine tk (i := 4) (d := 39) (v := (.pointer (some ⟨gm, 0, none⟩))) rfl rfl (Or.inl ⟨by rfl, by intro W hW; clear hW; go_simp⟩) hd.out ?_
            simp only [List.setIfInBounds_toArray, List.set_cons_zero, List.set_cons_succ]
            refine tk (i := 5) (d := 40) (v := (.pointer (some ⟨Q0, 0, none⟩))) rfl rfl (Or.inl ⟨by rfl, by intro W hW; have cc := hW.tb.m0; clear hW; go_simp⟩) hd.out ?_
            simp only [List.setIfInBounds_toArray, List.set_cons_zero, List.set_cons_succ]
            refine tk (i := 6) (d := 41) (v := (.slice (some ⟨b, off, none⟩) n c)) rfl rfl (Or.inl ⟨by rfl, by intro W hW; clear hW; go_simp⟩) hd.out ?_
            simp only [List.setIfInBounds_toArray, List.set_cons_zero, List.set_cons_succ]
            refine tk (i := 7) (d := 42) (v := (.int .i64 (i : Int))) rfl rfl (Or.inl ⟨by rfl, by intro W hW; clear hW; go_simp⟩) hd.out ?_
            simp only [List.setIfInBounds_toArray, List.set_cons_zero, List.set_cons_succ]
            refine tk (i := 8) (d := 43) (v := (.pointer (some ⟨b, off + i * 36, none⟩))) rfl rfl (Or.inl ⟨by rfl, by intro W hW; clear hW; go_simp⟩) hd.out ?_
            simp only [List.setIfInBounds_toArray, List.set_cons_zero, List.set_cons_succ]
            refine tk (i := 9) (d := 44) (v := (.agg stz.toArray)) rfl rfl (yieldsIf_load_mid (by rfl) 46 _ rfl b (off + i * 36) rfl stz _ (fun W hW => hrs.out W hW.bel) Try.underlying46 rfl (by rw [hs36.out]; exact hi36.out)) hd.out ?_
            simp only [List.setIfInBounds_toArray, List.set_cons_zero, List.set_cons_succ]
            refine wpAnyH_ready (rs := [10]) (by kernel_rfl) (by simp) ?_
            refine AllReadyH.cons rfl (fun K hK => ?_) AllReadyH.nil
            go_simp
            go_wp2_with (go_at_call 14; refine (hDn0.out _ hsd.out).mono ?_; rintro e v1 ⟨rfl, r1⟩; have r1' := Lib.hid r1; clear r1 hDn0 hDn1)
            have hd1 : Hid (Tb2 w gp gm P0 P1 Q0 Q1 v1) := Lib.hid r1'.out.tb2
            refine hK.out _ _ hd1.out (fun _ => ?_)
            clear hK K
            refine tk (i := 11) (d := 46) (v := (.bool false)) rfl rfl (Or.inl ⟨by rfl, by intro W hW; clear hW; go_simp⟩) hd1.out ?_
            simp only [List.setIfInBounds_toArray, List.set_cons_zero, List.set_cons_succ]
            refine wpAnyH_done (by kernel_rfl) ?_ _
            go_wp2_with fail
            go_roundw
            case rel => exact ⟨i + 1, by omega, by go_num, r1'⟩
            case measure => simp [intOf]; omega
          · go_wp2_with fail
            refine wp_region_held (S := Tb2 w gp gm P0 P1 Q0 Q1) (by kernel_rfl) ?_
            change wpAnyH _ _ _ _ _ _ _ _ (World.drew _)
            refine tk (i := 0) (d := 35) (v := (.int .i64 1)) rfl rfl (Or.inl ⟨by rfl, by intro W hW; clear hW; go_simp⟩) hd.out ?_
            simp only [List.setIfInBounds_toArray, List.set_cons_zero, List.set_cons_succ]
            refine tk (i := 1) (d := 36) (v := (.pointer (some ⟨gp, 1, none⟩))) rfl rfl (Or.inl ⟨by rfl, by intro W hW; clear hW; go_simp⟩) hd.out ?_
            simp only [List.setIfInBounds_toArray, List.set_cons_zero, List.set_cons_succ]
            refine tk (i := 2) (d := 37) (v := (.pointer (some ⟨P1, 0, none⟩))) rfl rfl (Or.inl ⟨by rfl, by intro W hW; have cc := hW.tb.p1; clear hW; go_simp⟩) hd.out ?_
            simp only [List.setIfInBounds_toArray, List.set_cons_zero, List.set_cons_succ]
            refine tk (i := 3) (d := 38) (v := (.int .i64 1)) rfl rfl (Or.inl ⟨by rfl, by intro W hW; clear hW; go_simp⟩) hd.out ?_
            simp only [List.setIfInBounds_toArray, List.set_cons_zero, List.set_cons_succ]
            refine tk (i := 4) (d := 39) (v := (.pointer (some ⟨gm, 1, none⟩))) rfl rfl (Or.inl ⟨by rfl, by intro W hW; clear hW; go_simp⟩) hd.out ?_
            simp only [List.setIfInBounds_toArray, List.set_cons_zero, List.set_cons_succ]
            refine tk (i := 5) (d := 40) (v := (.pointer (some ⟨Q1, 0, none⟩))) rfl rfl (Or.inl ⟨by rfl, by intro W hW; have cc := hW.tb.m1; clear hW; go_simp⟩) hd.out ?_
            simp only [List.setIfInBounds_toArray, List.set_cons_zero, List.set_cons_succ]
            refine tk (i := 6) (d := 41) (v := (.slice (some ⟨b, off, none⟩) n c)) rfl rfl (Or.inl ⟨by rfl, by intro W hW; clear hW; go_simp⟩) hd.out ?_
            simp only [List.setIfInBounds_toArray, List.set_cons_zero, List.set_cons_succ]
            refine tk (i := 7) (d := 42) (v := (.int .i64 (i : Int))) rfl rfl (Or.inl ⟨by rfl, by intro W hW; clear hW; go_simp⟩) hd.out ?_
            simp only [List.setIfInBounds_toArray, List.set_cons_zero, List.set_cons_succ]
            refine tk (i := 8) (d := 43) (v := (.pointer (some ⟨b, off + i * 36, none⟩))) rfl rfl (Or.inl ⟨by rfl, by intro W hW; clear hW; go_simp⟩) hd.out ?_
            simp only [List.setIfInBounds_toArray, List.set_cons_zero, List.set_cons_succ]
            refine tk (i := 9) (d := 44) (v := (.agg stz.toArray)) rfl rfl (yieldsIf_load_mid (by rfl) 46 _ rfl b (off + i * 36) rfl stz _ (fun W hW => hrs.out W hW.bel) Try.underlying46 rfl (by rw [hs36.out]; exact hi36.out)) hd.out ?_
            simp only [List.setIfInBounds_toArray, List.set_cons_zero, List.set_cons_succ]
            refine wpAnyH_ready (rs := [10]) (by kernel_rfl) (by simp) ?_
            refine AllReadyH.cons rfl (fun K hK => ?_) AllReadyH.nil
            go_simp
            go_wp2_with (go_at_call 14; refine (hDn1.out _ hsd.out).mono ?_; rintro e v1 ⟨rfl, r1⟩; have r1' := Lib.hid r1; clear r1 hDn0 hDn1)
            have hd1 : Hid (Tb2 w gp gm P0 P1 Q0 Q1 v1) := Lib.hid r1'.out.tb2
            refine hK.out _ _ hd1.out (fun _ => ?_)
            clear hK K
            refine tk (i := 11) (d := 46) (v := (.bool false)) rfl rfl (Or.inl ⟨by rfl, by intro W hW; clear hW; go_simp⟩) hd1.out ?_
            simp only [List.setIfInBounds_toArray, List.set_cons_zero, List.set_cons_succ]
            refine wpAnyH_done (by kernel_rfl) ?_ _
            go_wp2_with fail
            go_roundw
            case rel => exact ⟨i + 1, by omega, by go_num, r1'⟩
            case measure => simp [intOf]; omega
        · obtain rfl : i = n := by omega
          have hb5 := Lib.hid bld55
          have hzk := zeroQy
          have hk32' : Hid ((u8s k55).toArray.size = 32) := Lib.hid (by simp [u8s, isK_55.1])
          have hzs : Hid ((u8s (zeros 32)).toArray.size = 32) := Lib.hid (by simp [u8s, zeros])
          have hkn := Lib.hid (key_newQ wr k55)
          go_wp2_with (first
            | (refine wpList_blN rfl 29 _ rfl #[(5, .int .u8 5)] (by rw [List.map_toArray]; rfl) _ (fun W => hb5.out W) ?_)
            | (refine wpList_store_row rfl 29 _ _ rfl wr.heap.size (u8s k55).toArray rfl rfl 29 _ (heap_alloc_new wr _) (by rw [hk32'.out]; exact hi32.out) (by rw [hk32'.out, hzs.out]) (all_oneCell_toArray u8s_one) ?_
               obtain ⟨w5, hw5⟩ : ∃ v, (wr.alloc (.cells (u8s (zeros 32)).toArray 29)).setRow wr.heap.size (u8s k55).toArray = v := ⟨_, rfl⟩
               rw [hw5] at hkn ⊢
               obtain ⟨g8, hg8⟩ : ∃ g, wr.heap.size = g := ⟨_, rfl⟩
               have hY0 : Hid (Sy w gp gm P0 P1 Q0 Q1 i g8 (u8s k55).toArray w5) := Lib.hid ⟨hS.out.below hkn.out.2, by rw [← hg8]; exact hkn.out.1⟩
               rw [hg8]
               clear hw5 hkn hg8))
          go_loopw [9] (fun iv wr => (iv = .int .i64 0 ∧ Hid (Sy w gp gm P0 P1 Q0 Q1 i g8 (u8s k55).toArray wr)) ∨ (iv = .int .i64 1 ∧ Hid (Sy w gp gm P0 P1 Q0 Q1 (i + 5) g8 (u8s k55).toArray wr)) ∨ (iv = .int .i64 2 ∧ Hid (Sy w gp gm P0 P1 Q0 Q1 (i + 10) g8 (u8s k55).toArray wr))) (fun iv _ => 2 - (intOf iv).toNat)
          case atStart => exact .inl ⟨rfl, hY0⟩
          case round =>
            clear hY0
            rcases hrel with ⟨rfl, hY⟩ | ⟨rfl, hY⟩ | ⟨rfl, hY⟩
            · have hnn := hN
              have hX0 : Hid (∀ W, Sy w gp gm P0 P1 Q0 Q1 i g8 (u8s k55).toArray W → Calls Try.prog 14 #[.pointer (some ⟨P0, 0, none⟩), .pointer (some ⟨Q0, 0, none⟩), .agg (stepL 10 false 0 (zeros 32) false).toArray] W fun e w' => e = .returned (.bool true) ∧ Sy w gp gm P0 P1 Q0 Q1 (i + 1) g8 (u8s k55).toArray w') := Lib.hid fun W hW => hW.done0 (by omega) 10 false 0 (zeros 32) isK_z false
              have hX1 : Hid (∀ W, Sy w gp gm P0 P1 Q0 Q1 (i + 1) g8 (u8s k55).toArray W → Calls Try.prog 14 #[.pointer (some ⟨P0, 0, none⟩), .pointer (some ⟨Q0, 0, none⟩), .agg (stepL 0 false 3 (zeros 32) false).toArray] W fun e w' => e = .returned (.bool true) ∧ Sy w gp gm P0 P1 Q0 Q1 (i + 2) g8 (u8s k55).toArray w') := Lib.hid fun W hW => hW.done0 (by omega) 0 false 3 (zeros 32) isK_z false
              have hX2 : Hid (∀ W, Sy w gp gm P0 P1 Q0 Q1 (i + 2) g8 (u8s k55).toArray W → Calls Try.prog 14 #[.pointer (some ⟨P0, 0, none⟩), .pointer (some ⟨Q0, 0, none⟩), .agg (stepL 2 false 3 (k55) false).toArray] W fun e w' => e = .returned (.bool true) ∧ Sy w gp gm P0 P1 Q0 Q1 (i + 3) g8 (u8s k55).toArray w') := Lib.hid fun W hW => hW.done0 (by omega) 2 false 3 (k55) isK_55 false
              have hX3 : Hid (∀ W, Sy w gp gm P0 P1 Q0 Q1 (i + 3) g8 (u8s k55).toArray W → Calls Try.prog 14 #[.pointer (some ⟨P0, 0, none⟩), .pointer (some ⟨Q0, 0, none⟩), .agg (stepL 6 false 3 (k55) false).toArray] W fun e w' => e = .returned (.bool true) ∧ Sy w gp gm P0 P1 Q0 Q1 (i + 4) g8 (u8s k55).toArray w') := Lib.hid fun W hW => hW.done0 (by omega) 6 false 3 (k55) isK_55 false
              have hX4 : Hid (∀ W, Sy w gp gm P0 P1 Q0 Q1 (i + 4) g8 (u8s k55).toArray W → Calls Try.prog 14 #[.pointer (some ⟨P0, 0, none⟩), .pointer (some ⟨Q0, 0, none⟩), .agg (stepL 9 false 0 (k55) false).toArray] W fun e w' => e = .returned (.bool true) ∧ Sy w gp gm P0 P1 Q0 Q1 (i + 5) g8 (u8s k55).toArray w') := Lib.hid fun W hW => hW.done0 (by omega) 9 false 0 (k55) isK_55 false
              have hb0 := Lib.hid bs0
              have hb1 := Lib.hid bs1
              have hb2 := Lib.hid bs2
              have hb3 := Lib.hid bs3
              have hb4 := Lib.hid bs4
              have hk32 : Hid ((u8s k55).toArray.size = 32) := Lib.hid (by simp [u8s, isK_55.1])
              have hsd0 := hY.out.below (below_drewN (Below.refl _ _) 1)
              have hsd : Hid (Sy w gp gm P0 P1 Q0 Q1 i g8 (u8s k55).toArray wr.drew) := Lib.hid hsd0
              generalize (stepL 10 false 0 (zeros 32) false).toArray = st0 at hX0 hb0
              generalize (stepL 0 false 3 (zeros 32) false).toArray = st1 at hX1 hb1
              generalize (stepL 2 false 3 k55 false).toArray = st2 at hX2 hb2
              generalize (stepL 6 false 3 k55 false).toArray = st3 at hX3 hb3
              generalize (stepL 9 false 0 k55 false).toArray = st4 at hX4 hb4
              generalize (u8s k55).toArray = k55v at *
              have hd : Hid (Tb3 w gp gm P0 P1 Q0 Q1 g8 k55v wr.drew) := Lib.hid hsd.out.tb3
              clear hsd0 hY
              go_wp2_with fail
              refine wp_region_held (S := Tb3 w gp gm P0 P1 Q0 Q1 g8 k55v) (by kernel_rfl) ?_
              change wpAnyH _ _ _ _ _ _ _ _ (World.drew _)
              refine tk (i := 0) (d := 52) (v := (.int .i64 0)) rfl rfl (Or.inl ⟨by rfl, by intro W hW; clear hW; go_simp⟩) hd.out ?_
              simp only [List.setIfInBounds_toArray, List.set_cons_zero, List.set_cons_succ]
              refine tk (i := 1) (d := 53) (v := (.pointer (some ⟨gp, 0, none⟩))) rfl rfl (Or.inl ⟨by rfl, by intro W hW; clear hW; go_simp⟩) hd.out ?_
              simp only [List.setIfInBounds_toArray, List.set_cons_zero, List.set_cons_succ]
              refine tk (i := 2) (d := 54) (v := (.pointer (some ⟨P0, 0, none⟩))) rfl rfl (Or.inl ⟨by rfl, by intro W hW; have cc := hW.t2.tb.p0; clear hW; go_simp⟩) hd.out ?_
              simp only [List.setIfInBounds_toArray, List.set_cons_zero, List.set_cons_succ]
              refine tk (i := 3) (d := 55) (v := (.int .i64 0)) rfl rfl (Or.inl ⟨by rfl, by intro W hW; clear hW; go_simp⟩) hd.out ?_
              simp only [List.setIfInBounds_toArray, List.set_cons_zero, List.set_cons_succ]
              refine tk (i := 4) (d := 56) (v := (.pointer (some ⟨gm, 0, none⟩))) rfl rfl (Or.inl ⟨by rfl, by intro W hW; clear hW; go_simp⟩) hd.out ?_
              simp only [List.setIfInBounds_toArray, List.set_cons_zero, List.set_cons_succ]
              refine tk (i := 5) (d := 57) (v := (.pointer (some ⟨Q0, 0, none⟩))) rfl rfl (Or.inl ⟨by rfl, by intro W hW; have cc := hW.t2.tb.m0; clear hW; go_simp⟩) hd.out ?_
              simp only [List.setIfInBounds_toArray, List.set_cons_zero, List.set_cons_succ]
              refine tk (i := 6) (d := 58) (v := (.agg st0)) rfl rfl (yieldsIf_bldQ (by rfl) 46 _ rfl #[(0, .int .i64 10)] (by rw [List.map_toArray]; rfl) _ (fun W => hb0.out W)) hd.out ?_
              simp only [List.setIfInBounds_toArray, List.set_cons_zero, List.set_cons_succ]
              refine wpAnyH_ready (rs := [7]) (by kernel_rfl) (by simp) ?_
              refine AllReadyH.cons rfl (fun K hK => ?_) AllReadyH.nil
              go_simp
              go_wp2_with (go_at_call 14; refine (hX0.out _ hsd.out).mono ?_; rintro e v0 ⟨rfl, r0⟩; have r0' := Lib.hid r0; clear r0 hX0)
              have hd0 : Hid (Tb3 w gp gm P0 P1 Q0 Q1 g8 k55v v0) := Lib.hid r0'.out.tb3
              refine hK.out _ _ hd0.out (fun _ => ?_)
              clear hK K
              refine tk (i := 8) (d := 60) (v := (.bool false)) rfl rfl (Or.inl ⟨by rfl, by intro W hW; clear hW; go_simp⟩) hd0.out ?_
              simp only [List.setIfInBounds_toArray, List.set_cons_zero, List.set_cons_succ]
              refine tk (i := 9) (d := 61) (v := (.bool false)) rfl rfl (Or.inl ⟨by rfl, by intro W hW; clear hW; go_simp⟩) hd0.out ?_
              simp only [List.setIfInBounds_toArray, List.set_cons_zero, List.set_cons_succ]
              refine tk (i := 10) (d := 62) (v := (.int .i64 0)) rfl rfl (Or.inl ⟨by rfl, by intro W hW; clear hW; go_simp⟩) hd0.out ?_
              simp only [List.setIfInBounds_toArray, List.set_cons_zero, List.set_cons_succ]
              refine tk (i := 11) (d := 63) (v := (.pointer (some ⟨gp, 0, none⟩))) rfl rfl (Or.inl ⟨by rfl, by intro W hW; clear hW; go_simp⟩) hd0.out ?_
              simp only [List.setIfInBounds_toArray, List.set_cons_zero, List.set_cons_succ]
              refine tk (i := 12) (d := 64) (v := (.pointer (some ⟨P0, 0, none⟩))) rfl rfl (Or.inl ⟨by rfl, by intro W hW; have cc := hW.t2.tb.p0; clear hW; go_simp⟩) hd0.out ?_
              simp only [List.setIfInBounds_toArray, List.set_cons_zero, List.set_cons_succ]
              refine tk (i := 13) (d := 65) (v := (.int .i64 0)) rfl rfl (Or.inl ⟨by rfl, by intro W hW; clear hW; go_simp⟩) hd0.out ?_
              simp only [List.setIfInBounds_toArray, List.set_cons_zero, List.set_cons_succ]
              refine tk (i := 14) (d := 66) (v := (.pointer (some ⟨gm, 0, none⟩))) rfl rfl (Or.inl ⟨by rfl, by intro W hW; clear hW; go_simp⟩) hd0.out ?_
              simp only [List.setIfInBounds_toArray, List.set_cons_zero, List.set_cons_succ]
              refine tk (i := 15) (d := 67) (v := (.pointer (some ⟨Q0, 0, none⟩))) rfl rfl (Or.inl ⟨by rfl, by intro W hW; have cc := hW.t2.tb.m0; clear hW; go_simp⟩) hd0.out ?_
              simp only [List.setIfInBounds_toArray, List.set_cons_zero, List.set_cons_succ]
              refine tk (i := 16) (d := 68) (v := (.agg st1)) rfl rfl (yieldsIf_bldQ (by rfl) 46 _ rfl #[(0, .int .i64 0), (2, .int .i64 3)] (by rw [List.map_toArray]; rfl) _ (fun W => hb1.out W)) hd0.out ?_
              simp only [List.setIfInBounds_toArray, List.set_cons_zero, List.set_cons_succ]
              refine wpAnyH_ready (rs := [17]) (by kernel_rfl) (by simp) ?_
              refine AllReadyH.cons rfl (fun K hK => ?_) AllReadyH.nil
              go_simp
              go_wp2_with (go_at_call 14; refine (hX1.out _ r0'.out).mono ?_; rintro e v1 ⟨rfl, r1⟩; have r1' := Lib.hid r1; clear r1 hX1)
              have hd1 : Hid (Tb3 w gp gm P0 P1 Q0 Q1 g8 k55v v1) := Lib.hid r1'.out.tb3
              refine hK.out _ _ hd1.out (fun _ => ?_)
              clear hK K
              refine tk (i := 18) (d := 70) (v := (.bool false)) rfl rfl (Or.inl ⟨by rfl, by intro W hW; clear hW; go_simp⟩) hd1.out ?_
              simp only [List.setIfInBounds_toArray, List.set_cons_zero, List.set_cons_succ]
              refine tk (i := 19) (d := 71) (v := (.bool false)) rfl rfl (Or.inl ⟨by rfl, by intro W hW; clear hW; go_simp⟩) hd1.out ?_
              simp only [List.setIfInBounds_toArray, List.set_cons_zero, List.set_cons_succ]
              refine tk (i := 20) (d := 72) (v := (.bool false)) rfl rfl (Or.inl ⟨by rfl, by intro W hW; clear hW; go_simp⟩) hd1.out ?_
              simp only [List.setIfInBounds_toArray, List.set_cons_zero, List.set_cons_succ]
              refine tk (i := 21) (d := 73) (v := (.int .i64 0)) rfl rfl (Or.inl ⟨by rfl, by intro W hW; clear hW; go_simp⟩) hd1.out ?_
              simp only [List.setIfInBounds_toArray, List.set_cons_zero, List.set_cons_succ]
              refine tk (i := 22) (d := 74) (v := (.pointer (some ⟨gp, 0, none⟩))) rfl rfl (Or.inl ⟨by rfl, by intro W hW; clear hW; go_simp⟩) hd1.out ?_
              simp only [List.setIfInBounds_toArray, List.set_cons_zero, List.set_cons_succ]
              refine tk (i := 23) (d := 75) (v := (.pointer (some ⟨P0, 0, none⟩))) rfl rfl (Or.inl ⟨by rfl, by intro W hW; have cc := hW.t2.tb.p0; clear hW; go_simp⟩) hd1.out ?_
              simp only [List.setIfInBounds_toArray, List.set_cons_zero, List.set_cons_succ]
              refine tk (i := 24) (d := 76) (v := (.int .i64 0)) rfl rfl (Or.inl ⟨by rfl, by intro W hW; clear hW; go_simp⟩) hd1.out ?_
              simp only [List.setIfInBounds_toArray, List.set_cons_zero, List.set_cons_succ]
              refine tk (i := 25) (d := 77) (v := (.pointer (some ⟨gm, 0, none⟩))) rfl rfl (Or.inl ⟨by rfl, by intro W hW; clear hW; go_simp⟩) hd1.out ?_
              simp only [List.setIfInBounds_toArray, List.set_cons_zero, List.set_cons_succ]
              refine tk (i := 26) (d := 78) (v := (.pointer (some ⟨Q0, 0, none⟩))) rfl rfl (Or.inl ⟨by rfl, by intro W hW; have cc := hW.t2.tb.m0; clear hW; go_simp⟩) hd1.out ?_
              simp only [List.setIfInBounds_toArray, List.set_cons_zero, List.set_cons_succ]
              refine tk (i := 27) (d := 79) (v := (.agg k55v)) rfl rfl (yieldsIf_load_row (by rfl) 29 _ rfl g8 rfl 29 k55v (0, 0) _ (fun W hW => hW.key) Try.underlying29 rfl (by rw [hk32.out]; exact hi32.out)) hd1.out ?_
              simp only [List.setIfInBounds_toArray, List.set_cons_zero, List.set_cons_succ]
              refine tk (i := 28) (d := 80) (v := (.agg st2)) rfl rfl (yieldsIf_bldQ (by rfl) 46 _ rfl #[(0, .int .i64 2), (2, .int .i64 3), (3, .agg k55v)] (by rw [List.map_toArray]; rfl) _ (fun W => hb2.out W)) hd1.out ?_
              simp only [List.setIfInBounds_toArray, List.set_cons_zero, List.set_cons_succ]
              refine wpAnyH_ready (rs := [29]) (by kernel_rfl) (by simp) ?_
              refine AllReadyH.cons rfl (fun K hK => ?_) AllReadyH.nil
              go_simp
              go_wp2_with (go_at_call 14; refine (hX2.out _ r1'.out).mono ?_; rintro e v2 ⟨rfl, r2⟩; have r2' := Lib.hid r2; clear r2 hX2)
              have hd2 : Hid (Tb3 w gp gm P0 P1 Q0 Q1 g8 k55v v2) := Lib.hid r2'.out.tb3
              refine hK.out _ _ hd2.out (fun _ => ?_)
              clear hK K
              refine tk (i := 30) (d := 82) (v := (.bool false)) rfl rfl (Or.inl ⟨by rfl, by intro W hW; clear hW; go_simp⟩) hd2.out ?_
              simp only [List.setIfInBounds_toArray, List.set_cons_zero, List.set_cons_succ]
              refine tk (i := 31) (d := 83) (v := (.bool false)) rfl rfl (Or.inl ⟨by rfl, by intro W hW; clear hW; go_simp⟩) hd2.out ?_
              simp only [List.setIfInBounds_toArray, List.set_cons_zero, List.set_cons_succ]
              refine tk (i := 32) (d := 84) (v := (.bool false)) rfl rfl (Or.inl ⟨by rfl, by intro W hW; clear hW; go_simp⟩) hd2.out ?_
              simp only [List.setIfInBounds_toArray, List.set_cons_zero, List.set_cons_succ]
              refine tk (i := 33) (d := 85) (v := (.int .i64 0)) rfl rfl (Or.inl ⟨by rfl, by intro W hW; clear hW; go_simp⟩) hd2.out ?_
              simp only [List.setIfInBounds_toArray, List.set_cons_zero, List.set_cons_succ]
              refine tk (i := 34) (d := 86) (v := (.pointer (some ⟨gp, 0, none⟩))) rfl rfl (Or.inl ⟨by rfl, by intro W hW; clear hW; go_simp⟩) hd2.out ?_
              simp only [List.setIfInBounds_toArray, List.set_cons_zero, List.set_cons_succ]
              refine tk (i := 35) (d := 87) (v := (.pointer (some ⟨P0, 0, none⟩))) rfl rfl (Or.inl ⟨by rfl, by intro W hW; have cc := hW.t2.tb.p0; clear hW; go_simp⟩) hd2.out ?_
              simp only [List.setIfInBounds_toArray, List.set_cons_zero, List.set_cons_succ]
              refine tk (i := 36) (d := 88) (v := (.int .i64 0)) rfl rfl (Or.inl ⟨by rfl, by intro W hW; clear hW; go_simp⟩) hd2.out ?_
              simp only [List.setIfInBounds_toArray, List.set_cons_zero, List.set_cons_succ]
              refine tk (i := 37) (d := 89) (v := (.pointer (some ⟨gm, 0, none⟩))) rfl rfl (Or.inl ⟨by rfl, by intro W hW; clear hW; go_simp⟩) hd2.out ?_
              simp only [List.setIfInBounds_toArray, List.set_cons_zero, List.set_cons_succ]
              refine tk (i := 38) (d := 90) (v := (.pointer (some ⟨Q0, 0, none⟩))) rfl rfl (Or.inl ⟨by rfl, by intro W hW; have cc := hW.t2.tb.m0; clear hW; go_simp⟩) hd2.out ?_
              simp only [List.setIfInBounds_toArray, List.set_cons_zero, List.set_cons_succ]
              refine tk (i := 39) (d := 91) (v := (.agg k55v)) rfl rfl (yieldsIf_load_row (by rfl) 29 _ rfl g8 rfl 29 k55v (0, 0) _ (fun W hW => hW.key) Try.underlying29 rfl (by rw [hk32.out]; exact hi32.out)) hd2.out ?_
              simp only [List.setIfInBounds_toArray, List.set_cons_zero, List.set_cons_succ]
              refine tk (i := 40) (d := 92) (v := (.agg st3)) rfl rfl (yieldsIf_bldQ (by rfl) 46 _ rfl #[(0, .int .i64 6), (2, .int .i64 3), (3, .agg k55v)] (by rw [List.map_toArray]; rfl) _ (fun W => hb3.out W)) hd2.out ?_
              simp only [List.setIfInBounds_toArray, List.set_cons_zero, List.set_cons_succ]
              refine wpAnyH_ready (rs := [41]) (by kernel_rfl) (by simp) ?_
              refine AllReadyH.cons rfl (fun K hK => ?_) AllReadyH.nil
              go_simp
              go_wp2_with (go_at_call 14; refine (hX3.out _ r2'.out).mono ?_; rintro e v3 ⟨rfl, r3⟩; have r3' := Lib.hid r3; clear r3 hX3)
              have hd3 : Hid (Tb3 w gp gm P0 P1 Q0 Q1 g8 k55v v3) := Lib.hid r3'.out.tb3
              refine hK.out _ _ hd3.out (fun _ => ?_)
              clear hK K
              refine tk (i := 42) (d := 94) (v := (.bool false)) rfl rfl (Or.inl ⟨by rfl, by intro W hW; clear hW; go_simp⟩) hd3.out ?_
              simp only [List.setIfInBounds_toArray, List.set_cons_zero, List.set_cons_succ]
              refine tk (i := 43) (d := 95) (v := (.bool false)) rfl rfl (Or.inl ⟨by rfl, by intro W hW; clear hW; go_simp⟩) hd3.out ?_
              simp only [List.setIfInBounds_toArray, List.set_cons_zero, List.set_cons_succ]
              refine tk (i := 44) (d := 96) (v := (.bool false)) rfl rfl (Or.inl ⟨by rfl, by intro W hW; clear hW; go_simp⟩) hd3.out ?_
              simp only [List.setIfInBounds_toArray, List.set_cons_zero, List.set_cons_succ]
              refine tk (i := 45) (d := 97) (v := (.int .i64 0)) rfl rfl (Or.inl ⟨by rfl, by intro W hW; clear hW; go_simp⟩) hd3.out ?_
              simp only [List.setIfInBounds_toArray, List.set_cons_zero, List.set_cons_succ]
              refine tk (i := 46) (d := 98) (v := (.pointer (some ⟨gp, 0, none⟩))) rfl rfl (Or.inl ⟨by rfl, by intro W hW; clear hW; go_simp⟩) hd3.out ?_
              simp only [List.setIfInBounds_toArray, List.set_cons_zero, List.set_cons_succ]
              refine tk (i := 47) (d := 99) (v := (.pointer (some ⟨P0, 0, none⟩))) rfl rfl (Or.inl ⟨by rfl, by intro W hW; have cc := hW.t2.tb.p0; clear hW; go_simp⟩) hd3.out ?_
              simp only [List.setIfInBounds_toArray, List.set_cons_zero, List.set_cons_succ]
              refine tk (i := 48) (d := 100) (v := (.int .i64 0)) rfl rfl (Or.inl ⟨by rfl, by intro W hW; clear hW; go_simp⟩) hd3.out ?_
              simp only [List.setIfInBounds_toArray, List.set_cons_zero, List.set_cons_succ]
              refine tk (i := 49) (d := 101) (v := (.pointer (some ⟨gm, 0, none⟩))) rfl rfl (Or.inl ⟨by rfl, by intro W hW; clear hW; go_simp⟩) hd3.out ?_
              simp only [List.setIfInBounds_toArray, List.set_cons_zero, List.set_cons_succ]
              refine tk (i := 50) (d := 102) (v := (.pointer (some ⟨Q0, 0, none⟩))) rfl rfl (Or.inl ⟨by rfl, by intro W hW; have cc := hW.t2.tb.m0; clear hW; go_simp⟩) hd3.out ?_
              simp only [List.setIfInBounds_toArray, List.set_cons_zero, List.set_cons_succ]
              refine tk (i := 51) (d := 103) (v := (.agg k55v)) rfl rfl (yieldsIf_load_row (by rfl) 29 _ rfl g8 rfl 29 k55v (0, 0) _ (fun W hW => hW.key) Try.underlying29 rfl (by rw [hk32.out]; exact hi32.out)) hd3.out ?_
              simp only [List.setIfInBounds_toArray, List.set_cons_zero, List.set_cons_succ]
              refine tk (i := 52) (d := 104) (v := (.agg st4)) rfl rfl (yieldsIf_bldQ (by rfl) 46 _ rfl #[(0, .int .i64 9), (3, .agg k55v)] (by rw [List.map_toArray]; rfl) _ (fun W => hb4.out W)) hd3.out ?_
              simp only [List.setIfInBounds_toArray, List.set_cons_zero, List.set_cons_succ]
              refine wpAnyH_ready (rs := [53]) (by kernel_rfl) (by simp) ?_
              refine AllReadyH.cons rfl (fun K hK => ?_) AllReadyH.nil
              go_simp
              go_wp2_with (go_at_call 14; refine (hX4.out _ r3'.out).mono ?_; rintro e v4 ⟨rfl, r4⟩; have r4' := Lib.hid r4; clear r4 hX4)
              have hd4 : Hid (Tb3 w gp gm P0 P1 Q0 Q1 g8 k55v v4) := Lib.hid r4'.out.tb3
              refine hK.out _ _ hd4.out (fun _ => ?_)
              clear hK K
              refine tk (i := 54) (d := 106) (v := (.bool false)) rfl rfl (Or.inl ⟨by rfl, by intro W hW; clear hW; go_simp⟩) hd4.out ?_
              simp only [List.setIfInBounds_toArray, List.set_cons_zero, List.set_cons_succ]
              refine tk (i := 55) (d := 107) (v := (.bool false)) rfl rfl (Or.inl ⟨by rfl, by intro W hW; clear hW; go_simp⟩) hd4.out ?_
              simp only [List.setIfInBounds_toArray, List.set_cons_zero, List.set_cons_succ]
              refine wpAnyH_done (by kernel_rfl) ?_ _
              go_wp2_with fail
              go_roundw
              case rel => exact .inr (.inl ⟨rfl, r4'⟩)
              case measure => simp [intOf]
            · have hnn := hN
              have hX0 : Hid (∀ W, Sy w gp gm P0 P1 Q0 Q1 (i + 5) g8 (u8s k55).toArray W → Calls Try.prog 14 #[.pointer (some ⟨P1, 0, none⟩), .pointer (some ⟨Q1, 0, none⟩), .agg (stepL 10 false 0 (zeros 32) false).toArray] W fun e w' => e = .returned (.bool true) ∧ Sy w gp gm P0 P1 Q0 Q1 (i + 6) g8 (u8s k55).toArray w') := Lib.hid fun W hW => hW.done1 (by omega) 10 false 0 (zeros 32) isK_z false
              have hX1 : Hid (∀ W, Sy w gp gm P0 P1 Q0 Q1 (i + 6) g8 (u8s k55).toArray W → Calls Try.prog 14 #[.pointer (some ⟨P1, 0, none⟩), .pointer (some ⟨Q1, 0, none⟩), .agg (stepL 0 false 3 (zeros 32) false).toArray] W fun e w' => e = .returned (.bool true) ∧ Sy w gp gm P0 P1 Q0 Q1 (i + 7) g8 (u8s k55).toArray w') := Lib.hid fun W hW => hW.done1 (by omega) 0 false 3 (zeros 32) isK_z false
              have hX2 : Hid (∀ W, Sy w gp gm P0 P1 Q0 Q1 (i + 7) g8 (u8s k55).toArray W → Calls Try.prog 14 #[.pointer (some ⟨P1, 0, none⟩), .pointer (some ⟨Q1, 0, none⟩), .agg (stepL 2 false 3 (k55) false).toArray] W fun e w' => e = .returned (.bool true) ∧ Sy w gp gm P0 P1 Q0 Q1 (i + 8) g8 (u8s k55).toArray w') := Lib.hid fun W hW => hW.done1 (by omega) 2 false 3 (k55) isK_55 false
              have hX3 : Hid (∀ W, Sy w gp gm P0 P1 Q0 Q1 (i + 8) g8 (u8s k55).toArray W → Calls Try.prog 14 #[.pointer (some ⟨P1, 0, none⟩), .pointer (some ⟨Q1, 0, none⟩), .agg (stepL 6 false 3 (k55) false).toArray] W fun e w' => e = .returned (.bool true) ∧ Sy w gp gm P0 P1 Q0 Q1 (i + 9) g8 (u8s k55).toArray w') := Lib.hid fun W hW => hW.done1 (by omega) 6 false 3 (k55) isK_55 false
              have hX4 : Hid (∀ W, Sy w gp gm P0 P1 Q0 Q1 (i + 9) g8 (u8s k55).toArray W → Calls Try.prog 14 #[.pointer (some ⟨P1, 0, none⟩), .pointer (some ⟨Q1, 0, none⟩), .agg (stepL 9 false 0 (k55) false).toArray] W fun e w' => e = .returned (.bool true) ∧ Sy w gp gm P0 P1 Q0 Q1 (i + 10) g8 (u8s k55).toArray w') := Lib.hid fun W hW => hW.done1 (by omega) 9 false 0 (k55) isK_55 false
              have hb0 := Lib.hid bs0
              have hb1 := Lib.hid bs1
              have hb2 := Lib.hid bs2
              have hb3 := Lib.hid bs3
              have hb4 := Lib.hid bs4
              have hk32 : Hid ((u8s k55).toArray.size = 32) := Lib.hid (by simp [u8s, isK_55.1])
              have hsd0 := hY.out.below (below_drewN (Below.refl _ _) 1)
              have hsd : Hid (Sy w gp gm P0 P1 Q0 Q1 (i + 5) g8 (u8s k55).toArray wr.drew) := Lib.hid hsd0
              generalize (stepL 10 false 0 (zeros 32) false).toArray = st0 at hX0 hb0
              generalize (stepL 0 false 3 (zeros 32) false).toArray = st1 at hX1 hb1
              generalize (stepL 2 false 3 k55 false).toArray = st2 at hX2 hb2
              generalize (stepL 6 false 3 k55 false).toArray = st3 at hX3 hb3
              generalize (stepL 9 false 0 k55 false).toArray = st4 at hX4 hb4
              generalize (u8s k55).toArray = k55v at *
              have hd : Hid (Tb3 w gp gm P0 P1 Q0 Q1 g8 k55v wr.drew) := Lib.hid hsd.out.tb3
              clear hsd0 hY
              go_wp2_with fail
              refine wp_region_held (S := Tb3 w gp gm P0 P1 Q0 Q1 g8 k55v) (by kernel_rfl) ?_
              change wpAnyH _ _ _ _ _ _ _ _ (World.drew _)
              refine tk (i := 0) (d := 52) (v := (.int .i64 1)) rfl rfl (Or.inl ⟨by rfl, by intro W hW; clear hW; go_simp⟩) hd.out ?_
              simp only [List.setIfInBounds_toArray, List.set_cons_zero, List.set_cons_succ]
              refine tk (i := 1) (d := 53) (v := (.pointer (some ⟨gp, 1, none⟩))) rfl rfl (Or.inl ⟨by rfl, by intro W hW; clear hW; go_simp⟩) hd.out ?_
              simp only [List.setIfInBounds_toArray, List.set_cons_zero, List.set_cons_succ]
              refine tk (i := 2) (d := 54) (v := (.pointer (some ⟨P1, 0, none⟩))) rfl rfl (Or.inl ⟨by rfl, by intro W hW; have cc := hW.t2.tb.p1; clear hW; go_simp⟩) hd.out ?_
              simp only [List.setIfInBounds_toArray, List.set_cons_zero, List.set_cons_succ]
              refine tk (i := 3) (d := 55) (v := (.int .i64 1)) rfl rfl (Or.inl ⟨by rfl, by intro W hW; clear hW; go_simp⟩) hd.out ?_
              simp only [List.setIfInBounds_toArray, List.set_cons_zero, List.set_cons_succ]
              refine tk (i := 4) (d := 56) (v := (.pointer (some ⟨gm, 1, none⟩))) rfl rfl (Or.inl ⟨by rfl, by intro W hW; clear hW; go_simp⟩) hd.out ?_
              simp only [List.setIfInBounds_toArray, List.set_cons_zero, List.set_cons_succ]
              refine tk (i := 5) (d := 57) (v := (.pointer (some ⟨Q1, 0, none⟩))) rfl rfl (Or.inl ⟨by rfl, by intro W hW; have cc := hW.t2.tb.m1; clear hW; go_simp⟩) hd.out ?_
              simp only [List.setIfInBounds_toArray, List.set_cons_zero, List.set_cons_succ]
              refine tk (i := 6) (d := 58) (v := (.agg st0)) rfl rfl (yieldsIf_bldQ (by rfl) 46 _ rfl #[(0, .int .i64 10)] (by rw [List.map_toArray]; rfl) _ (fun W => hb0.out W)) hd.out ?_
              simp only [List.setIfInBounds_toArray, List.set_cons_zero, List.set_cons_succ]
              refine wpAnyH_ready (rs := [7]) (by kernel_rfl) (by simp) ?_
              refine AllReadyH.cons rfl (fun K hK => ?_) AllReadyH.nil
              go_simp
              go_wp2_with (go_at_call 14; refine (hX0.out _ hsd.out).mono ?_; rintro e v0 ⟨rfl, r0⟩; have r0' := Lib.hid r0; clear r0 hX0)
              have hd0 : Hid (Tb3 w gp gm P0 P1 Q0 Q1 g8 k55v v0) := Lib.hid r0'.out.tb3
              refine hK.out _ _ hd0.out (fun _ => ?_)
              clear hK K
              refine tk (i := 8) (d := 60) (v := (.bool false)) rfl rfl (Or.inl ⟨by rfl, by intro W hW; clear hW; go_simp⟩) hd0.out ?_
              simp only [List.setIfInBounds_toArray, List.set_cons_zero, List.set_cons_succ]
              refine tk (i := 9) (d := 61) (v := (.bool false)) rfl rfl (Or.inl ⟨by rfl, by intro W hW; clear hW; go_simp⟩) hd0.out ?_
              simp only [List.setIfInBounds_toArray, List.set_cons_zero, List.set_cons_succ]
              refine tk (i := 10) (d := 62) (v := (.int .i64 1)) rfl rfl (Or.inl ⟨by rfl, by intro W hW; clear hW; go_simp⟩) hd0.out ?_
              simp only [List.setIfInBounds_toArray, List.set_cons_zero, List.set_cons_succ]
              refine tk (i := 11) (d := 63) (v := (.pointer (some ⟨gp, 1, none⟩))) rfl rfl (Or.inl ⟨by rfl, by intro W hW; clear hW; go_simp⟩) hd0.out ?_
              simp only [List.setIfInBounds_toArray, List.set_cons_zero, List.set_cons_succ]
              refine tk (i := 12) (d := 64) (v := (.pointer (some ⟨P1, 0, none⟩))) rfl rfl (Or.inl ⟨by rfl, by intro W hW; have cc := hW.t2.tb.p1; clear hW; go_simp⟩) hd0.out ?_
              simp only [List.setIfInBounds_toArray, List.set_cons_zero, List.set_cons_succ]
              refine tk (i := 13) (d := 65) (v := (.int .i64 1)) rfl rfl (Or.inl ⟨by rfl, by intro W hW; clear hW; go_simp⟩) hd0.out ?_
              simp only [List.setIfInBounds_toArray, List.set_cons_zero, List.set_cons_succ]
              refine tk (i := 14) (d := 66) (v := (.pointer (some ⟨gm, 1, none⟩))) rfl rfl (Or.inl ⟨by rfl, by intro W hW; clear hW; go_simp⟩) hd0.out ?_
              simp only [List.setIfInBounds_toArray, List.set_cons_zero, List.set_cons_succ]
              refine tk (i := 15) (d := 67) (v := (.pointer (some ⟨Q1, 0, none⟩))) rfl rfl (Or.inl ⟨by rfl, by intro W hW; have cc := hW.t2.tb.m1; clear hW; go_simp⟩) hd0.out ?_
              simp only [List.setIfInBounds_toArray, List.set_cons_zero, List.set_cons_succ]
              refine tk (i := 16) (d := 68) (v := (.agg st1)) rfl rfl (yieldsIf_bldQ (by rfl) 46 _ rfl #[(0, .int .i64 0), (2, .int .i64 3)] (by rw [List.map_toArray]; rfl) _ (fun W => hb1.out W)) hd0.out ?_
              simp only [List.setIfInBounds_toArray, List.set_cons_zero, List.set_cons_succ]
              refine wpAnyH_ready (rs := [17]) (by kernel_rfl) (by simp) ?_
              refine AllReadyH.cons rfl (fun K hK => ?_) AllReadyH.nil
              go_simp
              go_wp2_with (go_at_call 14; refine (hX1.out _ r0'.out).mono ?_; rintro e v1 ⟨rfl, r1⟩; have r1' := Lib.hid r1; clear r1 hX1)
              have hd1 : Hid (Tb3 w gp gm P0 P1 Q0 Q1 g8 k55v v1) := Lib.hid r1'.out.tb3
              refine hK.out _ _ hd1.out (fun _ => ?_)
              clear hK K
              refine tk (i := 18) (d := 70) (v := (.bool false)) rfl rfl (Or.inl ⟨by rfl, by intro W hW; clear hW; go_simp⟩) hd1.out ?_
              simp only [List.setIfInBounds_toArray, List.set_cons_zero, List.set_cons_succ]
              refine tk (i := 19) (d := 71) (v := (.bool false)) rfl rfl (Or.inl ⟨by rfl, by intro W hW; clear hW; go_simp⟩) hd1.out ?_
              simp only [List.setIfInBounds_toArray, List.set_cons_zero, List.set_cons_succ]
              refine tk (i := 20) (d := 72) (v := (.bool false)) rfl rfl (Or.inl ⟨by rfl, by intro W hW; clear hW; go_simp⟩) hd1.out ?_
              simp only [List.setIfInBounds_toArray, List.set_cons_zero, List.set_cons_succ]
              refine tk (i := 21) (d := 73) (v := (.int .i64 1)) rfl rfl (Or.inl ⟨by rfl, by intro W hW; clear hW; go_simp⟩) hd1.out ?_
              simp only [List.setIfInBounds_toArray, List.set_cons_zero, List.set_cons_succ]
              refine tk (i := 22) (d := 74) (v := (.pointer (some ⟨gp, 1, none⟩))) rfl rfl (Or.inl ⟨by rfl, by intro W hW; clear hW; go_simp⟩) hd1.out ?_
              simp only [List.setIfInBounds_toArray, List.set_cons_zero, List.set_cons_succ]
              refine tk (i := 23) (d := 75) (v := (.pointer (some ⟨P1, 0, none⟩))) rfl rfl (Or.inl ⟨by rfl, by intro W hW; have cc := hW.t2.tb.p1; clear hW; go_simp⟩) hd1.out ?_
              simp only [List.setIfInBounds_toArray, List.set_cons_zero, List.set_cons_succ]
              refine tk (i := 24) (d := 76) (v := (.int .i64 1)) rfl rfl (Or.inl ⟨by rfl, by intro W hW; clear hW; go_simp⟩) hd1.out ?_
              simp only [List.setIfInBounds_toArray, List.set_cons_zero, List.set_cons_succ]
              refine tk (i := 25) (d := 77) (v := (.pointer (some ⟨gm, 1, none⟩))) rfl rfl (Or.inl ⟨by rfl, by intro W hW; clear hW; go_simp⟩) hd1.out ?_
              simp only [List.setIfInBounds_toArray, List.set_cons_zero, List.set_cons_succ]
              refine tk (i := 26) (d := 78) (v := (.pointer (some ⟨Q1, 0, none⟩))) rfl rfl (Or.inl ⟨by rfl, by intro W hW; have cc := hW.t2.tb.m1; clear hW; go_simp⟩) hd1.out ?_
              simp only [List.setIfInBounds_toArray, List.set_cons_zero, List.set_cons_succ]
              refine tk (i := 27) (d := 79) (v := (.agg k55v)) rfl rfl (yieldsIf_load_row (by rfl) 29 _ rfl g8 rfl 29 k55v (0, 0) _ (fun W hW => hW.key) Try.underlying29 rfl (by rw [hk32.out]; exact hi32.out)) hd1.out ?_
              simp only [List.setIfInBounds_toArray, List.set_cons_zero, List.set_cons_succ]
              refine tk (i := 28) (d := 80) (v := (.agg st2)) rfl rfl (yieldsIf_bldQ (by rfl) 46 _ rfl #[(0, .int .i64 2), (2, .int .i64 3), (3, .agg k55v)] (by rw [List.map_toArray]; rfl) _ (fun W => hb2.out W)) hd1.out ?_
              simp only [List.setIfInBounds_toArray, List.set_cons_zero, List.set_cons_succ]
              refine wpAnyH_ready (rs := [29]) (by kernel_rfl) (by simp) ?_
              refine AllReadyH.cons rfl (fun K hK => ?_) AllReadyH.nil
              go_simp
              go_wp2_with (go_at_call 14; refine (hX2.out _ r1'.out).mono ?_; rintro e v2 ⟨rfl, r2⟩; have r2' := Lib.hid r2; clear r2 hX2)
              have hd2 : Hid (Tb3 w gp gm P0 P1 Q0 Q1 g8 k55v v2) := Lib.hid r2'.out.tb3
              refine hK.out _ _ hd2.out (fun _ => ?_)
              clear hK K
              refine tk (i := 30) (d := 82) (v := (.bool false)) rfl rfl (Or.inl ⟨by rfl, by intro W hW; clear hW; go_simp⟩) hd2.out ?_
              simp only [List.setIfInBounds_toArray, List.set_cons_zero, List.set_cons_succ]
              refine tk (i := 31) (d := 83) (v := (.bool false)) rfl rfl (Or.inl ⟨by rfl, by intro W hW; clear hW; go_simp⟩) hd2.out ?_
              simp only [List.setIfInBounds_toArray, List.set_cons_zero, List.set_cons_succ]
              refine tk (i := 32) (d := 84) (v := (.bool false)) rfl rfl (Or.inl ⟨by rfl, by intro W hW; clear hW; go_simp⟩) hd2.out ?_
              simp only [List.setIfInBounds_toArray, List.set_cons_zero, List.set_cons_succ]
              refine tk (i := 33) (d := 85) (v := (.int .i64 1)) rfl rfl (Or.inl ⟨by rfl, by intro W hW; clear hW; go_simp⟩) hd2.out ?_
              simp only [List.setIfInBounds_toArray, List.set_cons_zero, List.set_cons_succ]
              refine tk (i := 34) (d := 86) (v := (.pointer (some ⟨gp, 1, none⟩))) rfl rfl (Or.inl ⟨by rfl, by intro W hW; clear hW; go_simp⟩) hd2.out ?_
              simp only [List.setIfInBounds_toArray, List.set_cons_zero, List.set_cons_succ]
              refine tk (i := 35) (d := 87) (v := (.pointer (some ⟨P1, 0, none⟩))) rfl rfl (Or.inl ⟨by rfl, by intro W hW; have cc := hW.t2.tb.p1; clear hW; go_simp⟩) hd2.out ?_
              simp only [List.setIfInBounds_toArray, List.set_cons_zero, List.set_cons_succ]
              refine tk (i := 36) (d := 88) (v := (.int .i64 1)) rfl rfl (Or.inl ⟨by rfl, by intro W hW; clear hW; go_simp⟩) hd2.out ?_
              simp only [List.setIfInBounds_toArray, List.set_cons_zero, List.set_cons_succ]
              refine tk (i := 37) (d := 89) (v := (.pointer (some ⟨gm, 1, none⟩))) rfl rfl (Or.inl ⟨by rfl, by intro W hW; clear hW; go_simp⟩) hd2.out ?_
              simp only [List.setIfInBounds_toArray, List.set_cons_zero, List.set_cons_succ]
              refine tk (i := 38) (d := 90) (v := (.pointer (some ⟨Q1, 0, none⟩))) rfl rfl (Or.inl ⟨by rfl, by intro W hW; have cc := hW.t2.tb.m1; clear hW; go_simp⟩) hd2.out ?_
              simp only [List.setIfInBounds_toArray, List.set_cons_zero, List.set_cons_succ]
              refine tk (i := 39) (d := 91) (v := (.agg k55v)) rfl rfl (yieldsIf_load_row (by rfl) 29 _ rfl g8 rfl 29 k55v (0, 0) _ (fun W hW => hW.key) Try.underlying29 rfl (by rw [hk32.out]; exact hi32.out)) hd2.out ?_
              simp only [List.setIfInBounds_toArray, List.set_cons_zero, List.set_cons_succ]
              refine tk (i := 40) (d := 92) (v := (.agg st3)) rfl rfl (yieldsIf_bldQ (by rfl) 46 _ rfl #[(0, .int .i64 6), (2, .int .i64 3), (3, .agg k55v)] (by rw [List.map_toArray]; rfl) _ (fun W => hb3.out W)) hd2.out ?_
              simp only [List.setIfInBounds_toArray, List.set_cons_zero, List.set_cons_succ]
              refine wpAnyH_ready (rs := [41]) (by kernel_rfl) (by simp) ?_
              refine AllReadyH.cons rfl (fun K hK => ?_) AllReadyH.nil
              go_simp
              go_wp2_with (go_at_call 14; refine (hX3.out _ r2'.out).mono ?_; rintro e v3 ⟨rfl, r3⟩; have r3' := Lib.hid r3; clear r3 hX3)
              have hd3 : Hid (Tb3 w gp gm P0 P1 Q0 Q1 g8 k55v v3) := Lib.hid r3'.out.tb3
              refine hK.out _ _ hd3.out (fun _ => ?_)
              clear hK K
              refine tk (i := 42) (d := 94) (v := (.bool false)) rfl rfl (Or.inl ⟨by rfl, by intro W hW; clear hW; go_simp⟩) hd3.out ?_
              simp only [List.setIfInBounds_toArray, List.set_cons_zero, List.set_cons_succ]
              refine tk (i := 43) (d := 95) (v := (.bool false)) rfl rfl (Or.inl ⟨by rfl, by intro W hW; clear hW; go_simp⟩) hd3.out ?_
              simp only [List.setIfInBounds_toArray, List.set_cons_zero, List.set_cons_succ]
              refine tk (i := 44) (d := 96) (v := (.bool false)) rfl rfl (Or.inl ⟨by rfl, by intro W hW; clear hW; go_simp⟩) hd3.out ?_
              simp only [List.setIfInBounds_toArray, List.set_cons_zero, List.set_cons_succ]
              refine tk (i := 45) (d := 97) (v := (.int .i64 1)) rfl rfl (Or.inl ⟨by rfl, by intro W hW; clear hW; go_simp⟩) hd3.out ?_
              simp only [List.setIfInBounds_toArray, List.set_cons_zero, List.set_cons_succ]
              refine tk (i := 46) (d := 98) (v := (.pointer (some ⟨gp, 1, none⟩))) rfl rfl (Or.inl ⟨by rfl, by intro W hW; clear hW; go_simp⟩) hd3.out ?_
              simp only [List.setIfInBounds_toArray, List.set_cons_zero, List.set_cons_succ]
              refine tk (i := 47) (d := 99) (v := (.pointer (some ⟨P1, 0, none⟩))) rfl rfl (Or.inl ⟨by rfl, by intro W hW; have cc := hW.t2.tb.p1; clear hW; go_simp⟩) hd3.out ?_
              simp only [List.setIfInBounds_toArray, List.set_cons_zero, List.set_cons_succ]
              refine tk (i := 48) (d := 100) (v := (.int .i64 1)) rfl rfl (Or.inl ⟨by rfl, by intro W hW; clear hW; go_simp⟩) hd3.out ?_
              simp only [List.setIfInBounds_toArray, List.set_cons_zero, List.set_cons_succ]
              refine tk (i := 49) (d := 101) (v := (.pointer (some ⟨gm, 1, none⟩))) rfl rfl (Or.inl ⟨by rfl, by intro W hW; clear hW; go_simp⟩) hd3.out ?_
              simp only [List.setIfInBounds_toArray, List.set_cons_zero, List.set_cons_succ]
              refine tk (i := 50) (d := 102) (v := (.pointer (some ⟨Q1, 0, none⟩))) rfl rfl (Or.inl ⟨by rfl, by intro W hW; have cc := hW.t2.tb.m1; clear hW; go_simp⟩) hd3.out ?_
              simp only [List.setIfInBounds_toArray, List.set_cons_zero, List.set_cons_succ]
              refine tk (i := 51) (d := 103) (v := (.agg k55v)) rfl rfl (yieldsIf_load_row (by rfl) 29 _ rfl g8 rfl 29 k55v (0, 0) _ (fun W hW => hW.key) Try.underlying29 rfl (by rw [hk32.out]; exact hi32.out)) hd3.out ?_
              simp only [List.setIfInBounds_toArray, List.set_cons_zero, List.set_cons_succ]
              refine tk (i := 52) (d := 104) (v := (.agg st4)) rfl rfl (yieldsIf_bldQ (by rfl) 46 _ rfl #[(0, .int .i64 9), (3, .agg k55v)] (by rw [List.map_toArray]; rfl) _ (fun W => hb4.out W)) hd3.out ?_
              simp only [List.setIfInBounds_toArray, List.set_cons_zero, List.set_cons_succ]
              refine wpAnyH_ready (rs := [53]) (by kernel_rfl) (by simp) ?_
              refine AllReadyH.cons rfl (fun K hK => ?_) AllReadyH.nil
              go_simp
              go_wp2_with (go_at_call 14; refine (hX4.out _ r3'.out).mono ?_; rintro e v4 ⟨rfl, r4⟩; have r4' := Lib.hid r4; clear r4 hX4)
              have hd4 : Hid (Tb3 w gp gm P0 P1 Q0 Q1 g8 k55v v4) := Lib.hid r4'.out.tb3
              refine hK.out _ _ hd4.out (fun _ => ?_)
              clear hK K
              refine tk (i := 54) (d := 106) (v := (.bool false)) rfl rfl (Or.inl ⟨by rfl, by intro W hW; clear hW; go_simp⟩) hd4.out ?_
              simp only [List.setIfInBounds_toArray, List.set_cons_zero, List.set_cons_succ]
              refine tk (i := 55) (d := 107) (v := (.bool false)) rfl rfl (Or.inl ⟨by rfl, by intro W hW; clear hW; go_simp⟩) hd4.out ?_
              simp only [List.setIfInBounds_toArray, List.set_cons_zero, List.set_cons_succ]
              refine wpAnyH_done (by kernel_rfl) ?_ _
              go_wp2_with fail
              go_roundw
              case rel => exact .inr (.inr ⟨rfl, r4'⟩)
              case measure => simp [intOf]
            · have hT := Lib.hid (nothing_any wr)
              go_wp2_with (go_at_call 15; refine hT.out.mono ?_; rintro e w9 ⟨rfl, b9⟩; have hB9 := Lib.hid (hY.out.sx.tb2.bel.trans (b9.mono hY.out.sx.tb2.bel.size)); clear b9 hT)
              go_ret
              exact ⟨rfl, hB9.out⟩
end Go.Proofs.Ytgjokkjmljdmbaa

/- Small words on memory that all walks of this seat use: what a slice's cells hold, and how such facts are kept. No program is named here. -/
import Derived.WalkKit
import Derived.WalkLawsBesides
import Derived.Handy
import Derived.Lib.Hide
import Derived.Deep.Draws
import Derived.Deep.QuietTactic
import Derived.BigQuiet
namespace Go.Proofs.Ytgjokkjmljdmbaa
open Go.RowKit

theorem ret_int {k : IntKind} {a b : Int} (h : a = b) : Ending.returned (.int k a) = .returned (.int k b) := by rw [h]
theorem ret_float {k : FloatKind} {a b : Nat} (h : a = b) : Ending.returned (.float k a) = .returned (.float k b) := by rw [h]
theorem ret_bool {a b : Bool} (h : a = b) : Ending.returned (.bool a) = .returned (.bool b) := by rw [h]

/-- From address A on, n cells hold g 0, g 1, ..; they lie below block B. Of an empty row nothing is said. -/
def Rd (w : World) (B : Nat) (A : Option Addr) (n : Nat) (g : Nat → Value) : Prop :=
  0 < n → ∃ b off, A = some ⟨b, off, none⟩ ∧ b < B ∧ ∀ j, j < n → w.cell? ⟨b, off + j, none⟩ = some (g j)

section
variable {w w' : World} {B B' n : Nat} {A : Option Addr} {g g' : Nat → Value}
theorem Rd.empty : Rd w B A 0 g := fun h => absurd h (Nat.lt_irrefl 0)
theorem Rd.keep (h : Rd w B A n g) (hk : ∀ p : Addr, p.block < B → w'.cell? p = w.cell? p) : Rd w' B A n g := fun hn => by
  obtain ⟨b, off, e, hb, hc⟩ := h hn
  exact ⟨b, off, e, hb, fun j hj => (hk ⟨b, off + j, none⟩ hb).trans (hc j hj)⟩
theorem Rd.below (h : Rd w B A n g) (hb : Below B w w') : Rd w' B A n g := h.keep fun _ hp => hb.cell hp
theorem Rd.mono (h : Rd w B A n g) (hB : B ≤ B') : Rd w B' A n g := fun hn => by
  obtain ⟨b, off, e, hb, hc⟩ := h hn
  exact ⟨b, off, e, by omega, hc⟩
theorem Rd.drew (h : Rd w B A n g) : Rd w.drew B A n g := h
theorem Rd.drewN (h : Rd w B A n g) (k : Nat) : Rd (w.drewN k) B A n g := h
theorem Rd.alloc (h : Rd w B A n g) (hB : B ≤ w.heap.size) (o : Obj) : Rd (w.alloc o) B A n g :=
  h.keep fun p hp => World.cell?_alloc_lt w o p (by omega)
theorem Rd.setCell (h : Rd w B A n g) {p : Addr} (hB : B ≤ p.block) (u : Value) : Rd (w.setCell p u) B A n g :=
  h.keep fun q hq => World.cell?_setCell_other w p q u (fun e => by subst e; omega)
theorem Rd.grown (h : Rd w B A n g) {row : Option Nat} (hg : w.grownBy w' row) (hB : B ≤ w.heap.size) (hr : ∀ k, row = some k → B ≤ k) : Rd w' B A n g :=
  h.keep fun p hp => World.cell?_of_block (hg.block p.block (by omega) (fun e => by have := hr _ e.symm; omega))
theorem Rd.congr (h : Rd w B A n g) (he : ∀ j, j < n → g j = g' j) : Rd w B A n g' := fun hn => by
  obtain ⟨b, off, e, hb, hc⟩ := h hn
  exact ⟨b, off, e, hb, fun j hj => (hc j hj).trans (by rw [he j hj])⟩
theorem Rd.take (h : Rd w B A n g) {m : Nat} (hm : m ≤ n) : Rd w B A m g := fun hn => by
  obtain ⟨b, off, e, hb, hc⟩ := h (by omega)
  exact ⟨b, off, e, hb, fun j hj => hc j (by omega)⟩
/-- s[k:]: the model keeps the old address where k is the capacity. -/
theorem Rd.cut (h : Rd w B A n g) {k cap : Nat} (hk : k ≤ n) (hc : n ≤ cap) :
    Rd w B (if cap = k then A else A.map (·.add k)) (n - k) (fun j => g (k + j)) := fun hn => by
  obtain ⟨b, off, rfl, hb, hcell⟩ := h (by omega)
  rw [if_neg (by omega)]
  exact ⟨b, off + k, by simp [Addr.add_lit], hb, fun j hj => by rw [Nat.add_assoc]; exact hcell (k + j) (by omega)⟩
theorem Rd.get (h : Rd w B A n g) {k : Nat} (hk : k < n) : ∃ b off, A = some ⟨b, off, none⟩ ∧ b < B ∧ w.cell? ⟨b, off + k, none⟩ = some (g k) := by
  obtain ⟨b, off, e, hb, hc⟩ := h (by omega)
  exact ⟨b, off, e, hb, hc k hk⟩
end

/-- A row of bytes. -/
abbrev Byt (w : World) (B : Nat) (A : Option Addr) (l : List Nat) : Prop := Rd w B A l.length (fun j => .int .u8 ((l[j]?.getD 0 : Nat) : Int))

theorem below_drewN {B : Nat} {a w : World} (h : Below B a w) (n : Nat) : Below B a (w.drewN n) := ⟨h.os, h.tape, h.output, h.size, h.block⟩

/-- A quiet call in a region that draws, behind other draws; the contract says 'w = w''. -/
theorem quiet_l {P : Program} {f : FuncId} {args : Array Value} {w : World} {n : Nat} {v : Value} (h : ∀ W : World, Calls P f args W fun e w' => e = .returned v ∧ W = w') :
    Calls P f args (w.drewN n) fun e w'' => e = .returned v ∧ ∃ m, w'' = w.drewN m :=
  (h _).mono fun _ _ ⟨he, hm⟩ => ⟨he, n, hm.symm⟩
theorem quiet_l2 {P : Program} {f : FuncId} {args : Array Value} {w : World} {a n : Nat} {v : Value} (h : ∀ W : World, Calls P f args W fun e w' => e = .returned v ∧ W = w') :
    Calls P f args (w.drewN (a + n)) fun e w'' => e = .returned v ∧ ∃ m, w'' = w.drewN (a + m) :=
  (h _).mono fun _ _ ⟨he, hm⟩ => ⟨he, n, hm.symm⟩

/-- The same of contracts of one world: with draws, without. -/
theorem quiet_d2 {P : Program} {f : FuncId} {args : Array Value} {w : World} {a n : Nat} {v : Value} (h : Calls P f args (w.drewN (a + n)) fun e w' => e = .returned v ∧ ∃ m, w' = (w.drewN (a + n)).drewN m) :
    Calls P f args (w.drewN (a + n)) fun e w'' => e = .returned v ∧ ∃ m, w'' = w.drewN (a + m) :=
  h.mono fun _ _ ⟨he, m, hm⟩ => ⟨he, n + m, by rw [hm, World.drewN_drewN, Nat.add_assoc]⟩
theorem quiet_e2 {P : Program} {f : FuncId} {args : Array Value} {w : World} {a n : Nat} {v : Value} (h : Calls P f args (w.drewN (a + n)) fun e w' => e = .returned v ∧ w.drewN (a + n) = w') :
    Calls P f args (w.drewN (a + n)) fun e w'' => e = .returned v ∧ ∃ m, w'' = w.drewN (a + m) :=
  h.mono fun _ _ ⟨he, hm⟩ => ⟨he, n, hm.symm⟩
theorem quiet_e {P : Program} {f : FuncId} {args : Array Value} {w : World} {n : Nat} {v : Value} (h : Calls P f args (w.drewN n) fun e w' => e = .returned v ∧ w.drewN n = w') :
    Calls P f args (w.drewN n) fun e w'' => e = .returned v ∧ ∃ m, w'' = w.drewN m :=
  h.mono fun _ _ ⟨he, hm⟩ => ⟨he, n, hm.symm⟩

/-- What the call owns reads as a row. -/
theorem rd_of_own {w : World} {base : Nat} {e : TypeId} {size n c : Nat} {A : Option Addr} {xs : List Value} (h : w.ownsRow base e size (.slice A n c) n xs) :
    Rd w w.heap.size A (n * size) (fun j => xs[j]?.getD undef) := fun hn => by
  rcases h.2 with ⟨_, rfl⟩ | ⟨g, cap, cur, hv, _, hg, _⟩
  · simp at hn
  · have hA : A = some ⟨g, 0, none⟩ := by injection hv
    subst hA
    refine ⟨g, 0, rfl, (Array.getElem?_eq_some_iff.1 hg).1, fun j hj => ?_⟩
    have hl : j < xs.length := by rw [h.1]; exact hj
    have := h.cells (g := g) rfl j xs[j] (List.getElem?_eq_getElem hl)
    rw [Addr.add_lit] at this
    simp only [this, List.getElem?_eq_getElem hl, Option.getD_some]
end Go.Proofs.Ytgjokkjmljdmbaa

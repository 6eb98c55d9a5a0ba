/- Digits of a key, both ways, and their order: in plain words. No program is named here. Small words on memory that all walks of this seat use: what a slice's cells hold, and how such facts are kept. No program is named here. -/
import Derived.Lib.Bytealg
import Derived.Lib.IndexLaws
import Derived.Laws.Strings
import Derived.WalkKit
import Derived.WalkLawsBesides
import Derived.Handy
import Derived.Lib.Hide
import Derived.Deep.Draws
import Derived.Deep.QuietTactic
import Derived.BigQuiet

namespace Go.Proofs.Ytlolnpilpdkbkaa

def digitsL : List UInt8 := [48, 49, 50, 51, 52, 53, 54, 55, 56, 57, 97, 98, 99, 100, 101, 102]
def dg (n : Nat) : UInt8 := digitsL[n]?.getD 0
def val (c : UInt8) : Int := Lib.indexByte digitsL c
def hexL : List Nat → List UInt8
  | [] => []
  | b :: l => dg (b / 16) :: dg (b % 16) :: hexL l
def unhex (a b : UInt8) : Nat := (val a).toNat * 16 + (val b).toNat
def parsedL : List UInt8 → List Nat
  | a :: b :: s => unhex a b :: parsedL s
  | _ => []
def allDig (s : List UInt8) : Bool := s.all fun c => decide (0 ≤ val c)

theorem val_dg : ∀ n : Nat, n < 16 → val (dg n) = n := by decide
theorem dg_lt : ∀ m : Nat, m < 16 → ∀ n : Nat, n < 16 → (dg m < dg n ↔ m < n) := by decide
theorem val_lt (c : UInt8) (h : 0 ≤ val c) : val c < 16 ∧ dg (val c).toNat = c := by
  obtain ⟨o, ho⟩ := Int.eq_ofNat_of_zero_le h
  have h1 := (Lib.indexByte_some (l := digitsL) (c := c) (o := o) ho).1
  have h2 := (List.getElem?_eq_some_iff.1 h1).1
  have h3 : digitsL.length = 16 := rfl
  refine ⟨by omega, ?_⟩
  unfold dg
  rw [ho, Int.toNat_natCast, h1, Option.getD_some]
theorem val_ge (c : UInt8) : -1 ≤ val c := Lib.indexByte_ge _ _
theorem hexL_length : ∀ l : List Nat, (hexL l).length = 2 * l.length
  | [] => rfl
  | b :: l => by
    have := hexL_length l
    simp only [hexL, List.length_cons]
    omega
theorem hexL_append : ∀ l m : List Nat, hexL (l ++ m) = hexL l ++ hexL m
  | [], _ => rfl
  | b :: l, m => by simp [hexL, hexL_append l m]
theorem hexL_dig : ∀ l : List Nat, (∀ x ∈ l, x < 256) → allDig (hexL l) = true
  | [], _ => rfl
  | b :: l, h => by
    have h1 := hexL_dig l fun x hx => h x (by simp [hx])
    have h2 := h b (by simp)
    unfold allDig at h1 ⊢
    simp only [hexL, List.all_cons, h1, val_dg (b / 16) (by omega), val_dg (b % 16) (by omega), Bool.and_true, Bool.and_eq_true, decide_eq_true_iff]
    omega
theorem parsed_hex : ∀ l : List Nat, (∀ x ∈ l, x < 256) → parsedL (hexL l) = l
  | [], _ => rfl
  | b :: l, h => by
    have h1 := parsed_hex l fun x hx => h x (by simp [hx])
    have h2 := h b (by simp)
    simp only [hexL, parsedL, h1, unhex, val_dg (b / 16) (by omega), val_dg (b % 16) (by omega), Int.toNat_natCast]
    congr 1
    omega
theorem unhex_lt {a b : UInt8} (ha : 0 ≤ val a) (hb : 0 ≤ val b) : unhex a b < 256 := by
  have := val_lt a ha
  have := val_lt b hb
  unfold unhex
  omega
theorem hex_parsed : ∀ (n : Nat) (s : List UInt8), s.length = 2 * n → allDig s = true → hexL (parsedL s) = s
  | 0, [], _, _ => rfl
  | n + 1, a :: b :: s, h, hd => by
    unfold allDig at hd
    simp only [List.all_cons, Bool.and_eq_true, decide_eq_true_iff] at hd
    obtain ⟨ha, hb, hs⟩ := hd
    have h1 := hex_parsed n s (by simp at h; omega) hs
    have h2 := val_lt a ha
    have h3 := val_lt b hb
    simp only [parsedL, hexL, h1]
    have e1 : unhex a b / 16 = (val a).toNat := by unfold unhex; omega
    have e2 : unhex a b % 16 = (val b).toNat := by unfold unhex; omega
    rw [e1, e2, h2.2, h3.2]
  | 0, _ :: _, h, _ => by simp at h
  | n + 1, [], h, _ => by simp at h
  | n + 1, [_], h, _ => by simp at h; omega
theorem parsedL_length : ∀ (n : Nat) (s : List UInt8), s.length = 2 * n → (parsedL s).length = n
  | 0, [], _ => rfl
  | n + 1, a :: b :: s, h => by simp [parsedL, parsedL_length n s (by simp at h; omega)]
  | 0, _ :: _, h => by simp at h
  | n + 1, [], h => by simp at h
  | n + 1, [_], h => by simp at h; omega
theorem parsedL_lt : ∀ (n : Nat) (s : List UInt8), s.length = 2 * n → allDig s = true → ∀ x ∈ parsedL s, x < 256
  | 0, [], _, _ => by simp [parsedL]
  | n + 1, a :: b :: s, h, hd => by
    unfold allDig at hd
    simp only [List.all_cons, Bool.and_eq_true, decide_eq_true_iff] at hd
    obtain ⟨ha, hb, hs⟩ := hd
    intro x hx
    simp only [parsedL, List.mem_cons] at hx
    rcases hx with rfl | hx
    · exact unhex_lt ha hb
    · exact parsedL_lt n s (by simp at h; omega) hs x hx
  | 0, _ :: _, h, _ => by simp at h
  | n + 1, [], h, _ => by simp at h
  | n + 1, [_], h, _ => by simp at h; omega
theorem parsedL_get : ∀ (n : Nat) (s : List UInt8), s.length = 2 * n → ∀ i, i < n → (parsedL s)[i]?.getD 0 = unhex (s[2 * i]?.getD 0) (s[2 * i + 1]?.getD 0)
  | 0, _, _, i, hi => by omega
  | n + 1, a :: b :: s, h, i, hi => by
    cases i with
    | zero => simp [parsedL]
    | succ i =>
      have := parsedL_get n s (by simp at h; omega) i (by omega)
      simp only [parsedL, List.getElem?_cons_succ, this, show 2 * (i + 1) = 2 * i + 1 + 1 by omega]
  | n + 1, [], h, _, _ => by simp at h
  | n + 1, [_], h, _, _ => by simp at h; omega

/-! Order. -/
def b8 (l : List Nat) : List UInt8 := l.map fun x : Nat => x.toUInt8
theorem b8_lt {x y : Nat} (hx : x < 256) (hy : y < 256) : (x.toUInt8 < y.toUInt8) ↔ x < y := by
  rw [UInt8.lt_iff_toNat_lt]
  simp [Nat.mod_eq_of_lt hx, Nat.mod_eq_of_lt hy]
theorem hex_cmp : ∀ (a b : List Nat), a.length = b.length → (∀ x ∈ a, x < 256) → (∀ x ∈ b, x < 256) → Lib.compareBytes (hexL a) (hexL b) = Lib.compareBytes (b8 a) (b8 b)
  | [], [], _, _, _ => rfl
  | x :: a, y :: b, h, ha, hb => by
    have ih := hex_cmp a b (by simpa using h) (fun z hz => ha z (by simp [hz])) (fun z hz => hb z (by simp [hz]))
    have hx := ha x (by simp)
    have hy := hb y (by simp)
    have e := ih
    unfold b8 at e ⊢
    simp only [hexL, Lib.compareBytes, List.map_cons, b8_lt hx hy, b8_lt hy hx, dg_lt (x / 16) (by omega) (y / 16) (by omega), dg_lt (y / 16) (by omega) (x / 16) (by omega),
      dg_lt (x % 16) (by omega) (y % 16) (by omega), dg_lt (y % 16) (by omega) (x % 16) (by omega), e]
    split
    · rw [if_pos (by omega)]
    · split
      · rw [if_neg (by omega), if_pos (by omega)]
      · split
        · rw [if_pos (by omega)]
        · split
          · rw [if_neg (by omega), if_pos (by omega)]
          · rw [if_neg (by omega), if_neg (by omega)]
  | [], _ :: _, h, _, _ => by simp at h
  | _ :: _, [], h, _, _ => by simp at h
theorem cmp_neg : ∀ (a b : List UInt8), Lib.compareBytes b a = -Lib.compareBytes a b
  | [], [] => rfl
  | [], _ :: _ => rfl
  | _ :: _, [] => rfl
  | x :: a, y :: b => by
    have ih := cmp_neg a b
    simp only [Lib.compareBytes]
    by_cases h1 : x < y
    · have h2 : ¬ y < x := fun h => UInt8.lt_irrefl _ (UInt8.lt_trans h1 h)
      rw [if_neg h2, if_pos h1, if_pos h1]; rfl
    · by_cases h2 : y < x
      · rw [if_pos h2, if_neg h1, if_pos h2]
      · rw [if_neg h2, if_neg h1, if_neg h1, if_neg h2, ih]
theorem cmp_less : ∀ (a b : List UInt8), Op.bytesLess a b = decide (Lib.compareBytes a b = -1)
  | [], [] => rfl
  | [], _ :: _ => rfl
  | _ :: _, [] => rfl
  | x :: a, y :: b => by
    have ih := cmp_less a b
    simp only [Lib.compareBytes, Op.bytesLess, ih]
    by_cases h1 : x < y
    · simp [h1]
    · by_cases h2 : y < x
      · have h3 : x ≠ y := fun e => UInt8.lt_irrefl _ (e ▸ h2)
        simp [h1, h2, h3]
      · have h3 : x = y := UInt8.le_antisymm (UInt8.not_lt.1 h2) (UInt8.not_lt.1 h1)
        simp [h3]
theorem cmp_zero : ∀ (a b : List UInt8), (a == b) = decide (Lib.compareBytes a b = 0)
  | [], [] => rfl
  | [], _ :: _ => rfl
  | _ :: _, [] => rfl
  | x :: a, y :: b => by
    have ih := cmp_zero a b
    simp only [Lib.compareBytes, List.cons_beq_cons, ih]
    by_cases h1 : x < y
    · have h3 : x ≠ y := fun e => UInt8.lt_irrefl _ (e ▸ h1)
      simp [h1, h3]
    · by_cases h2 : y < x
      · have h3 : x ≠ y := fun e => UInt8.lt_irrefl _ (e ▸ h2)
        simp [h1, h2, h3]
      · have h3 : x = y := UInt8.le_antisymm (UInt8.not_lt.1 h2) (UInt8.not_lt.1 h1)
        simp [h3]
theorem cmp_three : ∀ (a b : List UInt8), Lib.compareBytes a b = -1 ∨ Lib.compareBytes a b = 0 ∨ Lib.compareBytes a b = 1
  | [], [] => .inr (.inl rfl)
  | [], _ :: _ => .inl rfl
  | _ :: _, [] => .inr (.inr rfl)
  | x :: a, y :: b => by
    have ih := cmp_three a b
    simp only [Lib.compareBytes]
    split
    · exact .inl rfl
    · split
      · exact .inr (.inr rfl)
      · exact ih
end Go.Proofs.Ytlolnpilpdkbkaa

namespace Go.Proofs.Ytlolnpilpdkbkaa
open Go.RowKit

theorem ret_int {k : IntKind} {a b : Int} (h : a = b) : Ending.returned (.int k a) = .returned (.int k b) := by rw [h]
theorem ret_float {k : FloatKind} {a b : Nat} (h : a = b) : Ending.returned (.float k a) = .returned (.float k b) := by rw [h]
theorem ret_bool {a b : Bool} (h : a = b) : Ending.returned (.bool a) = .returned (.bool b) := by rw [h]

/-- From address A on, n cells hold g 0, g 1, ..; they lie below block B. Of an empty row nothing is said. -/
def Rd (w : World) (B : Nat) (A : Option Addr) (n : Nat) (g : Nat → Value) : Prop :=
  0 < n → ∃ b off, A = some ⟨b, off, none⟩ ∧ b < B ∧ ∀ j, j < n → w.cell? ⟨b, off + j, none⟩ = some (g j)

section
variable {w w' : World} {B B' n : Nat} {A : Option Addr} {g g' : Nat → Value}
theorem Rd.empty : Rd w B A 0 g := fun h => absurd h (Nat.lt_irrefl 0)
theorem Rd.keep (h : Rd w B A n g) (hk : ∀ p : Addr, p.block < B → w'.cell? p = w.cell? p) : Rd w' B A n g := fun hn => by
  obtain ⟨b, off, e, hb, hc⟩ := h hn
  exact ⟨b, off, e, hb, fun j hj => (hk ⟨b, off + j, none⟩ hb).trans (hc j hj)⟩
theorem Rd.below (h : Rd w B A n g) (hb : Below B w w') : Rd w' B A n g := h.keep fun _ hp => hb.cell hp
theorem Rd.mono (h : Rd w B A n g) (hB : B ≤ B') : Rd w B' A n g := fun hn => by
  obtain ⟨b, off, e, hb, hc⟩ := h hn
  exact ⟨b, off, e, by omega, hc⟩
theorem Rd.drew (h : Rd w B A n g) : Rd w.drew B A n g := h
theorem Rd.drewN (h : Rd w B A n g) (k : Nat) : Rd (w.drewN k) B A n g := h
theorem Rd.alloc (h : Rd w B A n g) (hB : B ≤ w.heap.size) (o : Obj) : Rd (w.alloc o) B A n g :=
  h.keep fun p hp => World.cell?_alloc_lt w o p (by omega)
theorem Rd.setCell (h : Rd w B A n g) {p : Addr} (hB : B ≤ p.block) (u : Value) : Rd (w.setCell p u) B A n g :=
  h.keep fun q hq => World.cell?_setCell_other w p q u (fun e => by subst e; omega)
theorem Rd.grown (h : Rd w B A n g) {row : Option Nat} (hg : w.grownBy w' row) (hB : B ≤ w.heap.size) (hr : ∀ k, row = some k → B ≤ k) : Rd w' B A n g :=
  h.keep fun p hp => World.cell?_of_block (hg.block p.block (by omega) (fun e => by have := hr _ e.symm; omega))
theorem Rd.congr (h : Rd w B A n g) (he : ∀ j, j < n → g j = g' j) : Rd w B A n g' := fun hn => by
  obtain ⟨b, off, e, hb, hc⟩ := h hn
  exact ⟨b, off, e, hb, fun j hj => (hc j hj).trans (by rw [he j hj])⟩
theorem Rd.take (h : Rd w B A n g) {m : Nat} (hm : m ≤ n) : Rd w B A m g := fun hn => by
  obtain ⟨b, off, e, hb, hc⟩ := h (by omega)
  exact ⟨b, off, e, hb, fun j hj => hc j (by omega)⟩
/-- s[k:]: the model keeps the old address where k is the capacity. -/
theorem Rd.cut (h : Rd w B A n g) {k cap : Nat} (hk : k ≤ n) (hc : n ≤ cap) :
    Rd w B (if cap = k then A else A.map (·.add k)) (n - k) (fun j => g (k + j)) := fun hn => by
  obtain ⟨b, off, rfl, hb, hcell⟩ := h (by omega)
  rw [if_neg (by omega)]
  exact ⟨b, off + k, by simp [Addr.add_lit], hb, fun j hj => by rw [Nat.add_assoc]; exact hcell (k + j) (by omega)⟩
theorem Rd.get (h : Rd w B A n g) {k : Nat} (hk : k < n) : ∃ b off, A = some ⟨b, off, none⟩ ∧ b < B ∧ w.cell? ⟨b, off + k, none⟩ = some (g k) := by
  obtain ⟨b, off, e, hb, hc⟩ := h (by omega)
  exact ⟨b, off, e, hb, hc k hk⟩
end

/-- A row of bytes. -/
abbrev Byt (w : World) (B : Nat) (A : Option Addr) (l : List Nat) : Prop := Rd w B A l.length (fun j => .int .u8 ((l[j]?.getD 0 : Nat) : Int))

theorem below_drewN {B : Nat} {a w : World} (h : Below B a w) (n : Nat) : Below B a (w.drewN n) := ⟨h.os, h.tape, h.output, h.size, h.block⟩

/-- A quiet call in a region that draws, behind other draws; the contract says 'w = w''. -/
theorem quiet_l {P : Program} {f : FuncId} {args : Array Value} {w : World} {n : Nat} {v : Value} (h : ∀ W : World, Calls P f args W fun e w' => e = .returned v ∧ W = w') :
    Calls P f args (w.drewN n) fun e w'' => e = .returned v ∧ ∃ m, w'' = w.drewN m :=
  (h _).mono fun _ _ ⟨he, hm⟩ => ⟨he, n, hm.symm⟩
theorem quiet_l2 {P : Program} {f : FuncId} {args : Array Value} {w : World} {a n : Nat} {v : Value} (h : ∀ W : World, Calls P f args W fun e w' => e = .returned v ∧ W = w') :
    Calls P f args (w.drewN (a + n)) fun e w'' => e = .returned v ∧ ∃ m, w'' = w.drewN (a + m) :=
  (h _).mono fun _ _ ⟨he, hm⟩ => ⟨he, n, hm.symm⟩

/-- The same of contracts of one world: with draws, without. -/
theorem quiet_d2 {P : Program} {f : FuncId} {args : Array Value} {w : World} {a n : Nat} {v : Value} (h : Calls P f args (w.drewN (a + n)) fun e w' => e = .returned v ∧ ∃ m, w' = (w.drewN (a + n)).drewN m) :
    Calls P f args (w.drewN (a + n)) fun e w'' => e = .returned v ∧ ∃ m, w'' = w.drewN (a + m) :=
  h.mono fun _ _ ⟨he, m, hm⟩ => ⟨he, n + m, by rw [hm, World.drewN_drewN, Nat.add_assoc]⟩
theorem quiet_e2 {P : Program} {f : FuncId} {args : Array Value} {w : World} {a n : Nat} {v : Value} (h : Calls P f args (w.drewN (a + n)) fun e w' => e = .returned v ∧ w.drewN (a + n) = w') :
    Calls P f args (w.drewN (a + n)) fun e w'' => e = .returned v ∧ ∃ m, w'' = w.drewN (a + m) :=
  h.mono fun _ _ ⟨he, hm⟩ => ⟨he, n, hm.symm⟩
theorem quiet_e {P : Program} {f : FuncId} {args : Array Value} {w : World} {n : Nat} {v : Value} (h : Calls P f args (w.drewN n) fun e w' => e = .returned v ∧ w.drewN n = w') :
    Calls P f args (w.drewN n) fun e w'' => e = .returned v ∧ ∃ m, w'' = w.drewN m :=
  h.mono fun _ _ ⟨he, hm⟩ => ⟨he, n, hm.symm⟩

/-- What the call owns reads as a row. -/
theorem rd_of_own {w : World} {base : Nat} {e : TypeId} {size n c : Nat} {A : Option Addr} {xs : List Value} (h : w.ownsRow base e size (.slice A n c) n xs) :
    Rd w w.heap.size A (n * size) (fun j => xs[j]?.getD undef) := fun hn => by
  rcases h.2 with ⟨_, rfl⟩ | ⟨g, cap, cur, hv, _, hg, _⟩
  · simp at hn
  · have hA : A = some ⟨g, 0, none⟩ := by injection hv
    subst hA
    refine ⟨g, 0, rfl, (Array.getElem?_eq_some_iff.1 hg).1, fun j hj => ?_⟩
    have hl : j < xs.length := by rw [h.1]; exact hj
    have := h.cells (g := g) rfl j xs[j] (List.getElem?_eq_getElem hl)
    rw [Addr.add_lit] at this
    simp only [this, List.getElem?_eq_getElem hl, Option.getD_some]
end Go.Proofs.Ytlolnpilpdkbkaa

/- Small words on memory that all walks of this seat use: what a slice's cells hold, and how such facts are kept. No program is named here. Trees of roots: plain words. No program is named here. -/
import Derived.WalkKit
import Derived.WalkLawsBesides
import Derived.Handy
import Derived.Lib.Hide
import Derived.Deep.Draws
import Derived.Deep.QuietTactic
import Derived.BigQuiet

namespace Go.Proofs.Ytakcnkmlglkkpaa
open Go.RowKit

theorem ret_int {k : IntKind} {a b : Int} (h : a = b) : Ending.returned (.int k a) = .returned (.int k b) := by rw [h]
theorem ret_float {k : FloatKind} {a b : Nat} (h : a = b) : Ending.returned (.float k a) = .returned (.float k b) := by rw [h]
theorem ret_bool {a b : Bool} (h : a = b) : Ending.returned (.bool a) = .returned (.bool b) := by rw [h]

/-- From address A on, n cells hold g 0, g 1, ..; they lie below block B. Of an empty row nothing is said. -/
def Rd (w : World) (B : Nat) (A : Option Addr) (n : Nat) (g : Nat → Value) : Prop :=
  0 < n → ∃ b off, A = some ⟨b, off, none⟩ ∧ b < B ∧ ∀ j, j < n → w.cell? ⟨b, off + j, none⟩ = some (g j)

section
variable {w w' : World} {B B' n : Nat} {A : Option Addr} {g g' : Nat → Value}
theorem Rd.empty : Rd w B A 0 g := fun h => absurd h (Nat.lt_irrefl 0)
theorem Rd.keep (h : Rd w B A n g) (hk : ∀ p : Addr, p.block < B → w'.cell? p = w.cell? p) : Rd w' B A n g := fun hn => by
  obtain ⟨b, off, e, hb, hc⟩ := h hn
  exact ⟨b, off, e, hb, fun j hj => (hk ⟨b, off + j, none⟩ hb).trans (hc j hj)⟩
theorem Rd.below (h : Rd w B A n g) (hb : Below B w w') : Rd w' B A n g := h.keep fun _ hp => hb.cell hp
theorem Rd.mono (h : Rd w B A n g) (hB : B ≤ B') : Rd w B' A n g := fun hn => by
  obtain ⟨b, off, e, hb, hc⟩ := h hn
  exact ⟨b, off, e, by omega, hc⟩
theorem Rd.drew (h : Rd w B A n g) : Rd w.drew B A n g := h
theorem Rd.drewN (h : Rd w B A n g) (k : Nat) : Rd (w.drewN k) B A n g := h
theorem Rd.alloc (h : Rd w B A n g) (hB : B ≤ w.heap.size) (o : Obj) : Rd (w.alloc o) B A n g :=
  h.keep fun p hp => World.cell?_alloc_lt w o p (by omega)
theorem Rd.setCell (h : Rd w B A n g) {p : Addr} (hB : B ≤ p.block) (u : Value) : Rd (w.setCell p u) B A n g :=
  h.keep fun q hq => World.cell?_setCell_other w p q u (fun e => by subst e; omega)
theorem Rd.grown (h : Rd w B A n g) {row : Option Nat} (hg : w.grownBy w' row) (hB : B ≤ w.heap.size) (hr : ∀ k, row = some k → B ≤ k) : Rd w' B A n g :=
  h.keep fun p hp => World.cell?_of_block (hg.block p.block (by omega) (fun e => by have := hr _ e.symm; omega))
theorem Rd.congr (h : Rd w B A n g) (he : ∀ j, j < n → g j = g' j) : Rd w B A n g' := fun hn => by
  obtain ⟨b, off, e, hb, hc⟩ := h hn
  exact ⟨b, off, e, hb, fun j hj => (hc j hj).trans (by rw [he j hj])⟩
theorem Rd.take (h : Rd w B A n g) {m : Nat} (hm : m ≤ n) : Rd w B A m g := fun hn => by
  obtain ⟨b, off, e, hb, hc⟩ := h (by omega)
  exact ⟨b, off, e, hb, fun j hj => hc j (by omega)⟩
/-- s[k:]: the model keeps the old address where k is the capacity. -/
theorem Rd.cut (h : Rd w B A n g) {k cap : Nat} (hk : k ≤ n) (hc : n ≤ cap) :
    Rd w B (if cap = k then A else A.map (·.add k)) (n - k) (fun j => g (k + j)) := fun hn => by
  obtain ⟨b, off, rfl, hb, hcell⟩ := h (by omega)
  rw [if_neg (by omega)]
  exact ⟨b, off + k, by simp [Addr.add_lit], hb, fun j hj => by rw [Nat.add_assoc]; exact hcell (k + j) (by omega)⟩
theorem Rd.get (h : Rd w B A n g) {k : Nat} (hk : k < n) : ∃ b off, A = some ⟨b, off, none⟩ ∧ b < B ∧ w.cell? ⟨b, off + k, none⟩ = some (g k) := by
  obtain ⟨b, off, e, hb, hc⟩ := h (by omega)
  exact ⟨b, off, e, hb, hc k hk⟩
end

/-- A row of bytes. -/
abbrev Byt (w : World) (B : Nat) (A : Option Addr) (l : List Nat) : Prop := Rd w B A l.length (fun j => .int .u8 ((l[j]?.getD 0 : Nat) : Int))

theorem below_drewN {B : Nat} {a w : World} (h : Below B a w) (n : Nat) : Below B a (w.drewN n) := ⟨h.os, h.tape, h.output, h.size, h.block⟩

/-- A quiet call in a region that draws, behind other draws; the contract says 'w = w''. -/
theorem quiet_l {P : Program} {f : FuncId} {args : Array Value} {w : World} {n : Nat} {v : Value} (h : ∀ W : World, Calls P f args W fun e w' => e = .returned v ∧ W = w') :
    Calls P f args (w.drewN n) fun e w'' => e = .returned v ∧ ∃ m, w'' = w.drewN m :=
  (h _).mono fun _ _ ⟨he, hm⟩ => ⟨he, n, hm.symm⟩
theorem quiet_l2 {P : Program} {f : FuncId} {args : Array Value} {w : World} {a n : Nat} {v : Value} (h : ∀ W : World, Calls P f args W fun e w' => e = .returned v ∧ W = w') :
    Calls P f args (w.drewN (a + n)) fun e w'' => e = .returned v ∧ ∃ m, w'' = w.drewN (a + m) :=
  (h _).mono fun _ _ ⟨he, hm⟩ => ⟨he, n, hm.symm⟩

/-- The same of contracts of one world: with draws, without. -/
theorem quiet_d2 {P : Program} {f : FuncId} {args : Array Value} {w : World} {a n : Nat} {v : Value} (h : Calls P f args (w.drewN (a + n)) fun e w' => e = .returned v ∧ ∃ m, w' = (w.drewN (a + n)).drewN m) :
    Calls P f args (w.drewN (a + n)) fun e w'' => e = .returned v ∧ ∃ m, w'' = w.drewN (a + m) :=
  h.mono fun _ _ ⟨he, m, hm⟩ => ⟨he, n + m, by rw [hm, World.drewN_drewN, Nat.add_assoc]⟩
theorem quiet_e2 {P : Program} {f : FuncId} {args : Array Value} {w : World} {a n : Nat} {v : Value} (h : Calls P f args (w.drewN (a + n)) fun e w' => e = .returned v ∧ w.drewN (a + n) = w') :
    Calls P f args (w.drewN (a + n)) fun e w'' => e = .returned v ∧ ∃ m, w'' = w.drewN (a + m) :=
  h.mono fun _ _ ⟨he, hm⟩ => ⟨he, n, hm.symm⟩
theorem quiet_e {P : Program} {f : FuncId} {args : Array Value} {w : World} {n : Nat} {v : Value} (h : Calls P f args (w.drewN n) fun e w' => e = .returned v ∧ w.drewN n = w') :
    Calls P f args (w.drewN n) fun e w'' => e = .returned v ∧ ∃ m, w'' = w.drewN m :=
  h.mono fun _ _ ⟨he, hm⟩ => ⟨he, n, hm.symm⟩

/-- What the call owns reads as a row. -/
theorem rd_of_own {w : World} {base : Nat} {e : TypeId} {size n c : Nat} {A : Option Addr} {xs : List Value} (h : w.ownsRow base e size (.slice A n c) n xs) :
    Rd w w.heap.size A (n * size) (fun j => xs[j]?.getD undef) := fun hn => by
  rcases h.2 with ⟨_, rfl⟩ | ⟨g, cap, cur, hv, _, hg, _⟩
  · simp at hn
  · have hA : A = some ⟨g, 0, none⟩ := by injection hv
    subst hA
    refine ⟨g, 0, rfl, (Array.getElem?_eq_some_iff.1 hg).1, fun j hj => ?_⟩
    have hl : j < xs.length := by rw [h.1]; exact hj
    have := h.cells (g := g) rfl j xs[j] (List.getElem?_eq_getElem hl)
    rw [Addr.add_lit] at this
    simp only [this, List.getElem?_eq_getElem hl, Option.getD_some]
end Go.Proofs.Ytakcnkmlglkkpaa

namespace Go.Proofs.Ytakcnkmlglkkpaa
set_option linter.unusedSimpArgs false
set_option linter.unusedVariables false

abbrev RKey := {l : List Nat // l.length = 32}
/-- A root: its name, its key. -/
abbrev RootT := ByteArray × RKey
def ltS (a b : ByteArray) : Bool := Op.bytesLess a.toList b.toList
theorem less_irrefl : ∀ x : List UInt8, Op.bytesLess x x = false
  | [] => rfl
  | a :: x => by simp [Op.bytesLess, less_irrefl x]
theorem less_trans : ∀ x y z : List UInt8, Op.bytesLess x y = true → Op.bytesLess y z = true → Op.bytesLess x z = true
  | _, [], _, h, _ => by cases ‹List UInt8› <;> simp [Op.bytesLess] at h
  | _, _ :: _, [], _, h => by simp [Op.bytesLess] at h
  | [], _ :: _, _ :: _, _, _ => rfl
  | a :: x, b :: y, c :: z, h1, h2 => by
    simp only [Op.bytesLess, Bool.or_eq_true, decide_eq_true_eq, Bool.and_eq_true, beq_iff_eq] at h1 h2 ⊢
    rcases h1 with h1 | ⟨rfl, h1⟩
    · rcases h2 with h2 | ⟨rfl, h2⟩
      · exact .inl (UInt8.lt_trans h1 h2)
      · exact .inl h1
    · rcases h2 with h2 | ⟨rfl, h2⟩
      · exact .inl h2
      · exact .inr ⟨rfl, less_trans x y z h1 h2⟩
theorem less_three : ∀ x y : List UInt8, Op.bytesLess x y = false → Op.bytesLess y x = false → x = y
  | [], [], _, _ => rfl
  | [], _ :: _, h, _ => by simp [Op.bytesLess] at h
  | _ :: _, [], _, h => by simp [Op.bytesLess] at h
  | a :: x, b :: y, h1, h2 => by
    simp only [Op.bytesLess, Bool.or_eq_false_iff, decide_eq_false_iff_not, Bool.and_eq_false_iff, beq_eq_false_iff_ne] at h1 h2
    have hab : a = b := by
      rcases Nat.lt_trichotomy a.toNat b.toNat with h | h | h
      · exact absurd (UInt8.lt_iff_toNat_lt.2 h) h1.1
      · exact UInt8.toNat_inj.1 h
      · exact absurd (UInt8.lt_iff_toNat_lt.2 h) h2.1
    subst hab
    rw [less_three x y (by simpa using h1.2) (by simpa using h2.2)]
theorem ltS_irrefl (a : ByteArray) : ltS a a = false := less_irrefl _
theorem ltS_trans {a b c : ByteArray} (h1 : ltS a b = true) (h2 : ltS b c = true) : ltS a c = true := less_trans _ _ _ h1 h2
theorem ltS_asymm {a b : ByteArray} (h : ltS a b = true) : ltS b a = false := by
  cases h2 : ltS b a with
  | false => rfl
  | true => have := ltS_trans h h2; rw [ltS_irrefl] at this; cases this
theorem ltS_three {a b : ByteArray} (h1 : ltS a b = false) (h2 : ltS b a = false) : a.toList = b.toList := less_three _ _ h1 h2
theorem ltS_left {a b c : ByteArray} (h : a.toList = b.toList) : ltS a c = ltS b c := by unfold ltS; rw [h]
theorem ltS_right {a b c : ByteArray} (h : a.toList = b.toList) : ltS c a = ltS c b := by unfold ltS; rw [h]

/-- A node and those below and above it. -/
inductive Tr where
  | nil
  | node (r : RootT) (low high : Tr)
namespace Tr
def deep : Tr → Nat
  | nil => 0
  | node _ l h => 1 + max l.deep h.deep
def cnt : Tr → Nat
  | nil => 0
  | node _ l h => 1 + l.cnt + h.cnt
/-- The roots by name. -/
def list : Tr → List RootT
  | nil => []
  | node r l h => l.list ++ r :: h.list
def low : Tr → Tr
  | nil => nil
  | node _ l _ => l
def high : Tr → Tr
  | nil => nil
  | node _ _ h => h
def even (r : RootT) (l h : Tr) : Tr :=
  if h.deep + 1 < l.deep then
    match l with
    | nil => node r l h
    | node lr ll lh => if lh.deep ≤ ll.deep then node lr ll (node r lh h) else
      match lh with
      | nil => node r l h
      | node mr ml mh => node mr (node lr ll ml) (node r mh h)
  else if l.deep + 1 < h.deep then
    match h with
    | nil => node r l h
    | node hr hl hh => if hl.deep ≤ hh.deep then node hr (node r l hl) hh else
      match hl with
      | nil => node r l h
      | node mr ml mh => node mr (node r l ml) (node hr mh hh)
  else node r l h
def with_ (r : RootT) : Tr → Tr
  | nil => node r nil nil
  | node x l h => if ltS r.1 x.1 then even x (with_ r l) h else if ltS x.1 r.1 then even x l (with_ r h) else node r l h
def least : Tr → RootT → RootT
  | nil, d => d
  | node r l _, _ => l.least r
/-- Without a name. -/
def without (s : ByteArray) : Tr → Tr
  | nil => nil
  | node x l h => if ltS s x.1 then even x (without s l) h else if ltS x.1 s then even x l (without s h) else
    match l with
    | nil => h
    | node lr ll lh => match h with
      | nil => node lr ll lh
      | node hr hl hh => even ((node hr hl hh).least x) (node lr ll lh) (without ((node hr hl hh).least x).1 (node hr hl hh))
termination_by structural t => t
/-- The node of a name. -/
def find (s : ByteArray) : Tr → Tr
  | nil => nil
  | node x l h => if x.1.toList = s.toList then node x l h else if ltS s x.1 then find s l else find s h
theorem cnt_list : ∀ t : Tr, t.list.length = t.cnt
  | nil => rfl
  | node r l h => by
    simp only [list, List.length_append, List.length_cons, cnt_list l, cnt_list h, cnt]
    omega
theorem even_list (r : RootT) (l h : Tr) : (even r l h).list = l.list ++ r :: h.list := by
  unfold even
  split
  · split
    · rfl
    · split
      · simp [list]
      · split
        · rfl
        · simp [list]
  · split
    · split
      · rfl
      · split
        · simp [list]
        · split
          · rfl
          · simp [list]
    · rfl
end Tr
/-- Rising by name. -/
def Rise : List RootT → Prop
  | [] => True
  | x :: l => (∀ y ∈ l, ltS x.1 y.1 = true) ∧ Rise l
theorem rise_app : ∀ (a b : List RootT), Rise (a ++ b) ↔ Rise a ∧ Rise b ∧ ∀ x ∈ a, ∀ y ∈ b, ltS x.1 y.1 = true
  | [], b => by simp [Rise]
  | x :: a, b => by
    simp only [List.cons_append, Rise, rise_app a b, List.mem_append, List.mem_cons]
    constructor
    · rintro ⟨h1, h2, h3, h4⟩
      exact ⟨⟨fun y hy => h1 y (.inl hy), h2⟩, h3, fun z hz y hy => by
        rcases hz with rfl | hz
        · exact h1 y (.inr hy)
        · exact h4 z hz y hy⟩
    · rintro ⟨⟨h1, h2⟩, h3, h4⟩
      exact ⟨fun y hy => by
        rcases hy with hy | hy
        · exact h1 y hy
        · exact h4 x (.inl rfl) y hy, h2, h3, fun z hz y hy => h4 z (.inr hz) y hy⟩
/-- A list with a root in it. -/
def setL (r : RootT) : List RootT → List RootT
  | [] => [r]
  | x :: l => if ltS r.1 x.1 then r :: x :: l else if ltS x.1 r.1 then x :: setL r l else r :: l
def dropL (s : ByteArray) : List RootT → List RootT
  | [] => []
  | x :: l => if ltS s x.1 then x :: l else if ltS x.1 s then x :: dropL s l else l
theorem setL_low {r x : RootT} (h : ltS r.1 x.1 = true) (b : List RootT) : ∀ a : List RootT, setL r (a ++ x :: b) = setL r a ++ x :: b
  | [] => by simp [setL, h]
  | y :: a => by
    simp only [List.cons_append, setL, setL_low h b a]
    split
    · rfl
    · split <;> rfl
theorem setL_past {r : RootT} (b : List RootT) : ∀ a : List RootT, (∀ y ∈ a, ltS y.1 r.1 = true) → setL r (a ++ b) = a ++ setL r b
  | [], _ => rfl
  | y :: a, h => by
    have hy := h y (by simp)
    simp only [List.cons_append, setL]
    rw [if_neg (by rw [ltS_asymm hy]; decide), if_pos hy, setL_past b a fun z hz => h z (by simp [hz])]
theorem dropL_low {s : ByteArray} {x : RootT} (h : ltS s x.1 = true) (b : List RootT) : ∀ a : List RootT, dropL s (a ++ x :: b) = dropL s a ++ x :: b
  | [] => by simp [dropL, h]
  | y :: a => by
    simp only [List.cons_append, dropL, dropL_low h b a]
    split
    · rfl
    · split <;> rfl
theorem dropL_past {s : ByteArray} (b : List RootT) : ∀ a : List RootT, (∀ y ∈ a, ltS y.1 s = true) → dropL s (a ++ b) = a ++ dropL s b
  | [], _ => rfl
  | y :: a, h => by
    have hy := h y (by simp)
    simp only [List.cons_append, dropL]
    rw [if_neg (by rw [ltS_asymm hy]; decide), if_pos hy, dropL_past b a fun z hz => h z (by simp [hz])]
theorem with_list (r : RootT) : ∀ t : Tr, Rise t.list → (t.with_ r).list = setL r t.list
  | .nil, _ => rfl
  | .node x l h, hr => by
    simp only [Tr.list] at hr
    rw [rise_app] at hr
    obtain ⟨h1, ⟨h2, h3⟩, h4⟩ := hr
    simp only [Tr.with_]
    split
    · rename_i hl
      rw [Tr.even_list, with_list r l h1]
      simp only [Tr.list]
      rw [setL_low hl]
    · split
      · rename_i hn hl
        rw [Tr.even_list, with_list r h h3]
        simp only [Tr.list]
        rw [setL_past _ l.list fun y hy => ltS_trans (h4 y hy x (by simp)) hl]
        simp only [setL]
        rw [if_neg hn, if_pos hl]
      · rename_i hn hl
        have he := ltS_three (by simpa using hn) (by simpa using hl)
        simp only [Tr.list]
        rw [setL_past _ l.list fun y hy => by rw [ltS_right he]; exact h4 y hy x (by simp)]
        simp only [setL]
        rw [if_neg hn, if_neg hl]
theorem least_list : ∀ (t : Tr) (x y : RootT) (l h : Tr), t = .node y l h → ∃ m, t.list = t.least x :: m
  | .node r .nil h, x, y, l, _, he => ⟨h.list, rfl⟩
  | .node r (.node a b c) h, x, y, l, _, he => by
    obtain ⟨m, hm⟩ := least_list (.node a b c) r a b c rfl
    refine ⟨m ++ r :: h.list, ?_⟩
    have : (Tr.node r (.node a b c) h).list = (Tr.node a b c).list ++ r :: h.list := rfl
    rw [this, hm]
    rfl
theorem dropL_head {x : RootT} {l : List RootT} : dropL x.1 (x :: l) = l := by
  simp [dropL, ltS_irrefl]
theorem without_list : ∀ (t : Tr) (s : ByteArray), Rise t.list → (t.without s).list = dropL s t.list
  | .nil, s, _ => rfl
  | .node x l h, s, hr => by
    have hr0 := hr
    simp only [Tr.list] at hr
    rw [rise_app] at hr
    obtain ⟨h1, ⟨h2, h3⟩, h4⟩ := hr
    unfold Tr.without
    split
    · rename_i hl
      rw [Tr.even_list, without_list l s h1]
      simp only [Tr.list]
      rw [dropL_low hl]
    · split
      · rename_i hn hl
        rw [Tr.even_list, without_list h s h3]
        simp only [Tr.list]
        rw [dropL_past _ l.list fun y hy => ltS_trans (h4 y hy x (by simp)) hl]
        simp only [dropL]
        rw [if_neg hn, if_pos hl]
      · rename_i hn hl
        have he := ltS_three (by simpa using hn) (by simpa using hl)
        have hd : dropL s (Tr.node x l h).list = l.list ++ h.list := by
          simp only [Tr.list]
          rw [dropL_past _ l.list fun y hy => by rw [ltS_right he]; exact h4 y hy x (by simp)]
          simp only [dropL]
          rw [if_neg hn, if_neg hl]
        rw [hd]
        cases l with
        | nil => rfl
        | node lr ll lh =>
          cases h with
          | nil => simp [Tr.list]
          | node hr' hl' hh =>
            simp only
            rw [Tr.even_list, without_list (.node hr' hl' hh) _ h3]
            obtain ⟨m, hm⟩ := least_list (.node hr' hl' hh) x hr' hl' hh rfl
            rw [hm, dropL_head]
/-- Does a name stand in a list? -/
def hasL (s : ByteArray) (l : List RootT) : Prop := ∃ r ∈ l, r.1.toList = s.toList
theorem name_less {a b : ByteArray} (h : a.toList = b.toList) : ltS a b = false := by rw [ltS_left h, ltS_irrefl]
theorem find_list : ∀ (t : Tr) (s : ByteArray), Rise t.list → (t.find s = .nil ∧ ¬ hasL s t.list) ∨ ∃ x l h, t.find s = .node x l h ∧ x ∈ t.list ∧ x.1.toList = s.toList
  | .nil, s, _ => .inl ⟨rfl, fun ⟨r, h, _⟩ => by cases h⟩
  | .node x l h, s, hr => by
    simp only [Tr.list] at hr
    rw [rise_app] at hr
    obtain ⟨h1, ⟨h2, h3⟩, h4⟩ := hr
    unfold Tr.find
    split
    · rename_i he
      exact .inr ⟨x, l, h, rfl, by simp [Tr.list], he⟩
    · rename_i he
      split
      · rename_i hl
        rcases find_list l s h1 with ⟨e, hn⟩ | ⟨y, a, b, e, hy, hq⟩
        · refine .inl ⟨e, ?_⟩
          rintro ⟨z, hz, hq⟩
          simp only [Tr.list, List.mem_append, List.mem_cons] at hz
          rcases hz with hz | rfl | hz
          · exact hn ⟨z, hz, hq⟩
          · exact he hq
          · have := ltS_trans hl (h2 z hz)
            rw [name_less hq.symm] at this
            cases this
        · exact .inr ⟨y, a, b, e, by simp [Tr.list, hy], hq⟩
      · rename_i hl
        rcases find_list h s h3 with ⟨e, hn⟩ | ⟨y, a, b, e, hy, hq⟩
        · refine .inl ⟨e, ?_⟩
          rintro ⟨z, hz, hq⟩
          simp only [Tr.list, List.mem_append, List.mem_cons] at hz
          rcases hz with hz | rfl | hz
          · have h5 := h4 z hz x (by simp)
            rw [ltS_left hq] at h5
            exact hl h5
          · exact he hq
          · exact hn ⟨z, hz, hq⟩
        · exact .inr ⟨y, a, b, e, by simp [Tr.list, hy], hq⟩
end Go.Proofs.Ytakcnkmlglkkpaa

/- A Cutter in memory: what it holds, what a call may write, what stands; bytes.Clone. -/
import Derived.Test.YtnjbpacnmiimlaaDoorGearQ
import Derived.Test.YtnjbpacnmiimlaaDoorGearL
import Derived.Test.YtnjbpacnmiimlaaDoorParts
import Derived.Test.YtnjbpacnmiimlaaDoorGearN
namespace Go.Proofs.YtnjbpacnmiimlaaDoor
open Go.RowKit

/-- Of what was there, only blocks of which D speaks may have changed. -/
structure Fr (D : Nat → Prop) (w w' : World) : Prop where
  os : w'.os = w.os
  tape : w'.tape = w.tape
  output : w'.output = w.output
  size : w.heap.size ≤ w'.heap.size
  block : ∀ k, k < w.heap.size → ¬ D k → w'.heap[k]? = w.heap[k]?
section
variable {D D' : Nat → Prop} {w w' w'' : World}
theorem Fr.refl (D : Nat → Prop) (w : World) : Fr D w w := ⟨rfl, rfl, rfl, Nat.le_refl _, fun _ _ _ => rfl⟩
theorem Fr.trans (h : Fr D w w') (h' : Fr D' w' w'') (hd : ∀ k, k < w.heap.size → D' k → D k) : Fr D w w'' :=
  ⟨h'.os.trans h.os, h'.tape.trans h.tape, h'.output.trans h.output, Nat.le_trans h.size h'.size, fun k hk hg => (h'.block k (Nat.lt_of_lt_of_le hk h.size) (fun e => hg (hd k hk e))).trans (h.block k hk hg)⟩
theorem Fr.mono (h : Fr D w w') (hd : ∀ k, k < w.heap.size → D k → D' k) : Fr D' w w' := ⟨h.os, h.tape, h.output, h.size, fun k hk hg => h.block k hk (fun e => hg (hd k hk e))⟩
theorem Fr.of_below (D : Nat → Prop) (h : Below w.heap.size w w') : Fr D w w' := ⟨h.os, h.tape, h.output, h.size, fun k hk _ => h.block k hk⟩
theorem Fr.of_grown {row : Option Nat} (h : w.grownBy w' row) : Fr (fun k => row = some k) w w' := ⟨h.os, h.tape, h.output, h.size, fun k hk hg => h.block k hk (fun e => hg e.symm)⟩
theorem Fr.below {B : Nat} (h : Fr D w w') (hB : B ≤ w.heap.size) (hD : ∀ k, k < B → ¬ D k) : Below B w w' := ⟨h.os, h.tape, h.output, h.size, fun k hk => h.block k (by omega) (hD k hk)⟩
theorem Fr.setCell (w : World) (p : Addr) (v : Value) : Fr (fun k => k = p.block) w (w.setCell p v) := ⟨rfl, rfl, rfl, by simp [World.setCell], fun k _ hg => Below.heap_setCell _ _ _ _ hg⟩
theorem Fr.drewN (h : Fr D w w') (n : Nat) : Fr D w (w'.drewN n) := ⟨h.os, h.tape, h.output, h.size, h.block⟩
theorem Rd.fr {B n : Nat} {A : Option Addr} {g : Nat → Value} (h : Rd w B A n g) (hf : Fr D w w') (hA : ∀ k, blockOf A = some k → ¬ D k) : Rd w' B A n g := fun hn => by
  obtain ⟨b, off, rfl, hb, hc⟩ := h hn
  exact ⟨b, off, rfl, hb, fun j hj => (World.cell?_of_block (hf.block b (World.block_lt_of_cell? _ _ (hc j hj)) (hA b rfl))).trans (hc j hj)⟩
theorem Own.fr {B e size n c : Nat} {A : Option Addr} {xs : List Value} (h : Own w B e size A n c xs) (hf : Fr D w w') (hA : ∀ k, blockOf A = some k → ¬ D k) : Own w' B e size A n c xs := by
  refine ⟨h.1, ?_⟩
  rcases h.2 with h0 | ⟨g, cap, cur, hv, hg, hh, rest⟩
  · exact .inl h0
  · have hA' : A = some ⟨g, 0, none⟩ := by injection hv
    exact .inr ⟨g, cap, cur, hv, hg, (hf.block g (lt_of_block hh) (hA g (by rw [hA']; rfl))).trans hh, rest⟩
theorem Tst.fr {S : Nat} {a m x : Int} {n h : Nat} (t : Tst w S a m x n h) (hf : Fr D w w') (hS : ∀ k, S ≤ k → k < S + 4 → ¬ D k) : Tst w' S a m x n h :=
  t.keep fun k h1 h2 => hf.block k (by have := t.lt; omega) (hS k h1 h2)
theorem fr_tst (w : World) (S n' h' q : Nat) : Fr (fun k => k = S + 2 ∨ k = S + 3) w (tstW w S n' h' q) :=
  ⟨rfl, rfl, rfl, by simp [tstW, World.setCell], fun k _ hg => tstW_block w S n' h' q k (fun e => hg (.inl e)) (fun e => hg (.inr e))⟩
end

/-- The blocks that are a Cutter's own: it, what it holds, its test. -/
def Dirty (bc : Nat) (A : Option Addr) (S : Nat) (k : Nat) : Prop := k = bc ∨ blockOf A = some k ∨ (S ≤ k ∧ k < S + 4)
def cutV (a m x : Int) (A : Option Addr) (n c S : Nat) (e : Bool) : Array Value := #[.int .i64 a, .int .i64 m, .int .i64 x, .slice A n c, tstV S, .bool e]
/-- A Cutter that takes bytes. -/
structure Cutr (w : World) (B bc : Nat) (a m x : Int) (A : Option Addr) (n c : Nat) (held : List Nat) (S : Nat) : Prop where
  ok : okRule a m x
  cell : w.heap[bc]? = some (.cells (cutV a m x A n c S false) 76 (0, 0))
  own : Own w B 5 1 A n c (u8s held)
  tst : Tst w S a m x n (Gear.rolls held)
  scan : (Gear.scan a m x 0 0 held).2 = false
  hA : blockOf A ≠ some bc
  hS : bc < S ∨ S + 4 ≤ bc
  hAS : ∀ k, blockOf A = some k → k < S ∨ S + 4 ≤ k
  bB : B ≤ bc
  bS : B ≤ S
section
variable {w w' : World} {B bc : Nat} {a m x : Int} {A : Option Addr} {n c : Nat} {held : List Nat} {S : Nat} {D : Nat → Prop}
theorem Cutr.cells (h : Cutr w B bc a m x A n c held S) : w.cell? ⟨bc, 0, none⟩ = some (.int .i64 a) ∧ w.cell? ⟨bc, 1, none⟩ = some (.int .i64 m) ∧ w.cell? ⟨bc, 2, none⟩ = some (.int .i64 x) ∧ w.cell? ⟨bc, 3, none⟩ = some (.slice A n c) ∧ w.cell? ⟨bc, 4, none⟩ = some (tstV S) ∧ w.cell? ⟨bc, 5, none⟩ = some (.bool false) :=
  ⟨cell_of_row _ bc 0 _ _ _ h.cell, cell_of_row _ bc 1 _ _ _ h.cell, cell_of_row _ bc 2 _ _ _ h.cell, cell_of_row _ bc 3 _ _ _ h.cell, cell_of_row _ bc 4 _ _ _ h.cell, cell_of_row _ bc 5 _ _ _ h.cell⟩
theorem Cutr.len (h : Cutr w B bc a m x A n c held S) : held.length = n := by have := h.own.len; rw [u8s_length] at this; omega
theorem Cutr.lt (h : Cutr w B bc a m x A n c held S) : ∀ k, Dirty bc A S k → B ≤ k ∧ k < w.heap.size := fun k hk => by
  have h1 := lt_of_block h.cell
  have h2 := h.tst.lt
  have h3 := h.bB
  have h4 := h.bS
  rcases hk with rfl | hk | hk
  · exact ⟨by omega, by omega⟩
  · exact h.own.lt k hk
  · exact ⟨by omega, by omega⟩
theorem Cutr.fr (h : Cutr w B bc a m x A n c held S) (hf : Fr D w w') (hD : ∀ k, Dirty bc A S k → ¬ D k) : Cutr w' B bc a m x A n c held S :=
  ⟨h.ok, (hf.block bc (lt_of_block h.cell) (hD bc (.inl rfl))).trans h.cell, h.own.fr hf (fun k hk => hD k (.inr (.inl hk))), h.tst.fr hf (fun k h1 h2 => hD k (.inr (.inr ⟨h1, h2⟩))), h.scan, h.hA, h.hS, h.hAS, h.bB, h.bS⟩
theorem Cutr.below (h : Cutr w B bc a m x A n c held S) (hb : Below w.heap.size w w') : Cutr w' B bc a m x A n c held S := h.fr (Fr.of_below (fun _ => False) hb) (fun _ _ h => h)
end

theorem eql_nil (w : World) (A : Option Addr) (n c : Nat) : (binOp .eql 24 (.slice A n c) (.slice none 0 0)).run Tryd.prog w = .ok (.bool A.isNone) w := by
  simp [binOp, run_equal_slice_nil w _ _ A n c Tryd.underlying24]

set_option maxRecDepth 20000 in
/-- bytes.Clone. -/
theorem clone_any (l : List Nat) (A : Option Addr) (n c B : Nat) (w : World) (hn : l.length = n) (hm : n ≤ 70368744177664) (h : Byt w B A l) :
    Calls Tryd.prog 34 #[.slice A n c] w fun e w' => (∃ A' c', e = .returned (.slice A' n c') ∧ Own w' w.heap.size 5 1 A' n c' (u8s l)) ∧ Below w.heap.size w w' := by
  have hn' := Lib.hid hn
  have h' := Lib.hid h
  clear h hn
  cases A with
  | none =>
    have h0 : n = 0 := by
      rcases Nat.eq_zero_or_pos n with h0 | h0
      · exact h0
      · obtain ⟨_, _, e, _⟩ := h'.out (by rw [hn'.out]; exact h0)
        cases e
    subst h0
    have hl : l = [] := List.length_eq_zero_iff.1 hn'.out
    subst hl
    have e0 := fun w => eql_nil w none 0 c
    go_enter Tryd.func34, Tryd.ntmps34
    go_wp2_with fail
    go_ret
    exact ⟨⟨none, 0, rfl, ownB_nil _ _ _⟩, Below.refl _ _⟩
  | some ad =>
    have o0 : Own (w.alloc (.cells #[] 5)) w.heap.size 5 1 (some ⟨w.heap.size, 0, none⟩) 0 0 (u8s []) := Own.lit w w.heap.size 5 1 0 #[] rfl (by unfold maxLen; omega) (Nat.le_refl _)
    have hB0 : Below w.heap.size w (w.alloc (.cells #[] 5)) := (Below.refl _ w).alloc (Nat.le_refl _) _
    have hr0 : Byt (w.alloc (.cells #[] 5)) w.heap.size (some ad) l := fun hpos => by
      obtain ⟨b, off, e, _, hc⟩ := h'.out hpos
      have hbs := World.block_lt_of_cell? _ _ (hc 0 hpos)
      exact ⟨b, off, e, hbs, fun j hj => (World.cell?_alloc_lt w _ ⟨b, off + j, none⟩ hbs).trans (hc j hj)⟩
    have hr0' := Lib.hid hr0
    have e0 := fun w => eql_nil w (some ad) n c
    clear h' hr0
    go_enter Tryd.func34, Tryd.ntmps34
    go_wp2_with (at_builtin; refine wpList_appB elB _ rfl _ _ rfl rfl o0 rfl hn'.out hr0'.out (by omega) hB0.size n (by omega) ?_; intro A5 c5 w5 o5 _ hb5)
    rw [List.nil_append] at o5
    go_wp2_with fail
    go_ret
    exact ⟨⟨A5, c5, rfl, o5⟩, hB0.trans hb5⟩
theorem elS : ElemOk Tryd.prog 45 24 (.slice none 0 0) 1 24 := ⟨Tryd.underlying45, by kernel_rfl, rfl, by decide⟩
end Go.Proofs.YtnjbpacnmiimlaaDoor

/- What stands while a Cutter's Write goes on. No program is named here. -/
import Derived.Test.YtnjbpacnmiimlaaDoorGearNew
namespace Go.Proofs.YtnjbpacnmiimlaaDoor
open Go.RowKit

/-- A Cutter, its test behind tn bytes. -/
structure CutX (w : World) (B bc : Nat) (a m x : Int) (A : Option Addr) (n c : Nat) (held : List Nat) (S tn th : Nat) : Prop where
  ok : okRule a m x
  cell : w.heap[bc]? = some (.cells (cutV a m x A n c S false) 76 (0, 0))
  own : Own w B 5 1 A n c (u8s held)
  tst : Tst w S a m x tn th
  hA : blockOf A ≠ some bc
  hS : bc < S ∨ S + 4 ≤ bc
  hAS : ∀ k, blockOf A = some k → k < S ∨ S + 4 ≤ k
  bB : B ≤ bc
  bS : B ≤ S
section
variable {w w' : World} {B bc : Nat} {a m x : Int} {A : Option Addr} {n c : Nat} {held : List Nat} {S tn th : Nat} {D : Nat → Prop}
theorem Cutr.toX (h : Cutr w B bc a m x A n c held S) : CutX w B bc a m x A n c held S n (Gear.rolls held) := ⟨h.ok, h.cell, h.own, h.tst, h.hA, h.hS, h.hAS, h.bB, h.bS⟩
theorem CutX.toCutr (h : CutX w B bc a m x A n c held S n (Gear.rolls held)) (hs : (Gear.scan a m x 0 0 held).2 = false) : Cutr w B bc a m x A n c held S := ⟨h.ok, h.cell, h.own, h.tst, hs, h.hA, h.hS, h.hAS, h.bB, h.bS⟩
theorem CutX.cells (h : CutX w B bc a m x A n c held S tn th) : w.cell? ⟨bc, 0, none⟩ = some (.int .i64 a) ∧ w.cell? ⟨bc, 1, none⟩ = some (.int .i64 m) ∧ w.cell? ⟨bc, 2, none⟩ = some (.int .i64 x) ∧ w.cell? ⟨bc, 3, none⟩ = some (.slice A n c) ∧ w.cell? ⟨bc, 4, none⟩ = some (tstV S) ∧ w.cell? ⟨bc, 5, none⟩ = some (.bool false) :=
  ⟨cell_of_row _ bc 0 _ _ _ h.cell, cell_of_row _ bc 1 _ _ _ h.cell, cell_of_row _ bc 2 _ _ _ h.cell, cell_of_row _ bc 3 _ _ _ h.cell, cell_of_row _ bc 4 _ _ _ h.cell, cell_of_row _ bc 5 _ _ _ h.cell⟩
theorem CutX.free (h : CutX w B bc a m x A n c held S tn th) (j : Nat) : w.frozen? ⟨bc, j, none⟩ = false := by
  unfold World.frozen?
  rw [show w.heap[(⟨bc, j, none⟩ : Addr).block]? = _ from h.cell]
  simp
theorem CutX.lt (h : CutX w B bc a m x A n c held S tn th) : ∀ k, Dirty bc A S k → B ≤ k ∧ k < w.heap.size := fun k hk => by
  have h1 := lt_of_block h.cell
  have h2 := h.tst.lt
  have h3 := h.bB
  have h4 := h.bS
  rcases hk with rfl | hk | hk
  · exact ⟨by omega, by omega⟩
  · exact h.own.lt k hk
  · exact ⟨by omega, by omega⟩
theorem CutX.fr (h : CutX w B bc a m x A n c held S tn th) (hf : Fr D w w') (hD : ∀ k, Dirty bc A S k → ¬ D k) : CutX w' B bc a m x A n c held S tn th :=
  ⟨h.ok, (hf.block bc (lt_of_block h.cell) (hD bc (.inl rfl))).trans h.cell, h.own.fr hf (fun k hk => hD k (.inr (.inl hk))), h.tst.fr hf (fun k h1 h2 => hD k (.inr (.inr ⟨h1, h2⟩))), h.hA, h.hS, h.hAS, h.bB, h.bS⟩
theorem CutX.len (h : CutX w B bc a m x A n c held S tn th) : held.length = n := by have := h.own.len; rw [u8s_length] at this; omega
end

/-- While Write goes on: the Cutter, the pieces that are whole so far, what stands of the world before. -/
structure WSt (w0 : World) (B : Nat) (D0 : Nat → Prop) (bc : Nat) (a m x : Int) (w : World) (A : Option Addr) (n c : Nat) (held : List Nat) (S tn th : Nat) (Ao : Option Addr) (co : Nat) (zs : List Pt) : Prop where
  cu : CutX w B bc a m x A n c held S tn th
  out : Own w w0.heap.size 24 1 Ao zs.length co (zs.map Pt.v)
  outD : ∀ k, blockOf Ao = some k → ¬ Dirty bc A S k
  pcs : ∀ z ∈ zs, Byt w w.heap.size z.A z.l ∧ ∀ k, blockOf z.A = some k → w0.heap.size ≤ k ∧ k < w.heap.size ∧ ¬ Dirty bc A S k ∧ blockOf Ao ≠ some k
  fr : Fr D0 w0 w
  dirt : ∀ k, k < w0.heap.size → Dirty bc A S k → D0 k

section
variable {w0 : World} {B : Nat} {D0 D1 : Nat → Prop} {bc : Nat} {a m x : Int} {w w' : World} {A A' : Option Addr} {n n' c c' : Nat} {held held' : List Nat} {S S' tn th tn' th' : Nat} {Ao Ao' : Option Addr} {co co' : Nat} {zs : List Pt}
theorem WSt.size (h : WSt w0 B D0 bc a m x w A n c held S tn th Ao co zs) : w0.heap.size ≤ w.heap.size := h.fr.size
/-- A step that writes the Cutter's own blocks alone. -/
theorem WSt.move (h : WSt w0 B D0 bc a m x w A n c held S tn th Ao co zs) (hf : Fr D1 w w') (h1 : ∀ k, k < w.heap.size → D1 k → Dirty bc A S k) (cu' : CutX w' B bc a m x A' n' c' held' S' tn' th') (h2 : ∀ k, k < w.heap.size → Dirty bc A' S' k → Dirty bc A S k) :
    WSt w0 B D0 bc a m x w' A' n' c' held' S' tn' th' Ao co zs := by
  have lo : ∀ k, blockOf Ao = some k → k < w.heap.size := fun k hk => (h.out.lt k hk).2
  refine ⟨cu', h.out.fr hf (fun k hk e => h.outD k hk (h1 k (lo k hk) e)), fun k hk e => h.outD k hk (h2 k (lo k hk) e), fun z hz => ?_, h.fr.trans hf (fun k hk e => h.dirt k hk (h1 k (Nat.lt_of_lt_of_le hk h.size) e)), fun k hk e => h.dirt k hk (h2 k (Nat.lt_of_lt_of_le hk h.size) e)⟩
  obtain ⟨p1, p2⟩ := h.pcs z hz
  refine ⟨(p1.fr hf (fun k hk e => (p2 k hk).2.2.1 (h1 k (p2 k hk).2.1 e))).mono hf.size, fun k hk => ?_⟩
  obtain ⟨q1, q2, q3, q4⟩ := p2 k hk
  exact ⟨q1, Nat.lt_of_lt_of_le q2 hf.size, fun e => q3 (h2 k q2 e), q4⟩
theorem WSt.below (h : WSt w0 B D0 bc a m x w A n c held S tn th Ao co zs) (hb : Below w.heap.size w w') : WSt w0 B D0 bc a m x w' A n c held S tn th Ao co zs :=
  h.move (Fr.of_below (fun _ => False) hb) (fun _ _ e => e.elim) (h.cu.fr (Fr.of_below (fun _ => False) hb) (fun _ _ e => e)) (fun _ _ e => e)
theorem AppAt.newDirty (hat : AppAt w w' A A') (k : Nat) (hk : k < w.heap.size) (h : Dirty bc A' S k) : Dirty bc A S k := by
  rcases h with h | h | h
  · exact .inl h
  · rcases hat with ⟨h3, _⟩ | ⟨k', h3, h4, _⟩
    · exact .inr (.inl (h3 ▸ h))
    · rw [h] at h3
      cases h3
      omega
  · exact .inr (.inr h)
theorem AppAt.place (hat : AppAt w w' A A') (P : Nat → Prop) (h : ∀ k, blockOf A = some k → P k) (hn : ∀ k, w.heap.size ≤ k → P k) : ∀ k, blockOf A' = some k → P k := fun k hk => by
  rcases hat with ⟨h3, _⟩ | ⟨k', h3, h4, _⟩
  · exact h k (h3 ▸ hk)
  · rw [hk] at h3
    cases h3
    exact hn k h4
/-- One byte more is held, and the field says so. -/
theorem WSt.app (h : WSt w0 B D0 bc a m x w A n c held S tn th Ao co zs) {b : Nat} (ho : Own w' B 5 1 A' (n + 1) c' (u8s (held ++ [b]))) (hat : AppAt w w' A A') :
    WSt w0 B D0 bc a m x (w'.setCell ⟨bc, 3, none⟩ (.slice A' (n + 1) c')) A' (n + 1) c' (held ++ [b]) S tn th Ao co zs := by
  have hbc := lt_of_block h.cu.cell
  have htl := h.cu.tst.lt
  have f1 : Fr (fun k => blockOf A = some k) w w' := Fr.of_grown hat.grown
  have f2 := Fr.setCell w' ⟨bc, 3, none⟩ (.slice A' (n + 1) c')
  have f3 : Fr (fun k => blockOf A = some k ∨ k = bc) w (w'.setCell ⟨bc, 3, none⟩ (.slice A' (n + 1) c')) := (f1.mono (fun k _ e => .inl e)).trans f2 (fun k _ e => .inr e)
  have hA' : blockOf A' ≠ some bc := hat.off hbc h.cu.hA
  have hAS' := hat.place (fun k => k < S ∨ S + 4 ≤ k) h.cu.hAS (fun k hk => .inr (by omega))
  refine h.move f3 (fun k _ e => by rcases e with e | e; exact .inr (.inl e); exact .inl e) ⟨h.cu.ok, ?_, ?_, ?_, hA', h.cu.hS, hAS', h.cu.bB, h.cu.bS⟩ (fun k hk e => hat.newDirty k hk e)
  · have hc := (f1.block bc hbc h.cu.hA).trans h.cu.cell
    exact heap_setCell_same w' bc 3 _ _ _ hc
  · exact ho.fr f2 (fun k hk e => hA' (by rw [hk, e]))
  · refine h.cu.tst.fr f3 (fun k h1 h2 e => ?_)
    rcases e with e | e
    · have := h.cu.hAS k e
      omega
    · have := h.cu.hS
      omega
/-- The test takes the byte. -/
theorem WSt.tick (h : WSt w0 B D0 bc a m x w A n c held S tn th Ao co zs) (tn' th' q : Nat) : WSt w0 B D0 bc a m x (tstW w S tn' th' q) A n c held S tn' th' Ao co zs := by
  have hf := fr_tst w S tn' th' q
  have hS := h.cu.hS
  refine h.move hf (fun k _ e => .inr (.inr (by omega))) ⟨h.cu.ok, (hf.block bc (lt_of_block h.cu.cell) (by omega)).trans h.cu.cell, h.cu.own.fr hf (fun k hk e => by have := h.cu.hAS k hk; omega), h.cu.tst.step tn' th' q, h.cu.hA, hS, h.cu.hAS, h.cu.bB, h.cu.bS⟩ (fun _ _ e => e)
/-- A piece more. -/
theorem WSt.piece (h : WSt w0 B D0 bc a m x w A n c held S tn th Ao co zs) {w1 : World} {Ap : Option Addr} {cp : Nat} {l : List Nat} (hb : Below w.heap.size w w1) (hp : Own w1 w.heap.size 5 1 Ap l.length cp (u8s l)) (ho : Own w' w0.heap.size 24 1 Ao' (zs.length + 1) co' (zs.map Pt.v ++ [.slice Ap l.length cp])) (hat : AppAt w1 w' Ao Ao') :
    WSt w0 B D0 bc a m x w' A n c held S tn th Ao' co' (zs ++ [⟨Ap, l, cp⟩]) := by
  have h1 := h.below hb
  have f1 : Fr (fun k => blockOf Ao = some k) w1 w' := Fr.of_grown hat.grown
  have hl := h1.cu.lt
  have lo : ∀ k, blockOf Ao = some k → k < w.heap.size := fun k hk => (h.out.lt k hk).2
  have hpne : ∀ k, blockOf Ap = some k → blockOf Ao ≠ some k := fun k hk e => by
    have := (hp.lt k hk).1
    have := lo k e
    omega
  refine ⟨h1.cu.fr f1 (fun k hk e => h1.outD k e hk), by rw [List.map_append, List.length_append]; exact ho, hat.place (fun k => ¬ Dirty bc A S k) h1.outD (fun k hk e => by have := (hl k e).2; omega), fun z hz => ?_, h1.fr.trans f1 (fun k hk e => by have := (h1.out.lt k e).1; omega), h1.dirt⟩
  rcases List.mem_append.1 hz with hz | hz
  · obtain ⟨p1, p2⟩ := h1.pcs z hz
    refine ⟨(p1.fr f1 (fun k hk e => (p2 k hk).2.2.2 e)).mono f1.size, fun k hk => ?_⟩
    obtain ⟨q1, q2, q3, q4⟩ := p2 k hk
    exact ⟨q1, Nat.lt_of_lt_of_le q2 f1.size, q3, hat.off q2 q4⟩
  · obtain rfl := List.mem_singleton.1 hz
    refine ⟨(hp.byt.fr f1 (fun k hk e => hpne k hk e)).mono f1.size, fun k hk => ?_⟩
    have q := hp.lt k hk
    have hs := h.size
    refine ⟨by omega, Nat.lt_of_lt_of_le q.2 f1.size, fun e => ?_, hat.off q.2 (hpne k hk)⟩
    have := (h.cu.lt k e).2
    omega
theorem Own.none0 {w : World} {B e n c : Nat} {A : Option Addr} {xs : List Value} (h : Own w B e 1 A n c xs) : Own w B e 1 A 0 c (u8s []) := by
  refine ⟨rfl, ?_⟩
  rcases h.2 with ⟨hv, _⟩ | ⟨g, cap, cur, hv, hg, hh, _, hcm, hcs, _⟩
  · injection hv with h1 h2 h3
    subst h1 h3
    exact .inl ⟨rfl, rfl⟩
  · injection hv with h1 h2 h3
    subst h1 h3
    exact .inr ⟨g, _, cur, rfl, hg, hh, Nat.zero_le _, hcm, hcs, by simp [u8s]⟩
/-- A new piece begins: nothing is held, a new test. -/
theorem WSt.reset (h : WSt w0 B D0 bc a m x w A n c held S tn th Ao co zs) {w1 : World} (hb : Below w.heap.size w w1) (ht : Tst w1 w.heap.size a m x 0 0) :
    WSt w0 B D0 bc a m x ((w1.setCell ⟨bc, 3, none⟩ (.slice A 0 c)).setCell ⟨bc, 4, none⟩ (tstV w.heap.size)) A 0 c [] w.heap.size 0 0 Ao co zs := by
  have h1 := h.below hb
  have hbc := lt_of_block h.cu.cell
  have hB := h.cu.bB
  have f2 := Fr.setCell w1 ⟨bc, 3, none⟩ (.slice A 0 c)
  have f3 := Fr.setCell (w1.setCell ⟨bc, 3, none⟩ (.slice A 0 c)) ⟨bc, 4, none⟩ (tstV w.heap.size)
  have f4 : Fr (fun k => k = bc) w1 ((w1.setCell ⟨bc, 3, none⟩ (.slice A 0 c)).setCell ⟨bc, 4, none⟩ (tstV w.heap.size)) := f2.trans f3 (fun k _ e => e)
  have f5 : Fr (fun k => k = bc) w ((w1.setCell ⟨bc, 3, none⟩ (.slice A 0 c)).setCell ⟨bc, 4, none⟩ (tstV w.heap.size)) := (Fr.of_below (fun k => k = bc) hb).trans f4 (fun k _ e => e)
  refine h.move f5 (fun k _ e => .inl e) ⟨h.cu.ok, ?_, ?_, ?_, h.cu.hA, .inl hbc, (fun k hk => .inl (h.cu.own.lt k hk).2), hB, by omega⟩ (fun k hk e => ?_)
  · have c1 := heap_setCell_same w1 bc 3 _ _ (.slice A 0 c) h1.cu.cell
    exact heap_setCell_same _ bc 4 _ _ (tstV w.heap.size) c1
  · exact h1.cu.own.none0.fr f4 (fun k hk e => h.cu.hA (by rw [hk, e]))
  · exact ht.fr f4 (fun k h2 h3 e => by omega)
  · rcases e with e | e | e
    · exact .inl e
    · exact .inr (.inl e)
    · omega
end
end Go.Proofs.YtnjbpacnmiimlaaDoor

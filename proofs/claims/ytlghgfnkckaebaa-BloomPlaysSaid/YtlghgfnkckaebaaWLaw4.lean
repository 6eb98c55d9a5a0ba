/- The two pairs that the law goes on with. -/
import Derived.Test.YtlghgfnkckaebaaWLaw3
import Derived.Test.YtlghgfnkckaebaaWNevW
namespace Go.Proofs.Ytlghgfnkckaebaa
open Go.RowKit
set_option linter.unusedSimpArgs false
set_option linter.unusedVariables false

theorem PairAt.lt {w : World} {B : Nat} {d : PD} (h : PairAt w B (some d)) : d.A < w.heap.size ∧ d.b < w.heap.size ∧ d.r < w.heap.size ∧ B ≤ d.A ∧ B ≤ d.b ∧ B ≤ d.r :=
  ⟨h.1.lt2, h.2.off.2, RFlt.lt_ h.2, h.1.off, h.2.off.1, RFlt.gB h.2⟩
theorem Apart.near {w : World} {B : Nat} {d d' e : Option PD} (h : Apart d e) (he : PairAt w B e) (hn : Near w.heap.size d d') : Apart d' e := by
  cases e with
  | none => cases d' <;> trivial
  | some e =>
    cases d' with
    | none => trivial
    | some x =>
      have l := he.lt
      cases d with
      | none => exact ⟨by have := hn.1; omega, by have := hn.2.1; omega, by have := hn.2.2; omega⟩
      | some d =>
        obtain ⟨h1, h2, h3⟩ := h
        obtain ⟨n1, n2, n3⟩ := hn
        exact ⟨by omega, by omega, by omega⟩
theorem Mut.off {w : World} {B k : Nat} {d : Option PD} (h : PairAt w B d) (hm : Mut d k) : B ≤ k ∧ k < w.heap.size := by
  cases d with
  | none => exact hm.elim
  | some d =>
    have l := h.lt
    rcases hm with q | q | q <;> omega
theorem Mut.typ {w : World} {B k : Nat} {d : Option PD} (h : PairAt w B d) (hm : Mut d k) : typ w k ≠ some 57 := by
  cases d with
  | none => exact hm.elim
  | some d =>
    intro e
    rcases hm with q | q | q
    · rw [q, h.tA] at e; exact absurd e (by decide)
    · rw [q, h.tb] at e; exact absurd e (by decide)
    · rw [q, h.tr] at e; exact absurd e (by decide)
def LCells (D : Nat → Option PD) : Array Value := #[PD.pp (D 0), PD.qq (D 0), PD.pp (D 1), PD.qq (D 1)]
structure LAt (w : World) (B PL : Nat) (D : Nat → Option PD) : Prop where
  blk : w.heap[PL]? = some (.cells (LCells D) 57 (0, 0))
  p0 : PairAt w B (D 0)
  p1 : PairAt w B (D 1)
  ap : Apart (D 0) (D 1)
  off : B ≤ PL
def upd (D : Nat → Option PD) (i : Nat) (d : Option PD) : Nat → Option PD := fun j => if j = i then d else D j
section
variable {w w' : World} {B PL i : Nat} {D : Nat → Option PD} {d' : Option PD}
theorem two {i : Nat} (hi : i < 2) : i = 0 ∨ i = 1 := by omega
theorem LAt.pair (L : LAt w B PL D) (hi : i < 2) : PairAt w B (D i) := by
  rcases two hi with rfl | rfl
  · exact L.p0
  · exact L.p1
theorem LAt.lt_ (L : LAt w B PL D) : PL < w.heap.size := lt_of_block L.blk
theorem LAt.below (L : LAt w B PL D) (hb : Below w.heap.size w w') : LAt w' B PL D :=
  ⟨(hb.block PL L.lt_).trans L.blk, L.p0.below hb, L.p1.below hb, L.ap, L.off⟩
theorem LAt.ty (L : LAt w B PL D) : typ w PL = some 57 := typ_cells L.blk
theorem LAt.range (L : LAt w B PL D) (hi : i < 2) : w.rangeAt PL (i * 2) [PD.pp (D i), PD.qq (D i)] := by
  intro j v hj
  rw [cell_of_row _ _ _ _ _ _ L.blk]
  rcases two hi with rfl | rfl
  · match j, hj with
    | 0, hj => simpa [LCells] using hj
    | 1, hj => simpa [LCells] using hj
  · match j, hj with
    | 0, hj => simpa [LCells] using hj
    | 1, hj => simpa [LCells] using hj
theorem LAt.fz (L : LAt w B PL D) (j : Nat) : w.frozen? ⟨PL, j, none⟩ = false := by simp [World.frozen?, L.blk]
/-- A step on the pair i. -/
theorem LAt.step (L : LAt w B PL D) (hi : i < 2) (h : PairAt w' B d') (hp : PD.pp d' = PD.pp (D i)) (hq : PD.qq d' = PD.qq (D i)) (hf : Fr (Mut (D i)) w w') (hn : Near w.heap.size (D i) d') : LAt w' B PL (upd D i d') := by
  have hPL : ¬ Mut (D i) PL := fun q => Mut.typ (L.pair hi) q L.ty
  have hblk := (hf.block PL L.lt_ hPL).trans L.blk
  rcases two hi with rfl | rfl
  · refine ⟨?_, by simpa [upd] using h, by simpa [upd] using L.p1.keep L.p0 L.ap.symm hf (fun k q => .inl q), by simpa [upd] using L.ap.near L.p1 hn, L.off⟩
    rw [hblk]
    simp [LCells, upd, hp, hq]
  · refine ⟨?_, by simpa [upd] using L.p0.keep L.p1 L.ap hf (fun k q => .inl q), by simpa [upd] using h, by simpa [upd] using (L.ap.symm.near L.p0 hn).symm, L.off⟩
    rw [hblk]
    simp [LCells, upd, hp, hq]
theorem LAt.below_of (L : LAt w B PL D) (hi : i < 2) (hf : Fr (Mut (D i)) w w') : Below B w w' :=
  hf.below (Nat.le_trans L.off (Nat.le_of_lt L.lt_)) fun k hk q => by have := (Mut.off (L.pair hi) q).1; omega
/-- Another pair laid in its place. -/
theorem LAt.put (L : LAt w B PL D) (hi : i < 2) (h : PairAt w B d') (ha : Apart d' (D (1 - i))) : LAt ((w.setCell ⟨PL, i * 2, none⟩ (PD.pp d')).setCell ⟨PL, i * 2 + 1, none⟩ (PD.qq d')) B PL (upd D i d') := by
  have f1 : Fr (fun k => k = PL) w ((w.setCell ⟨PL, i * 2, none⟩ (PD.pp d')).setCell ⟨PL, i * 2 + 1, none⟩ (PD.qq d')) := (Fr.setCell w ⟨PL, i * 2, none⟩ _).trans (Fr.setCell _ ⟨PL, i * 2 + 1, none⟩ _) (fun _ _ q => q)
  have keep : ∀ e, PairAt w B e → PairAt ((w.setCell ⟨PL, i * 2, none⟩ (PD.pp d')).setCell ⟨PL, i * 2 + 1, none⟩ (PD.qq d')) B e := fun e he => he.keep (e := none) trivial (by cases e <;> trivial) f1 (fun k q => .inr (by have q : k = PL := q; rw [q]; exact L.ty))
  rcases two hi with rfl | rfl
  · exact ⟨by rw [heap_setCell_same _ PL _ _ _ _ (heap_setCell_same w PL _ _ _ _ L.blk)]; simp [LCells, upd], by simpa [upd] using keep _ h, by simpa [upd] using keep _ L.p1, by simpa [upd] using ha, L.off⟩
  · exact ⟨by rw [heap_setCell_same _ PL _ _ _ _ (heap_setCell_same w PL _ _ _ _ L.blk)]; simp [LCells, upd], by simpa [upd] using keep _ L.p0, by simpa [upd] using keep _ h, by simpa [upd] using Apart.symm ha, L.off⟩
/-- The same, where the document's filter stays. -/
theorem LAt.putF (L : LAt w B PL D) (hi : i < 2) (h : PairAt w B d') (hq : PD.qq d' = PD.qq (D i)) (ha : Apart d' (D (1 - i))) : LAt (w.setCell ⟨PL, i * 2, none⟩ (PD.pp d')) B PL (upd D i d') := by
  have f1 : Fr (fun k => k = PL) w (w.setCell ⟨PL, i * 2, none⟩ (PD.pp d')) := Fr.setCell w ⟨PL, i * 2, none⟩ _
  have keep : ∀ e, PairAt w B e → PairAt (w.setCell ⟨PL, i * 2, none⟩ (PD.pp d')) B e := fun e he => he.keep (e := none) trivial (by cases e <;> trivial) f1 (fun k q => .inr (by have q : k = PL := q; rw [q]; exact L.ty))
  rcases two hi with rfl | rfl
  · exact ⟨by rw [heap_setCell_same w PL _ _ _ _ L.blk]; simp [LCells, upd, hq], by simpa [upd] using keep _ h, by simpa [upd] using keep _ L.p1, by simpa [upd] using ha, L.off⟩
  · exact ⟨by rw [heap_setCell_same w PL _ _ _ _ L.blk]; simp [LCells, upd, hq], by simpa [upd] using keep _ L.p0, by simpa [upd] using keep _ h, by simpa [upd] using Apart.symm ha, L.off⟩
end
/-- A step's cells. -/
def stepV (k F : Int) (kb : List Nat) (b h : Int) : List Value := .int .i64 k :: .int .i64 F :: (u8s kb ++ [.int .i64 b, .int .i64 h])
theorem stepV_length {k F : Int} {kb : List Nat} {b h : Int} (hk : kb.length = 32) : (stepV k F kb b h).length = 36 := by simp [stepV, u8s, hk]
def DoneP (w : World) (B PL : Nat) (e : Ending) (w' : World) : Prop := e = .returned (.bool true) ∧ (∃ D', LAt w' B PL D') ∧ Below B w w'
theorem i64_and_one (F : Int) : ∃ i : Nat, i < 2 ∧ bits .and .i64 F 1 = (i : Int) := by
  have h : bits .and .i64 F 1 = IntKind.i64.wrap ((BitVec.ofInt 64 F &&& BitVec.ofInt 64 1).toNat : Int) := rfl
  have h2 : (BitVec.ofInt 64 F &&& BitVec.ofInt 64 1).toNat ≤ 1 := by
    rw [BitVec.toNat_and]
    exact Nat.and_le_right
  refine ⟨(BitVec.ofInt 64 F &&& BitVec.ofInt 64 1).toNat, by omega, ?_⟩
  rw [h, IntKind.wrap_i64]
  omega
end Go.Proofs.Ytlghgfnkckaebaa

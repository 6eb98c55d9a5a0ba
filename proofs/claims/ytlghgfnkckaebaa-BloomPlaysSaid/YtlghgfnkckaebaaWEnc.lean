/- An encoder in memory: what its methods lay. -/
import Derived.Test.YtlghgfnkckaebaaWBa
import Derived.Test.YtlghgfnkckaebaaGearN
import Derived.StillTailTactics
import Derived.Shelf.Bytes.SlClone
import Derived.Laws.Pointers
import Derived.Laws.Shifts
namespace Go.Proofs.Ytlghgfnkckaebaa
open Go.RowKit
set_option linter.unusedSimpArgs false

/-- An encoder that owns what it has laid. -/
structure EncAt (w : World) (g : Nat) (A : Option Addr) (c : Nat) (l : List Nat) : Prop where
  blk : w.heap[g]? = some (.cells #[.slice A l.length c, .pointer (some ⟨g, 0, none⟩)] 92 (0, 0))
  own : Own w (g + 1) 5 1 A l.length c (u8s l)
/-- Of what was there only the encoder's block and its row may have changed. -/
structure EncR (g : Nat) (w : World) (A : Option Addr) (w' : World) (A' : Option Addr) : Prop where
  os : w'.os = w.os
  tape : w'.tape = w.tape
  output : w'.output = w.output
  size : w.heap.size ≤ w'.heap.size
  block : ∀ k, k < w.heap.size → k ≠ g → blockOf A ≠ some k → w'.heap[k]? = w.heap[k]?
  link : blockOf A' = blockOf A ∨ ∀ k, blockOf A' = some k → w.heap.size ≤ k
section
variable {g : Nat} {w w' w'' : World} {A A' A'' : Option Addr} {c c' : Nat} {l b : List Nat}
theorem EncR.refl (g : Nat) (w : World) (A : Option Addr) : EncR g w A w A := ⟨rfl, rfl, rfl, Nat.le_refl _, fun _ _ _ _ => rfl, .inl rfl⟩
theorem EncR.trans (h : EncR g w A w' A') (k : EncR g w' A' w'' A'') : EncR g w A w'' A'' := by
  refine ⟨k.os.trans h.os, k.tape.trans h.tape, k.output.trans h.output, Nat.le_trans h.size k.size, fun j hj hg hA => ?_, ?_⟩
  · refine (k.block j (Nat.lt_of_lt_of_le hj h.size) hg fun e => ?_).trans (h.block j hj hg hA)
    rcases h.link with h1 | h1
    · exact hA (h1 ▸ e)
    · have := h1 j e; omega
  · rcases k.link with k1 | k1
    · rcases h.link with h1 | h1
      · exact .inl (k1.trans h1)
      · exact .inr fun j hj => h1 j (k1 ▸ hj)
    · exact .inr fun j hj => Nat.le_trans h.size (k1 j hj)
theorem EncR.below {B : Nat} (h : EncR g w A w' A') (hB : B ≤ g) (hA : ∀ k, blockOf A = some k → B ≤ k) (hs : B ≤ w.heap.size) : Below B w w' :=
  ⟨h.os, h.tape, h.output, h.size, fun k hk => h.block k (by omega) (by omega) (fun e => by have := hA k e; omega)⟩
theorem EncAt.lt (h : EncAt w g A c l) : g < w.heap.size := lt_of_block h.blk
theorem EncAt.off (h : EncAt w g A c l) : ∀ k, blockOf A = some k → g + 1 ≤ k := fun k hk => (h.own.lt k hk).1
theorem EncAt.c0 (h : EncAt w g A c l) : w.cell? ⟨g, 0, none⟩ = some (.slice A l.length c) := cell_of_row _ _ _ _ _ _ h.blk
theorem EncAt.c1 (h : EncAt w g A c l) : w.cell? ⟨g, 1, none⟩ = some (.pointer (some ⟨g, 0, none⟩)) := cell_of_row _ _ _ _ _ _ h.blk
theorem EncAt.fz (h : EncAt w g A c l) (j : Nat) : w.frozen? ⟨g, j, none⟩ = false := by simp [World.frozen?, h.blk]
theorem EncAt.keep (h : EncAt w g A c l) (hb : Below w.heap.size w w') : EncAt w' g A c l :=
  ⟨(hb.block g h.lt).trans h.blk, h.own.below hb fun k hk => (h.own.lt k hk).2⟩
/-- An append, and the store of what came of it. -/
theorem EncAt.put (h : EncAt w g A c l) (ha : AppAt w w' A A') {n : Nat} (hn : n = (l ++ b).length) (ho : Own w' (g + 1) 5 1 A' n c' (u8s (l ++ b))) :
    EncAt (w'.setCell ⟨g, 0, none⟩ (.slice A' n c')) g A' c' (l ++ b) ∧ EncR g w A (w'.setCell ⟨g, 0, none⟩ (.slice A' n c')) A' := by
  subst hn
  have hg : w'.heap[g]? = _ := (ha.grown.block g h.lt (fun e => by have := h.off g e.symm; omega)).trans h.blk
  have hs := heap_setCell_same w' g 0 _ _ (.slice A' (l ++ b).length c') hg
  refine ⟨⟨by rw [hs]; simp, ho.setFar (by simp) _⟩, ⟨ha.grown.os, ha.grown.tape, ha.grown.output, by have := ha.grown.size; simpa using this, fun k hk hkg hA => ?_, ?_⟩⟩
  · rw [heap_setCell_other w' _ k _ hkg]
    exact ha.grown.block k hk (fun e => hA e.symm)
  · rcases ha with ⟨h1, _⟩ | ⟨k, h1, h2, _⟩
    · exact .inl h1
    · exact .inr fun j hj => by rw [h1] at hj; injection hj with e; omega
theorem EncAt.mid (h : EncAt w g A c l) (ha : AppAt w w' A A') : w'.cell? ⟨g, 0, none⟩ = some (.slice A l.length c) ∧ w'.frozen? ⟨g, 0, none⟩ = false := by
  have hb : w'.heap[g]? = w.heap[g]? := ha.grown.block g h.lt (fun e => by have := h.off g e.symm; omega)
  exact ⟨(World.cell?_of_block hb).trans h.c0, (World.frozen?_of_block hb).trans (h.fz 0)⟩
end

theorem ptr_eqIn (d : Nat) (a : Addr) (w : World) : (Op.equalIn (d + 1) 90 (.pointer (some a)) (.pointer (some a))).run Try.prog w = .ok true w := by
  have hs : (sizeOf 92).run Try.prog w = .ok 2 w := Try.sizeOf92 w
  simp [Op.equalIn, run_underlying Try.underlying90, hs, sameAddr]
theorem ptr_neq (a : Addr) (w : World) : (binOp .neq 90 (.pointer (some a)) (.pointer (some a))).run Try.prog w = .ok (.bool false) w := by
  have he : (Op.equal 90 (.pointer (some a)) (.pointer (some a))).run Try.prog w = .ok true w := ptr_eqIn 9999 a w
  simp only [binOp]
  simp [he]
set_option maxRecDepth 20000 in
theorem ours_any {w : World} {g c : Nat} {A : Option Addr} {l : List Nat} (h : EncAt w g A c l) : Calls Try.prog 74 #[.pointer (some ⟨g, 0, none⟩)] w fun e w' => (∃ v, e = .returned v) ∧ w = w' := by
  have c1 := h.c1
  have hq := ptr_neq ⟨g, 0, none⟩
  clear h
  go_enter Try.func74, Try.ntmps74
  go_wp2_with fail
  go_end0
  exact ⟨⟨_, rfl⟩, rfl⟩

end Go.Proofs.Ytlghgfnkckaebaa

/- A decoder in memory: wire.Dec's small methods. -/
import Derived.Test.YtlghgfnkckaebaaDecM
import Derived.Test.YtlghgfnkckaebaaWPut
import Derived.Maps.AppendAt
import Derived.BigRegion
namespace Go.Proofs.Ytlghgfnkckaebaa
open Go.RowKit
set_option linter.unusedSimpArgs false
set_option linter.unusedVariables false

/-- A decoder in block g, its bytes l at A, at place k, its fault at f. -/
structure DecAt (w : World) (g : Nat) (A : Option Addr) (c : Nat) (l : List Nat) (k : Nat) (f : Option Addr) : Prop where
  blk : w.heap[g]? = some (.cells #[.slice A l.length c, .int .i64 (k : Int), .pointer f] 107 (0, 0))
  byt : Byt w w.heap.size A l
  off : blockOf A ≠ some g
  le : k ≤ l.length
  cap : l.length ≤ c ∧ l.length ≤ 140737488355328
  lt : ∀ x ∈ l, x < 256
  ab : ∀ j, blockOf A = some j → j < w.heap.size
/-- A decoder, as far as what is taken off it tells. -/
def DecS (w : World) (g : Nat) (A : Option Addr) (c : Nat) (l : List Nat) : DSt → Prop
  | some k => DecAt w g A c l k none
  | none => ∃ k gf x y, DecAt w g A c l k (some ⟨gf, 0, none⟩) ∧ w.heap[gf]? = some (.cells #[.int .i64 x, .int .i64 y] 116 (0, 0)) ∧ gf ≠ g
section
variable {w w' : World} {g c k k' : Nat} {A f : Option Addr} {l : List Nat} {s : DSt}
theorem DecAt.gl (h : DecAt w g A c l k f) : g < w.heap.size := lt_of_block h.blk
theorem DecAt.c0 (h : DecAt w g A c l k f) : w.cell? ⟨g, 0, none⟩ = some (.slice A l.length c) := cell_of_row _ _ _ _ _ _ h.blk
theorem DecAt.c1 (h : DecAt w g A c l k f) : w.cell? ⟨g, 1, none⟩ = some (.int .i64 (k : Int)) := cell_of_row _ _ _ _ _ _ h.blk
theorem DecAt.c2 (h : DecAt w g A c l k f) : w.cell? ⟨g, 2, none⟩ = some (.pointer f) := cell_of_row _ _ _ _ _ _ h.blk
theorem DecAt.fz (h : DecAt w g A c l k f) (j : Nat) : w.frozen? ⟨g, j, none⟩ = false := by simp [World.frozen?, h.blk]
theorem Byt.far {B : Nat} {w w' : World} {g : Nat} {A : Option Addr} {l : List Nat} (h : Byt w B A l) (hg : w.grownBy w' (some g)) (ho : blockOf A ≠ some g) : Byt w' w'.heap.size A l := fun hn => by
  obtain ⟨b, off, e, hb, hc⟩ := h hn
  have hbs : b < w.heap.size := World.block_lt_of_cell? _ _ (hc 0 hn)
  have hne : some b ≠ some g := fun e2 => ho (by rw [e]; exact e2)
  exact ⟨b, off, e, Nat.lt_of_lt_of_le hbs hg.size, fun j hj => (World.cell?_of_block (hg.block b hbs hne)).trans (hc j hj)⟩
theorem DecAt.keep (h : DecAt w g A c l k f) (hb : Below w.heap.size w w') : DecAt w' g A c l k f :=
  ⟨(hb.block g h.gl).trans h.blk, (h.byt.below hb).mono hb.size, h.off, h.le, h.cap, h.lt, fun j hj => Nat.lt_of_lt_of_le (h.ab j hj) hb.size⟩
theorem DecS.keep (h : DecS w g A c l s) (hb : Below w.heap.size w w') : DecS w' g A c l s := by
  cases s with
  | some k => exact DecAt.keep h hb
  | none =>
    obtain ⟨k, gf, x, y, h1, h2, h3⟩ := h
    exact ⟨k, gf, x, y, h1.keep hb, (hb.block gf (lt_of_block h2)).trans h2, h3⟩
theorem DecS.gl (h : DecS w g A c l s) : g < w.heap.size := by
  cases s with
  | some k => exact DecAt.gl h
  | none => obtain ⟨_, _, _, _, h1, _⟩ := h; exact h1.gl
theorem DecS.le (h : DecS w g A c l s) : s.le l.length := fun k hk => by
  subst hk
  exact DecAt.le h
theorem DecS.cap (h : DecS w g A c l s) : l.length ≤ c ∧ l.length ≤ 140737488355328 := by
  cases s with
  | some k => exact DecAt.cap h
  | none => obtain ⟨_, _, _, _, h1, _⟩ := h; exact h1.cap
theorem DecS.lt (h : DecS w g A c l s) : ∀ x ∈ l, x < 256 := by
  cases s with
  | some k => exact DecAt.lt h
  | none => obtain ⟨_, _, _, _, h1, _⟩ := h; exact h1.lt
theorem DecS.ab (h : DecS w g A c l s) : ∀ j, blockOf A = some j → j < w.heap.size := by
  cases s with
  | some k => exact DecAt.ab h
  | none => obtain ⟨_, _, _, _, h1, _⟩ := h; exact h1.ab
/-- Another block written over. -/
theorem DecAt.other (h : DecAt w g A c l k f) {N : Nat} {xs : Array Value} (hg : N ≠ g) (hA : blockOf A ≠ some N) : DecAt (w.setRow N xs) g A c l k f := by
  refine ⟨(setRow_other w N g _ (fun e => hg e.symm)).trans h.blk, fun hn => ?_, h.off, h.le, h.cap, h.lt, fun j hj => by simpa using h.ab j hj⟩
  obtain ⟨b, off, e, hb, hc⟩ := h.byt hn
  have hne : b ≠ N := fun e2 => hA (by rw [e, ← e2]; rfl)
  exact ⟨b, off, e, by simpa using hb, fun j hj => (World.cell?_of_block (setRow_other w N b _ hne)).trans (hc j hj)⟩
theorem DecS.other (h : DecS w g A c l s) {N : Nat} {xs cs : Array Value} {t : TypeId} {fr : Nat × Nat} (hN : w.heap[N]? = some (.cells cs t fr)) (ht : t ≠ 107 ∧ t ≠ 116) (hA : blockOf A ≠ some N) : DecS (w.setRow N xs) g A c l s := by
  have ne : ∀ {k : Nat} {f : Option Addr}, DecAt w g A c l k f → N ≠ g := fun h e => by
    subst e
    have := h.blk.symm.trans hN
    simp only [Option.some.injEq, Obj.cells.injEq] at this
    exact ht.1 this.2.1.symm
  cases s with
  | some k => exact DecAt.other h (ne h) hA
  | none =>
    obtain ⟨k, gf, x, y, h1, h2, h3⟩ := h
    have hgf : gf ≠ N := fun e => by
      subst e
      have := h2.symm.trans hN
      simp only [Option.some.injEq, Obj.cells.injEq] at this
      exact ht.2 this.2.1.symm
    exact ⟨k, gf, x, y, h1.other (ne h1) hA, (setRow_other w N gf _ hgf).trans h2, h3⟩
theorem grown_drewN (w : World) (n : Nat) (r : Option Nat) : w.grownBy (w.drewN n) r := ⟨rfl, rfl, rfl, Nat.le_refl _, fun _ _ _ => rfl⟩
theorem grown_below' {w w' : World} {r : Option Nat} (h : Below w.heap.size w w') : w.grownBy w' r := ⟨h.os, h.tape, h.output, h.size, fun k hk _ => h.block k hk⟩
theorem grown_set (w : World) (g j : Nat) (v : Value) : w.grownBy (w.setCell ⟨g, j, none⟩ v) (some g) :=
  ⟨rfl, rfl, rfl, by simp, fun k _ hk => heap_setCell_other w _ k _ (fun e => hk (by rw [e]))⟩
theorem DecAt.drewN (h : DecAt w g A c l k f) (n : Nat) : DecAt (w.drewN n) g A c l k f := h.keep (below_drewN (Below.refl _ _) n)
/-- The place moved. -/
theorem DecAt.move (h : DecAt w g A c l k f) (hk : k' ≤ l.length) : DecAt (w.setCell ⟨g, 1, none⟩ (.int .i64 (k' : Int))) g A c l k' f ∧ w.grownBy (w.setCell ⟨g, 1, none⟩ (.int .i64 (k' : Int))) (some g) := by
  have h1 := heap_setCell_same w g 1 _ _ (.int .i64 (k' : Int)) h.blk
  exact ⟨⟨by rw [h1]; simp, h.byt.far (grown_set _ _ _ _) h.off, h.off, hk, h.cap, h.lt, fun j hj => by have := h.ab j hj; simpa using this⟩, grown_set _ _ _ _⟩
/-- Stopped. -/
theorem DecAt.halt (h : DecAt w g A c l k f) (x y : Int) :
    DecS ((w.setCell ⟨g, 2, none⟩ (.pointer (some ⟨w.heap.size, 0, none⟩))).alloc (.cells #[.int .i64 x, .int .i64 y] 116)) g A c l none ∧
    w.grownBy ((w.setCell ⟨g, 2, none⟩ (.pointer (some ⟨w.heap.size, 0, none⟩))).alloc (.cells #[.int .i64 x, .int .i64 y] 116)) (some g) := by
  have hgl := h.gl
  have h1 := heap_setCell_same w g 2 _ _ (.pointer (some ⟨w.heap.size, 0, none⟩)) h.blk
  obtain ⟨W, hW⟩ : ∃ W, w.setCell ⟨g, 2, none⟩ (.pointer (some ⟨w.heap.size, 0, none⟩)) = W := ⟨_, rfl⟩
  have hsz : W.heap.size = w.heap.size := by rw [← hW]; simp
  have hg1 : w.grownBy W (some g) := by rw [← hW]; exact grown_set _ _ _ _
  rw [hW] at h1 ⊢
  have hb : Below W.heap.size W (W.alloc (.cells #[.int .i64 x, .int .i64 y] 116)) := (Below.refl _ _).alloc (Nat.le_refl _) _
  have hg : w.grownBy (W.alloc (.cells #[.int .i64 x, .int .i64 y] 116)) (some g) := hg1.trans (grown_below' hb)
  refine ⟨⟨k, w.heap.size, x, y, ⟨?_, h.byt.far hg h.off, h.off, h.le, h.cap, h.lt, fun j hj => Nat.lt_of_lt_of_le (h.ab j hj) hg.size⟩, ?_, by omega⟩, hg⟩
  · rw [heap_alloc_old W _ (by omega), h1]
    simp
  · have := heap_alloc_new W (.cells #[.int .i64 x, .int .i64 y] 116 (0, 0))
    rwa [hsz] at this
end

theorem dptr_eqIn (d : Nat) (a : Addr) (w : World) : (Op.equalIn (d + 1) 80 (.pointer (some a)) (.pointer none)).run Try.prog w = .ok false w := by
  have hs : (sizeOf 107).run Try.prog w = .ok 3 w := Try.sizeOf107 w
  simp [Op.equalIn, run_underlying Try.underlying80, hs, sameAddr]
theorem dptr_eqn (a : Addr) (w : World) : (binOp .eql 80 (.pointer (some a)) (.pointer none)).run Try.prog w = .ok (.bool false) w := by
  have he : (Op.equal 80 (.pointer (some a)) (.pointer none)).run Try.prog w = .ok false w := dptr_eqIn 9999 a w
  simp only [binOp]
  simp [he]
theorem fptr_eqIn (d : Nat) (a : Option Addr) (w : World) : (Op.equalIn (d + 1) 105 (.pointer a) (.pointer none)).run Try.prog w = .ok a.isNone w := by
  have hs : (sizeOf 116).run Try.prog w = .ok 2 w := Try.sizeOf116 w
  cases a <;> simp [Op.equalIn, run_underlying Try.underlying105, hs, sameAddr]
theorem fptr_ne (a : Option Addr) (w : World) : (binOp .neq 105 (.pointer a) (.pointer none)).run Try.prog w = .ok (.bool a.isSome) w := by
  have he : (Op.equal 105 (.pointer a) (.pointer none)).run Try.prog w = .ok a.isNone w := fptr_eqIn 9999 a w
  simp only [binOp]
  cases a <;> simp [he]
theorem fptr_nes (a : Addr) (w : World) : (binOp .neq 105 (.pointer (some a)) (.pointer none)).run Try.prog w = .ok (.bool true) w := fptr_ne (some a) w
theorem fptr_nen (w : World) : (binOp .neq 105 (.pointer none) (.pointer none)).run Try.prog w = .ok (.bool false) w := fptr_ne none w

/-- over: was it stopped? -/
theorem over_any {w : World} {g c : Nat} {A : Option Addr} {l : List Nat} {s : DSt} (h : DecS w g A c l s) :
    Calls Try.prog 69 #[.pointer (some ⟨g, 0, none⟩)] w fun e w' => e = .returned (.bool s.isNone) ∧ w = w' := by
  have hq := dptr_eqn ⟨g, 0, none⟩
  cases s with
  | some k =>
    have c2 := DecAt.c2 h
    have hn := fptr_nen
    clear h
    go_enter Try.func69, Try.ntmps69
    go_wp2_with fail
    go_ret
    exact ⟨rfl, rfl⟩
  | none =>
    obtain ⟨k, gf, x, y, h1, _, _⟩ := h
    have c2 := h1.c2
    have hn := fptr_nes ⟨gf, 0, none⟩
    clear h1
    go_enter Try.func69, Try.ntmps69
    go_wp2_with fail
    go_ret
    exact ⟨rfl, rfl⟩
theorem stop_any {w : World} {g c k : Nat} {A f : Option Addr} {l : List Nat} (h : DecAt w g A c l k f) (x y : Int) :
    Calls Try.prog 77 #[.pointer (some ⟨g, 0, none⟩), .int .i64 x, .int .i64 y] w fun e w' => (∃ v, e = .returned v) ∧ DecS w' g A c l none ∧ w.grownBy w' (some g) := by
  have c2 := h.c2
  have f2 := h.fz 2
  have hh := Lib.hid (h.halt x y)
  have hgl := h.gl
  clear h
  go_enter Try.func77, Try.ntmps77
  go_wp2_with fail
  go_end0
  exact ⟨⟨_, rfl⟩, hh.out⟩
def leftM (n : Nat) : DSt → Nat
  | none => 0
  | some k => n - k
theorem left_dec {w : World} {g c : Nat} {A : Option Addr} {l : List Nat} {s : DSt} (h : DecS w g A c l s) :
    Calls Try.prog 44 #[.pointer (some ⟨g, 0, none⟩)] w fun e w' => e = .returned (.int .i64 (leftM l.length s : Nat)) ∧ ∃ n, w' = w.drewN n := by
  have hov := Lib.hid (over_any h)
  cases s with
  | none =>
    clear h
    go_enter Try.func44, Try.ntmps44
    go_wp2_with (refine hov.out.mono ?_; rintro e w' ⟨rfl, rfl⟩)
    go_ret
    exact ⟨rfl, 0, rfl⟩
  | some k =>
    have h' := Lib.hid h
    obtain ⟨n, hn⟩ : ∃ n, Hid (∀ _ : Unit, l.length = n) := ⟨_, Lib.hid fun _ => rfl⟩
    have c0 := DecAt.c0 h
    have c1 := DecAt.c1 h
    have hle := DecAt.le h
    have hcap := DecAt.cap h
    rw [hn.out ()] at c0 hle hcap ⊢
    have hw := IntWalk.i64_in (n - k : Int) (by omega)
    have h0 : (0 : Int) ≤ (n - k : Int) := by omega
    have hsub : ((n - k : Nat) : Int) = (n : Int) - k := by omega
    have hsub' := Lib.hid hsub
    clear h hsub
    go_enter Try.func44, Try.ntmps44
    go_wp2_with (refine hov.out.mono ?_; rintro e w' ⟨rfl, rfl⟩)
    go_quiet (fail)
    go_wp2_with fail
    go_ret
    exact ⟨ret_int (by unfold leftM; exact hsub'.out.symm), _, rfl⟩
end Go.Proofs.Ytlghgfnkckaebaa

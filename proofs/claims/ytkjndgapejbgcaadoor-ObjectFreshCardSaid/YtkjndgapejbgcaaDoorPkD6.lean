/- A decoder in memory: wire.Dec's small methods. Copied: an object with lists of its own: the words. Copied: what stands while the copy is made. Kids of an object: words ahead of the walks. -/
import Derived.Test.YtkjndgapejbgcaaDoorPkD2
import Derived.Test.YtkjndgapejbgcaaDoorPkD5
import Derived.Maps.AppendAt
import Derived.BigRegion
import Derived.Test.YtkjndgapejbgcaaDoorPkD4
import Derived.Great.Walk
import Derived.Deep.WholeRow
import Derived.Laws.Tables
import Derived.Deep.RegionHeld3

namespace Go.Proofs.YtkjndgapejbgcaaDoor
open Go.RowKit
set_option linter.unusedSimpArgs false
set_option linter.unusedVariables false

/-- A decoder in block g, its bytes l at A, at place k, its fault at f. -/
structure DecAt (w : World) (g : Nat) (A : Option Addr) (c : Nat) (l : List Nat) (k : Nat) (f : Option Addr) : Prop where
  blk : w.heap[g]? = some (.cells #[.slice A l.length c, .int .i64 (k : Int), .pointer f] 100 (0, 0))
  byt : Byt w w.heap.size A l
  off : blockOf A ≠ some g
  le : k ≤ l.length
  cap : l.length ≤ c ∧ l.length ≤ 140737488355328
  lt : ∀ x ∈ l, x < 256
  ab : ∀ j, blockOf A = some j → j < w.heap.size
/-- A decoder, as far as what is taken off it tells. -/
def DecS (w : World) (g : Nat) (A : Option Addr) (c : Nat) (l : List Nat) : DSt → Prop
  | some k => DecAt w g A c l k none
  | none => ∃ k gf x y, DecAt w g A c l k (some ⟨gf, 0, none⟩) ∧ w.heap[gf]? = some (.cells #[.int .i64 x, .int .i64 y] 114 (0, 0)) ∧ gf ≠ g
section
variable {w w' : World} {g c k k' : Nat} {A f : Option Addr} {l : List Nat} {s : DSt}
theorem DecAt.gl (h : DecAt w g A c l k f) : g < w.heap.size := lt_of_block h.blk
theorem DecAt.c0 (h : DecAt w g A c l k f) : w.cell? ⟨g, 0, none⟩ = some (.slice A l.length c) := cell_of_row _ _ _ _ _ _ h.blk
theorem DecAt.c1 (h : DecAt w g A c l k f) : w.cell? ⟨g, 1, none⟩ = some (.int .i64 (k : Int)) := cell_of_row _ _ _ _ _ _ h.blk
theorem DecAt.c2 (h : DecAt w g A c l k f) : w.cell? ⟨g, 2, none⟩ = some (.pointer f) := cell_of_row _ _ _ _ _ _ h.blk
theorem DecAt.fz (h : DecAt w g A c l k f) (j : Nat) : w.frozen? ⟨g, j, none⟩ = false := by simp [World.frozen?, h.blk]
theorem Byt.far {B : Nat} {w w' : World} {g : Nat} {A : Option Addr} {l : List Nat} (h : Byt w B A l) (hg : w.grownBy w' (some g)) (ho : blockOf A ≠ some g) : Byt w' w'.heap.size A l := fun hn => by
  obtain ⟨b, off, e, hb, hc⟩ := h hn
  have hbs : b < w.heap.size := World.block_lt_of_cell? _ _ (hc 0 hn)
  have hne : some b ≠ some g := fun e2 => ho (by rw [e]; exact e2)
  exact ⟨b, off, e, Nat.lt_of_lt_of_le hbs hg.size, fun j hj => (World.cell?_of_block (hg.block b hbs hne)).trans (hc j hj)⟩
theorem DecAt.keep (h : DecAt w g A c l k f) (hb : Below w.heap.size w w') : DecAt w' g A c l k f :=
  ⟨(hb.block g h.gl).trans h.blk, (h.byt.below hb).mono hb.size, h.off, h.le, h.cap, h.lt, fun j hj => Nat.lt_of_lt_of_le (h.ab j hj) hb.size⟩
theorem DecS.keep (h : DecS w g A c l s) (hb : Below w.heap.size w w') : DecS w' g A c l s := by
  cases s with
  | some k => exact DecAt.keep h hb
  | none =>
    obtain ⟨k, gf, x, y, h1, h2, h3⟩ := h
    exact ⟨k, gf, x, y, h1.keep hb, (hb.block gf (lt_of_block h2)).trans h2, h3⟩
theorem DecS.gl (h : DecS w g A c l s) : g < w.heap.size := by
  cases s with
  | some k => exact DecAt.gl h
  | none => obtain ⟨_, _, _, _, h1, _⟩ := h; exact h1.gl
theorem DecS.le (h : DecS w g A c l s) : s.le l.length := fun k hk => by
  subst hk
  exact DecAt.le h
theorem DecS.cap (h : DecS w g A c l s) : l.length ≤ c ∧ l.length ≤ 140737488355328 := by
  cases s with
  | some k => exact DecAt.cap h
  | none => obtain ⟨_, _, _, _, h1, _⟩ := h; exact h1.cap
theorem DecS.lt (h : DecS w g A c l s) : ∀ x ∈ l, x < 256 := by
  cases s with
  | some k => exact DecAt.lt h
  | none => obtain ⟨_, _, _, _, h1, _⟩ := h; exact h1.lt
theorem DecS.ab (h : DecS w g A c l s) : ∀ j, blockOf A = some j → j < w.heap.size := by
  cases s with
  | some k => exact DecAt.ab h
  | none => obtain ⟨_, _, _, _, h1, _⟩ := h; exact h1.ab
/-- Another block written over. -/
theorem DecAt.other (h : DecAt w g A c l k f) {N : Nat} {xs : Array Value} (hg : N ≠ g) (hA : blockOf A ≠ some N) : DecAt (w.setRow N xs) g A c l k f := by
  refine ⟨(setRow_other w N g _ (fun e => hg e.symm)).trans h.blk, fun hn => ?_, h.off, h.le, h.cap, h.lt, fun j hj => by simpa using h.ab j hj⟩
  obtain ⟨b, off, e, hb, hc⟩ := h.byt hn
  have hne : b ≠ N := fun e2 => hA (by rw [e, ← e2]; rfl)
  exact ⟨b, off, e, by simpa using hb, fun j hj => (World.cell?_of_block (setRow_other w N b _ hne)).trans (hc j hj)⟩
theorem DecS.other (h : DecS w g A c l s) {N : Nat} {xs cs : Array Value} {t : TypeId} {fr : Nat × Nat} (hN : w.heap[N]? = some (.cells cs t fr)) (ht : t ≠ 100 ∧ t ≠ 114) (hA : blockOf A ≠ some N) : DecS (w.setRow N xs) g A c l s := by
  have ne : ∀ {k : Nat} {f : Option Addr}, DecAt w g A c l k f → N ≠ g := fun h e => by
    subst e
    have := h.blk.symm.trans hN
    simp only [Option.some.injEq, Obj.cells.injEq] at this
    exact ht.1 this.2.1.symm
  cases s with
  | some k => exact DecAt.other h (ne h) hA
  | none =>
    obtain ⟨k, gf, x, y, h1, h2, h3⟩ := h
    have hgf : gf ≠ N := fun e => by
      subst e
      have := h2.symm.trans hN
      simp only [Option.some.injEq, Obj.cells.injEq] at this
      exact ht.2 this.2.1.symm
    exact ⟨k, gf, x, y, h1.other (ne h1) hA, (setRow_other w N gf _ hgf).trans h2, h3⟩
theorem grown_drewN (w : World) (n : Nat) (r : Option Nat) : w.grownBy (w.drewN n) r := ⟨rfl, rfl, rfl, Nat.le_refl _, fun _ _ _ => rfl⟩
theorem grown_below' {w w' : World} {r : Option Nat} (h : Below w.heap.size w w') : w.grownBy w' r := ⟨h.os, h.tape, h.output, h.size, fun k hk _ => h.block k hk⟩
theorem grown_set (w : World) (g j : Nat) (v : Value) : w.grownBy (w.setCell ⟨g, j, none⟩ v) (some g) :=
  ⟨rfl, rfl, rfl, by simp, fun k _ hk => heap_setCell_other w _ k _ (fun e => hk (by rw [e]))⟩
theorem DecAt.drewN (h : DecAt w g A c l k f) (n : Nat) : DecAt (w.drewN n) g A c l k f := h.keep (below_drewN (Below.refl _ _) n)
/-- The place moved. -/
theorem DecAt.move (h : DecAt w g A c l k f) (hk : k' ≤ l.length) : DecAt (w.setCell ⟨g, 1, none⟩ (.int .i64 (k' : Int))) g A c l k' f ∧ w.grownBy (w.setCell ⟨g, 1, none⟩ (.int .i64 (k' : Int))) (some g) := by
  have h1 := heap_setCell_same w g 1 _ _ (.int .i64 (k' : Int)) h.blk
  exact ⟨⟨by rw [h1]; simp, h.byt.far (grown_set _ _ _ _) h.off, h.off, hk, h.cap, h.lt, fun j hj => by have := h.ab j hj; simpa using this⟩, grown_set _ _ _ _⟩
/-- Stopped. -/
theorem DecAt.halt (h : DecAt w g A c l k f) (x y : Int) :
    DecS ((w.setCell ⟨g, 2, none⟩ (.pointer (some ⟨w.heap.size, 0, none⟩))).alloc (.cells #[.int .i64 x, .int .i64 y] 114)) g A c l none ∧
    w.grownBy ((w.setCell ⟨g, 2, none⟩ (.pointer (some ⟨w.heap.size, 0, none⟩))).alloc (.cells #[.int .i64 x, .int .i64 y] 114)) (some g) := by
  have hgl := h.gl
  have h1 := heap_setCell_same w g 2 _ _ (.pointer (some ⟨w.heap.size, 0, none⟩)) h.blk
  obtain ⟨W, hW⟩ : ∃ W, w.setCell ⟨g, 2, none⟩ (.pointer (some ⟨w.heap.size, 0, none⟩)) = W := ⟨_, rfl⟩
  have hsz : W.heap.size = w.heap.size := by rw [← hW]; simp
  have hg1 : w.grownBy W (some g) := by rw [← hW]; exact grown_set _ _ _ _
  rw [hW] at h1 ⊢
  have hb : Below W.heap.size W (W.alloc (.cells #[.int .i64 x, .int .i64 y] 114)) := (Below.refl _ _).alloc (Nat.le_refl _) _
  have hg : w.grownBy (W.alloc (.cells #[.int .i64 x, .int .i64 y] 114)) (some g) := hg1.trans (grown_below' hb)
  refine ⟨⟨k, w.heap.size, x, y, ⟨?_, h.byt.far hg h.off, h.off, h.le, h.cap, h.lt, fun j hj => Nat.lt_of_lt_of_le (h.ab j hj) hg.size⟩, ?_, by omega⟩, hg⟩
  · rw [heap_alloc_old W _ (by omega), h1]
    simp
  · have := heap_alloc_new W (.cells #[.int .i64 x, .int .i64 y] 114 (0, 0))
    rwa [hsz] at this
end

theorem dptr_eqIn (d : Nat) (a : Addr) (w : World) : (Op.equalIn (d + 1) 72 (.pointer (some a)) (.pointer none)).run Tryd.prog w = .ok false w := by
  have hs : (sizeOf 100).run Tryd.prog w = .ok 3 w := Tryd.sizeOf100 w
  simp [Op.equalIn, run_underlying Tryd.underlying72, hs, sameAddr]
theorem dptr_eqn (a : Addr) (w : World) : (binOp .eql 72 (.pointer (some a)) (.pointer none)).run Tryd.prog w = .ok (.bool false) w := by
  have he : (Op.equal 72 (.pointer (some a)) (.pointer none)).run Tryd.prog w = .ok false w := dptr_eqIn 9999 a w
  simp only [binOp]
  simp [he]
theorem fptr_eqIn (d : Nat) (a : Option Addr) (w : World) : (Op.equalIn (d + 1) 98 (.pointer a) (.pointer none)).run Tryd.prog w = .ok a.isNone w := by
  have hs : (sizeOf 114).run Tryd.prog w = .ok 2 w := Tryd.sizeOf114 w
  cases a <;> simp [Op.equalIn, run_underlying Tryd.underlying98, hs, sameAddr]
theorem fptr_ne (a : Option Addr) (w : World) : (binOp .neq 98 (.pointer a) (.pointer none)).run Tryd.prog w = .ok (.bool a.isSome) w := by
  have he : (Op.equal 98 (.pointer a) (.pointer none)).run Tryd.prog w = .ok a.isNone w := fptr_eqIn 9999 a w
  simp only [binOp]
  cases a <;> simp [he]
theorem fptr_nes (a : Addr) (w : World) : (binOp .neq 98 (.pointer (some a)) (.pointer none)).run Tryd.prog w = .ok (.bool true) w := fptr_ne (some a) w
theorem fptr_nen (w : World) : (binOp .neq 98 (.pointer none) (.pointer none)).run Tryd.prog w = .ok (.bool false) w := fptr_ne none w

/-- over: was it stopped? -/
theorem over_any {w : World} {g c : Nat} {A : Option Addr} {l : List Nat} {s : DSt} (h : DecS w g A c l s) :
    Calls Tryd.prog 74 #[.pointer (some ⟨g, 0, none⟩)] w fun e w' => e = .returned (.bool s.isNone) ∧ w = w' := by
  have hq := dptr_eqn ⟨g, 0, none⟩
  cases s with
  | some k =>
    have c2 := DecAt.c2 h
    have hn := fptr_nen
    clear h
    go_enter Tryd.func74, Tryd.ntmps74
    go_wp2_with fail
    go_ret
    exact ⟨rfl, rfl⟩
  | none =>
    obtain ⟨k, gf, x, y, h1, _, _⟩ := h
    have c2 := h1.c2
    have hn := fptr_nes ⟨gf, 0, none⟩
    clear h1
    go_enter Tryd.func74, Tryd.ntmps74
    go_wp2_with fail
    go_ret
    exact ⟨rfl, rfl⟩
theorem stop_any {w : World} {g c k : Nat} {A f : Option Addr} {l : List Nat} (h : DecAt w g A c l k f) (x y : Int) :
    Calls Tryd.prog 103 #[.pointer (some ⟨g, 0, none⟩), .int .i64 x, .int .i64 y] w fun e w' => (∃ v, e = .returned v) ∧ DecS w' g A c l none ∧ w.grownBy w' (some g) := by
  have c2 := h.c2
  have f2 := h.fz 2
  have hh := Lib.hid (h.halt x y)
  have hgl := h.gl
  clear h
  go_enter Tryd.func103, Tryd.ntmps103
  go_wp2_with fail
  go_end0
  exact ⟨⟨_, rfl⟩, hh.out⟩
def leftM (n : Nat) : DSt → Nat
  | none => 0
  | some k => n - k
theorem left_dec {w : World} {g c : Nat} {A : Option Addr} {l : List Nat} {s : DSt} (h : DecS w g A c l s) :
    Calls Tryd.prog 78 #[.pointer (some ⟨g, 0, none⟩)] w fun e w' => e = .returned (.int .i64 (leftM l.length s : Nat)) ∧ ∃ n, w' = w.drewN n := by
  have hov := Lib.hid (over_any h)
  cases s with
  | none =>
    clear h
    go_enter Tryd.func78, Tryd.ntmps78
    go_wp2_with (refine hov.out.mono ?_; rintro e w' ⟨rfl, rfl⟩)
    go_ret
    exact ⟨rfl, 0, rfl⟩
  | some k =>
    have h' := Lib.hid h
    obtain ⟨n, hn⟩ : ∃ n, Hid (∀ _ : Unit, l.length = n) := ⟨_, Lib.hid fun _ => rfl⟩
    have c0 := DecAt.c0 h
    have c1 := DecAt.c1 h
    have hle := DecAt.le h
    have hcap := DecAt.cap h
    rw [hn.out ()] at c0 hle hcap ⊢
    have hw := IntWalk.i64_in (n - k : Int) (by omega)
    have h0 : (0 : Int) ≤ (n - k : Int) := by omega
    have hsub : ((n - k : Nat) : Int) = (n : Int) - k := by omega
    have hsub' := Lib.hid hsub
    clear h hsub
    go_enter Tryd.func78, Tryd.ntmps78
    go_wp2_with (refine hov.out.mono ?_; rintro e w' ⟨rfl, rfl⟩)
    go_quiet (fail)
    go_wp2_with fail
    go_ret
    exact ⟨ret_int (by unfold leftM; exact hsub'.out.symm), _, rfl⟩
end Go.Proofs.YtkjndgapejbgcaaDoor

namespace Go.Proofs.YtkjndgapejbgcaaDoor
open Go.RowKit
set_option linter.unusedSimpArgs false

def zK : Key32 := ⟨zeros 32, by simp [zeros]⟩
def mkP : PartT := (zK, 92)
def mkI : ItemT := (⟨#[]⟩, 0, 92, zK)
def mkK : Key32 := ⟨zeros 9 ++ [92] ++ zeros 22, by simp [zeros]⟩
theorem run_bslice {P : Program} (w : World) (t e : TypeId) (len : Nat) (parts : Array (Nat × Value)) (cells : Array Value) (hu : P.underlying t = some (.slice e))
    (hf : P.builtSlice e len parts.toList = some cells) : (Instr.buildSlice t len parts).run P w = .ok (.slice (some ⟨w.heap.size, 0, none⟩) len len) (w.alloc (.cells cells e)) := by
  unfold Program.builtSlice at hf
  cases hie : P.info? e with
  | none => simp [hie] at hf
  | some ie =>
    simp only [hie] at hf
    cases hz : ie.zero with
    | none => simp [hz] at hf
    | some z =>
      simp only [hz] at hf
      by_cases hc : len * ie.size > 2 ^ 24 ∨ len * ie.size = 0
      · simp [hc] at hf
      · rw [if_neg hc] at hf
        exact run_buildSlice w t e len parts cells ie z hu hie hz (fun h' => hc (Or.inl h')) (fun h' => hc (Or.inr h')) hf
theorem buildP (w : World) : (Instr.build 47 #[(1, .int .u64 92)]).run Tryd.prog w = .ok (.agg (encP mkP).toArray) w := run_build w _ _ _ (by kernel_rfl)
theorem buildI (w : World) : (Instr.build 50 #[(2, .int .u64 92)]).run Tryd.prog w = .ok (.agg (encI mkI).toArray) w := run_build w _ _ _ (by kernel_rfl)
theorem buildK (w : World) : (Instr.build 28 #[(9, .int .u8 92)]).run Tryd.prog w = .ok (.agg (encK mkK).toArray) w := run_build w _ _ _ (by kernel_rfl)
theorem bslP (w : World) : (Instr.buildSlice 25 2 #[(0, .agg (encP mkP).toArray), (1, .agg (encP mkP).toArray)]).run Tryd.prog w = .ok (.slice (some ⟨w.heap.size, 0, none⟩) 2 2) (w.alloc (.cells (flat encP [mkP, mkP]).toArray 47)) :=
  run_bslice w _ _ _ _ _ Tryd.underlying25 (by kernel_rfl)
theorem bslI (w : World) : (Instr.buildSlice 26 2 #[(0, .agg (encI mkI).toArray), (1, .agg (encI mkI).toArray)]).run Tryd.prog w = .ok (.slice (some ⟨w.heap.size, 0, none⟩) 2 2) (w.alloc (.cells (flat encI [mkI, mkI]).toArray 50)) :=
  run_bslice w _ _ _ _ _ Tryd.underlying26 (by kernel_rfl)
theorem bslK (w : World) : (Instr.buildSlice 29 2 #[(0, .agg (encK mkK).toArray), (1, .agg (encK mkK).toArray)]).run Tryd.prog w = .ok (.slice (some ⟨w.heap.size, 0, none⟩) 2 2) (w.alloc (.cells (flat encK [mkK, mkK]).toArray 28)) :=
  run_bslice w _ _ _ _ _ Tryd.underlying29 (by kernel_rfl)

section
variable {α : Type} {enc : α → List Value} {k : Nat}
theorem flat_one (h1 : ∀ x, ∀ v ∈ enc x, v.oneCell' = true) (l : List α) : ∀ u ∈ flat enc l, u.oneCell' = true := fun u hu => by
  obtain ⟨x, _, hx⟩ := List.mem_flatMap.1 hu
  exact h1 x u hx
theorem range_flat (hk : ∀ x, (enc x).length = k) (l : List α) : (List.range (l.length * k)).map (fun j => (flat enc l)[j]?.getD undef) = flat enc l := by
  have hl := flat_length hk l
  apply List.ext_getElem
  · simp [hl]
  · intro j h1 h2
    simp [List.getElem?_eq_getElem h2]
theorem getD_one (h1 : ∀ x, ∀ v ∈ enc x, v.oneCell' = true) (hk : ∀ x, (enc x).length = k) (l : List α) : ∀ j, j < l.length * k → ((flat enc l)[j]?.getD undef).oneCell' = true := fun j hj => by
  have hl : j < (flat enc l).length := by rw [flat_length hk]; exact hj
  rw [List.getElem?_eq_getElem hl, Option.getD_some]
  exact flat_one h1 l _ (List.getElem_mem hl)
/-- A row of the call's own, as a row to be read. -/
theorem Own.row (hk : ∀ x, (enc x).length = k) {w : World} {B : Nat} {e : TypeId} {c : Nat} {A : Option Addr} {l m : List α} {n : Nat} (h : Own w B e k A n c (flat enc (l ++ m))) (hn : n = l.length + m.length) : Row enc k w w.heap.size A l := by
  subst hn
  have := (Rd.take h.rd (m := l.length * k) (by rw [Nat.add_mul]; omega))
  refine Rd.congr this fun j hj => ?_
  rw [flat_append, List.getElem?_append_left (by rw [flat_length hk]; exact hj)]
end
theorem Row.at {α : Type} {enc : α → List Value} {k : Nat} {w : World} {B : Nat} {A : Option Addr} {l : List α} (h : Row enc k w B A l) {n : Nat} (hn : l.length = n) : Rd w B A (n * k) (fun j => (flat enc l)[j]?.getD undef) := by
  subst hn
  exact h
theorem encP_one (x : PartT) : ∀ v ∈ encP x, v.oneCell' = true := fun v hv => by
  simp only [encP, List.mem_append, List.mem_singleton] at hv
  rcases hv with hv | rfl
  · exact u8s_one v hv
  · rfl
theorem encI_one (x : ItemT) : ∀ v ∈ encI x, v.oneCell' = true := fun v hv => by
  simp only [encI, List.mem_append, List.mem_cons, List.not_mem_nil, or_false] at hv
  rcases hv with (rfl | rfl | rfl) | hv
  · rfl
  · rfl
  · rfl
  · exact u8s_one v hv
theorem encK_one (x : Key32) : ∀ v ∈ encK x, v.oneCell' = true := fun v hv => u8s_one v hv
theorem ocells_one (o : ObjT) (p : Lay) : ∀ v ∈ ocells o p, v.oneCell' = true := fun v hv => by
  simp only [ocells, List.mem_append, List.mem_cons, List.not_mem_nil, or_false] at hv
  rcases hv with rfl | rfl | rfl | rfl | hv | rfl | rfl | rfl
  · rfl
  · rfl
  · rfl
  · rfl
  · exact u8s_one v hv
  · rfl
  · rfl
  · rfl
end Go.Proofs.YtkjndgapejbgcaaDoor

namespace Go.Proofs.YtkjndgapejbgcaaDoor
open Go.RowKit
set_option linter.unusedSimpArgs false

def oZ : ObjT := ⟨0, [], [], [], zK, [], 0, ⟨#[]⟩⟩
def pZ : Lay := ⟨none, none, none, none, 0, 0, 0, 0⟩
theorem zeroO (w : World) : (zeroValue 31).run Tryd.prog w = .ok (.agg (ocells oZ pZ).toArray) w :=
  (zero_of_info (P := Tryd.prog) (t := 31) (v := .agg (ocells oZ pZ).toArray) (n := 39) (by kernel_rfl)).1 w

section
variable {w w' : World} {g : Nat} {o : ObjT} {p : Lay}
theorem OBlk.fz (h : OBlk w g o p) (j : Nat) : w.frozen? ⟨g, j, none⟩ = false := by simp [World.frozen?, h]
theorem OBlk.setD (h : OBlk w g o p) (A : Option Addr) (n c : Nat) (hn : n = o.data.length) : OBlk (w.setCell ⟨g, 1, none⟩ (.slice A n c)) g o { p with Ad := A, cd := c } := by
  subst hn
  have := heap_setCell_same w g 1 _ _ (.slice A o.data.length c) h
  unfold OBlk
  rw [this]
  simp [ocells]
theorem OBlk.setP (h : OBlk w g o p) (A : Option Addr) (n c : Nat) (hn : n = o.parts.length) : OBlk (w.setCell ⟨g, 2, none⟩ (.slice A n c)) g o { p with Ap := A, cp := c } := by
  subst hn
  have := heap_setCell_same w g 2 _ _ (.slice A o.parts.length c) h
  unfold OBlk
  rw [this]
  simp [ocells]
theorem OBlk.setI (h : OBlk w g o p) (A : Option Addr) (n c : Nat) (hn : n = o.items.length) : OBlk (w.setCell ⟨g, 3, none⟩ (.slice A n c)) g o { p with Ai := A, ci := c } := by
  subst hn
  have := heap_setCell_same w g 3 _ _ (.slice A o.items.length c) h
  unfold OBlk
  rw [this]
  simp [ocells]
theorem OBlk.setK (h : OBlk w g o p) (A : Option Addr) (n c : Nat) (hn : n = o.parents.length) : OBlk (w.setCell ⟨g, 36, none⟩ (.slice A n c)) g o { p with Ak := A, ck := c } := by
  subst hn
  have := heap_setCell_same w g 36 _ _ (.slice A o.parents.length c) h
  unfold OBlk
  rw [this]
  have h32 : (u8s o.tree.1).length = 32 := by simp [u8s, o.tree.2]
  simp only [ocells, List.setIfInBounds_toArray, List.set_cons_succ]
  rw [List.set_append_right _ _ (by omega), h32]
  rfl
theorem OBlk.far (h : OBlk w g o p) {a : Addr} (hp : g ≠ a.block) (u : Value) : OBlk (w.setCell a u) g o p := (heap_setCell_other w a g u hp).trans h
end

theorem setRow_below {B : Nat} {a w : World} (h : Below B a w) {g : Nat} (hg : B ≤ g) (cs : Array Value) : Below B a (w.setRow g cs) :=
  h.trans ⟨rfl, rfl, rfl, by simp, fun k hk => setRow_other _ _ _ _ (by omega)⟩

/-- What stands behind an object's lists that have been copied: of the first k of the four. -/
structure LentK (wr : World) (B : Nat) (o : ObjT) (p : Lay) (k : Nat) : Prop where
  d : 1 ≤ k → Own wr B 5 1 p.Ad (o.data.length + 70) p.cd (u8s (marked o.data 70))
  ps : 2 ≤ k → Own wr B 47 33 p.Ap (o.parts.length + 2) p.cp (flat encP (o.parts ++ [mkP, mkP]))
  xs : 3 ≤ k → Own wr B 50 35 p.Ai (o.items.length + 2) p.ci (flat encI (o.items ++ [mkI, mkI]))
  ks : 4 ≤ k → Own wr B 28 32 p.Ak (o.parents.length + 2) p.ck (flat encK (o.parents ++ [mkK, mkK]))
structure DisK (A : Option Addr) (p : Lay) (k : Nat) : Prop where
  d : 1 ≤ k → Dis A p.Ad
  ps : 2 ≤ k → Dis A p.Ap
  xs : 3 ≤ k → Dis A p.Ai
  ks : 4 ≤ k → Dis A p.Ak
theorem DisK.none (p : Lay) (k : Nat) : DisK none p k := by
  refine ⟨fun _ => ?_, fun _ => ?_, fun _ => ?_, fun _ => ?_⟩ <;> (intro j hj; cases hj)
section
variable {wr w' : World} {B : Nat} {o : ObjT} {p : Lay} {k : Nat} {A A' : Option Addr}
theorem LentK.app (h : LentK wr B o p k) (ha : AppAt wr w' A A') (hd : DisK A p k) : LentK w' B o p k ∧ DisK A' p k :=
  ⟨⟨fun c => ha.other (h.d c) (hd.d c), fun c => ha.other (h.ps c) (hd.ps c), fun c => ha.other (h.xs c) (hd.xs c), fun c => ha.other (h.ks c) (hd.ks c)⟩,
   ⟨fun c => ha.dis (h.d c) (hd.d c), fun c => ha.dis (h.ps c) (hd.ps c), fun c => ha.dis (h.xs c) (hd.xs c), fun c => ha.dis (h.ks c) (hd.ks c)⟩⟩
theorem LentK.far (h : LentK wr B o p k) {a : Addr} (hp : a.block < B) (u : Value) : LentK (wr.setCell a u) B o p k :=
  ⟨fun c => (h.d c).setFar hp u, fun c => (h.ps c).setFar hp u, fun c => (h.xs c).setFar hp u, fun c => (h.ks c).setFar hp u⟩
theorem LentK.setRow (h : LentK wr B o p k) {g : Nat} (hp : g < B) (cs : Array Value) : LentK (wr.setRow g cs) B o p k := by
  have key : ∀ {e : TypeId} {size n c : Nat} {A : Option Addr} {xs : List Value}, Own wr B e size A n c xs → Own (wr.setRow g cs) B e size A n c xs := fun {e size n c A xs} ho => by
    refine ⟨ho.1, ?_⟩
    rcases ho.2 with h2 | ⟨g2, cap, cur, hv, hg, hh, r⟩
    · exact Or.inl h2
    · exact Or.inr ⟨g2, cap, cur, hv, hg, (setRow_other wr g g2 _ (by omega)).trans hh, r⟩
  exact ⟨fun c => key (h.d c), fun c => key (h.ps c), fun c => key (h.xs c), fun c => key (h.ks c)⟩
theorem LentK.below (h : LentK wr B o p k) (hb : Below wr.heap.size wr w') : LentK w' B o p k :=
  ⟨fun c => (h.d c).below hb fun j hj => ((h.d c).lt j hj).2, fun c => (h.ps c).below hb fun j hj => ((h.ps c).lt j hj).2, fun c => (h.xs c).below hb fun j hj => ((h.xs c).lt j hj).2, fun c => (h.ks c).below hb fun j hj => ((h.ks c).lt j hj).2⟩
theorem LentK.base {B' : Nat} (h : LentK wr B o p k) (hB : B' ≤ B) : LentK wr B' o p k :=
  ⟨fun c => (h.d c).base hB, fun c => (h.ps c).base hB, fun c => (h.xs c).base hB, fun c => (h.ks c).base hB⟩
theorem LentK.objIn (h : LentK wr B o p 4) : ObjIn wr wr.heap.size o p := by
  refine ⟨?_, Own.row encP_length (h.ps (by omega)) rfl, Own.row encI_length (h.xs (by omega)) rfl, Own.row encK_length (h.ks (by omega)) rfl⟩
  have h1 := (h.d (by omega)).byt
  have := Rd.take h1 (m := o.data.length) (by rw [marked_length]; omega)
  refine Rd.congr this fun j hj => ?_
  rw [marked, List.getElem?_append_left hj]
end

/-- What stands while the copy is made. -/
structure CSt (w wr : World) (o : ObjT) (p : Lay) (k : Nat) : Prop where
  bel : Below w.heap.size w wr
  blk : OBlk wr w.heap.size o p
  res : OBlk wr (w.heap.size + 1) oZ pZ
  own : LentK wr (w.heap.size + 2) o p k
theorem CSt.le {w wr : World} {o : ObjT} {p : Lay} {k : Nat} (h : CSt w wr o p k) : w.heap.size + 2 ≤ wr.heap.size := lt_of_block h.res
theorem CSt.app {w wr w' : World} {o : ObjT} {p : Lay} {k : Nat} {A A' : Option Addr} (h : CSt w wr o p k) (ha : AppAt wr w' A A') (hb : Below (w.heap.size + 2) wr w') (hd : DisK A p k) : CSt w w' o p k ∧ DisK A' p k :=
  ⟨⟨h.bel.trans (hb.mono (by omega)), h.blk.below hb (by omega), h.res.below hb (by omega), (h.own.app ha hd).1⟩, (h.own.app ha hd).2⟩
theorem CSt.start {w : World} {o : ObjT} {p : Lay} : CSt w ((w.alloc (.cells (ocells o p).toArray 31)).alloc (.cells (ocells oZ pZ).toArray 31)) o p 0 :=
  ⟨((Below.refl _ _).alloc (Nat.le_refl _) _).alloc (by simp) _, heap_alloc2_old w _ _, heap_alloc2_new w _ _, ⟨fun c => by omega, fun c => by omega, fun c => by omega, fun c => by omega⟩⟩
theorem CSt.setD {w wr w1 : World} {o : ObjT} {p : Lay} (h : CSt w wr o p 0) (hb : Below (w.heap.size + 2) wr w1) {A : Option Addr} {n c : Nat} (hn : n = o.data.length) (ho : Own w1 (w.heap.size + 2) 5 1 A (o.data.length + 70) c (u8s (marked o.data 70))) :
    CSt w (w1.setCell ⟨w.heap.size, 1, none⟩ (.slice A n c)) o { p with Ad := A, cd := c } 1 :=
  ⟨(h.bel.trans (hb.mono (by omega))).setCell (p := ⟨w.heap.size, 1, none⟩) (Nat.le_refl _) _, (h.blk.below hb (by omega)).setD A n c hn, (h.res.below hb (by omega)).far (by simp) _, ⟨fun _ => ho.setFar (by simp) _, fun c => by omega, fun c => by omega, fun c => by omega⟩⟩
theorem CSt.setP {w wr : World} {o : ObjT} {p : Lay} (h : CSt w wr o p 1) {A : Option Addr} {n c : Nat} (hn : n = o.parts.length) (ho : Own wr (w.heap.size + 2) 47 33 A (o.parts.length + 2) c (flat encP (o.parts ++ [mkP, mkP]))) :
    CSt w (wr.setCell ⟨w.heap.size, 2, none⟩ (.slice A n c)) o { p with Ap := A, cp := c } 2 :=
  ⟨h.bel.setCell (p := ⟨w.heap.size, 2, none⟩) (Nat.le_refl _) _, h.blk.setP A n c hn, h.res.far (by simp) _, ⟨fun c => (h.own.d (by omega)).setFar (by simp) _, fun _ => ho.setFar (by simp) _, fun c => by omega, fun c => by omega⟩⟩
theorem CSt.setI {w wr : World} {o : ObjT} {p : Lay} (h : CSt w wr o p 2) {A : Option Addr} {n c : Nat} (hn : n = o.items.length) (ho : Own wr (w.heap.size + 2) 50 35 A (o.items.length + 2) c (flat encI (o.items ++ [mkI, mkI]))) :
    CSt w (wr.setCell ⟨w.heap.size, 3, none⟩ (.slice A n c)) o { p with Ai := A, ci := c } 3 :=
  ⟨h.bel.setCell (p := ⟨w.heap.size, 3, none⟩) (Nat.le_refl _) _, h.blk.setI A n c hn, h.res.far (by simp) _, ⟨fun c => (h.own.d (by omega)).setFar (by simp) _, fun c => (h.own.ps (by omega)).setFar (by simp) _, fun _ => ho.setFar (by simp) _, fun c => by omega⟩⟩
theorem CSt.setK {w wr : World} {o : ObjT} {p : Lay} (h : CSt w wr o p 3) {A : Option Addr} {n c : Nat} (hn : n = o.parents.length) (ho : Own wr (w.heap.size + 2) 28 32 A (o.parents.length + 2) c (flat encK (o.parents ++ [mkK, mkK]))) :
    CSt w (wr.setCell ⟨w.heap.size, 36, none⟩ (.slice A n c)) o { p with Ak := A, ck := c } 4 :=
  ⟨h.bel.setCell (p := ⟨w.heap.size, 36, none⟩) (Nat.le_refl _) _, h.blk.setK A n c hn, h.res.far (by simp) _, ⟨fun c => (h.own.d (by omega)).setFar (by simp) _, fun c => (h.own.ps (by omega)).setFar (by simp) _, fun c => (h.own.xs (by omega)).setFar (by simp) _, fun _ => ho.setFar (by simp) _⟩⟩
end Go.Proofs.YtkjndgapejbgcaaDoor

namespace Go.Proofs.YtkjndgapejbgcaaDoor
open Go.RowKit
set_option linter.unusedSimpArgs false

def kidsL (o : ObjT) : List Key32 := if o.kind = 2 then o.parts.map (·.1) else if o.kind = 3 then o.items.map (·.2.2.2) else if o.kind = 4 then o.tree :: o.parents else []
theorem zeroP (w : World) : (zeroValue 47).run Tryd.prog w = .ok (.agg (encP (zK, 0)).toArray) w :=
  (zero_of_info (P := Tryd.prog) (t := 47) (v := .agg (encP (zK, 0)).toArray) (n := 33) (by kernel_rfl)).1 w
theorem zeroI (w : World) : (zeroValue 50).run Tryd.prog w = .ok (.agg (encI (⟨#[]⟩, 0, 0, zK)).toArray) w :=
  (zero_of_info (P := Tryd.prog) (t := 50) (v := .agg (encI (⟨#[]⟩, 0, 0, zK)).toArray) (n := 35) (by kernel_rfl)).1 w
theorem built1 (x : Key32) : Tryd.prog.builtSlice 28 1 [(0, .agg (encK x).toArray)] = some (encK x).toArray := by
  obtain ⟨i, hi, hz0, hz1, _⟩ := info_parts elK.hi
  unfold Program.builtSlice
  simp only [hi, hz0, hz1]
  rw [if_neg (by decide)]
  refine Eq.trans (b := some (([Value.agg (encK x).toArray]).flatMap fun v => v.cells.toList).toArray) (Great.fill_whole (s := 32) (by decide) [.agg (encK x).toArray] _ ?_ ?_) ?_
  · intro v hv
    simp at hv
    subst hv
    simp [Value.cells, encK_length]
  · simp
  · simp [Value.cells]
theorem elemK_ok (n : Nat) (h : n * 32 ≤ 140737488355328) : n + 1 ≤ maxLen ∧ (n + 1 + (n + 1) / 4 + 192) * 32 ≤ 281474976710656 := by
  unfold maxLen
  constructor <;> omega
theorem take_map {α β : Type} (f : α → β) {l : List α} {k : Nat} {x : α} (hk : k < l.length) (hx : l[k] = x) : (l.take (k + 1)).map f = (l.take k).map f ++ [f x] := by
  rw [List.take_succ_eq_append_getElem hk, hx, List.map_append]
  rfl
theorem encP_key (x : PartT) : ∀ (j : Nat) (v : Value), (encK x.1)[j]? = some v → (encP x)[j]? = some v := fun j v hv => by
  have h : j < (u8s x.1.1).length := (List.getElem?_eq_some_iff.1 hv).1
  unfold encP
  rw [List.getElem?_append_left h]
  exact hv
theorem encI_key (x : ItemT) : ∀ (j : Nat) (v : Value), (encK x.2.2.2)[j]? = some v → (encI x)[3 + j]? = some v := fun j v hv => by
  unfold encI
  rw [List.getElem?_append_right (by simp)]
  simpa [encK] using hv
/-- What stands while kids are told. -/
structure KSt (w wr : World) (o : ObjT) (p : Lay) : Prop where
  bel : Below w.heap.size w wr
  blk : OBlk wr w.heap.size o p
theorem KSt.below {w wr w' : World} {o : ObjT} {p : Lay} (h : KSt w wr o p) (hb : Below (w.heap.size + 1) wr w') : KSt w w' o p := ⟨h.bel.trans (hb.mono (by omega)), h.blk.below hb (by omega)⟩
theorem KSt.le {w wr : World} {o : ObjT} {p : Lay} (h : KSt w wr o p) : w.heap.size + 1 ≤ wr.heap.size := lt_of_block h.blk
theorem KSt.start {w : World} {o : ObjT} {p : Lay} : KSt w (w.alloc (.cells (ocells o p).toArray 31)) o p := ⟨(Below.refl _ _).alloc (Nat.le_refl _) _, heap_alloc_new w _⟩
/-- An element copied into a block of its own. -/
theorem row_new (w : World) (t : TypeId) (z x : Array Value) : ((w.alloc (.cells z t)).setRow w.heap.size x).heap[w.heap.size]? = some (.cells x t (0, 0)) ∧ ∀ B, B ≤ w.heap.size → Below B w ((w.alloc (.cells z t)).setRow w.heap.size x) :=
  ⟨setRow_heap _ w.heap.size _ _ _ _ (heap_alloc_new w _), fun _ hB => setRow_below ((Below.refl _ _).alloc hB _) hB _⟩
theorem range_of {w : World} {g : Nat} {cs : List Value} {t : TypeId} (h : w.heap[g]? = some (.cells cs.toArray t (0, 0))) {k : Nat} {ks : List Value} (hk : ∀ (j : Nat) (v : Value), ks[j]? = some v → cs[k + j]? = some v) : w.rangeAt g k ks := fun j v hv => by
  rw [cell_of_row _ _ _ _ _ _ h]
  simpa using hk j v hv

end Go.Proofs.YtkjndgapejbgcaaDoor

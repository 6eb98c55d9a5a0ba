/- The document's decoder in memory: its small methods. The document's decoder: Var. (Printed by tools/genrdecv.py.) The document's decoder: Raw, Text, Key, Fixed, Open. -/
import Derived.Test.YtkjndgapejbgcaaDoorPkD36
import Derived.StillTailTactics

namespace Go.Proofs.YtkjndgapejbgcaaDoor
open Go.RowKit
set_option linter.unusedSimpArgs false
set_option linter.unusedVariables false

/-- The document's decoder in block g. -/
structure RDecB (w : World) (g : Nat) (A : Option Addr) (c : Nat) (l : List Nat) (k : Nat) (st : Bool) (x y : Int) : Prop where
  blk : w.heap[g]? = some (.cells #[.slice A l.length c, .int .i64 (k : Int), .bool st, .int .i64 x, .int .i64 y] 116 (0, 0))
  byt : Byt w w.heap.size A l
  off : blockOf A ≠ some g
  le : k ≤ l.length
  cap : l.length ≤ c ∧ l.length ≤ 140737488355328
  lt : ∀ x ∈ l, x < 256
  ab : ∀ j, blockOf A = some j → j < w.heap.size
def RDecS (w : World) (g : Nat) (A : Option Addr) (c : Nat) (l : List Nat) : DSt → Prop
  | some k => ∃ x y, RDecB w g A c l k false x y
  | none => ∃ k x y, RDecB w g A c l k true x y ∧ y ≠ 0
section
variable {w w' : World} {g c k k' : Nat} {A : Option Addr} {l : List Nat} {s : DSt} {st : Bool} {x y : Int}
theorem RDecB.gl (h : RDecB w g A c l k st x y) : g < w.heap.size := lt_of_block h.blk
theorem RDecB.c0 (h : RDecB w g A c l k st x y) : w.cell? ⟨g, 0, none⟩ = some (.slice A l.length c) := cell_of_row _ _ _ _ _ _ h.blk
theorem RDecB.c1 (h : RDecB w g A c l k st x y) : w.cell? ⟨g, 1, none⟩ = some (.int .i64 (k : Int)) := cell_of_row _ _ _ _ _ _ h.blk
theorem RDecB.c2 (h : RDecB w g A c l k st x y) : w.cell? ⟨g, 2, none⟩ = some (.bool st) := cell_of_row _ _ _ _ _ _ h.blk
theorem RDecB.c3 (h : RDecB w g A c l k st x y) : w.cell? ⟨g, 3, none⟩ = some (.int .i64 x) := cell_of_row _ _ _ _ _ _ h.blk
theorem RDecB.c4 (h : RDecB w g A c l k st x y) : w.cell? ⟨g, 4, none⟩ = some (.int .i64 y) := cell_of_row _ _ _ _ _ _ h.blk
theorem RDecB.fz (h : RDecB w g A c l k st x y) (j : Nat) : w.frozen? ⟨g, j, none⟩ = false := by simp [World.frozen?, h.blk]
/-- Another block written over, or grown. -/
theorem RDecB.grown (h : RDecB w g A c l k st x y) {row : Option Nat} (hg : w.grownBy w' row) (h1 : row ≠ some g) (h2 : ∀ N, row = some N → blockOf A ≠ some N) : RDecB w' g A c l k st x y := by
  refine ⟨(hg.block g h.gl (fun e => h1 e.symm)).trans h.blk, fun hn => ?_, h.off, h.le, h.cap, h.lt, fun j hj => Nat.lt_of_lt_of_le (h.ab j hj) hg.size⟩
  obtain ⟨b, off, e, hb, hc⟩ := h.byt hn
  have hb2 : some b ≠ row := fun e2 => h2 b e2.symm (by rw [e]; rfl)
  exact ⟨b, off, e, Nat.lt_of_lt_of_le hb hg.size, fun j hj => (World.cell?_of_block (hg.block b hb hb2)).trans (hc j hj)⟩
theorem RDecB.keep (h : RDecB w g A c l k st x y) (hb : Below w.heap.size w w') : RDecB w' g A c l k st x y :=
  h.grown (row := none) ⟨hb.os, hb.tape, hb.output, hb.size, fun j hj _ => hb.block j hj⟩ (by simp) (by simp)
theorem RDecB.drewN (h : RDecB w g A c l k st x y) (n : Nat) : RDecB (w.drewN n) g A c l k st x y := h.keep (below_drewN (Below.refl _ _) n)
/-- A cell of its own written over. -/
theorem RDecB.set (h : RDecB w g A c l k st x y) (j : Nat) (v : Value) {k' : Nat} {st' : Bool} {x' y' : Int} (hk : k' ≤ l.length)
    (hv : (#[.slice A l.length c, .int .i64 (k : Int), .bool st, .int .i64 x, .int .i64 y] : Array Value).setIfInBounds j v = #[.slice A l.length c, .int .i64 (k' : Int), .bool st', .int .i64 x', .int .i64 y']) :
    RDecB (w.setCell ⟨g, j, none⟩ v) g A c l k' st' x' y' ∧ w.grownBy (w.setCell ⟨g, j, none⟩ v) (some g) := by
  have h1 := heap_setCell_same w g j _ _ v h.blk
  exact ⟨⟨by rw [h1, hv], h.byt.far (grown_set _ _ _ _) h.off, h.off, hk, h.cap, h.lt, fun i hi => by have := h.ab i hi; simpa using this⟩, grown_set _ _ _ _⟩
theorem RDecS.gl (h : RDecS w g A c l s) : g < w.heap.size := by
  cases s with
  | some k => obtain ⟨_, _, h⟩ := h; exact h.gl
  | none => obtain ⟨_, _, _, h, _⟩ := h; exact h.gl
theorem RDecS.ab (h : RDecS w g A c l s) : ∀ j, blockOf A = some j → j < w.heap.size := by
  cases s with
  | some k => obtain ⟨_, _, h⟩ := h; exact h.ab
  | none => obtain ⟨_, _, _, h, _⟩ := h; exact h.ab
theorem RDecS.lt (h : RDecS w g A c l s) : ∀ x ∈ l, x < 256 := by
  cases s with
  | some k => obtain ⟨_, _, h⟩ := h; exact h.lt
  | none => obtain ⟨_, _, _, h, _⟩ := h; exact h.lt
theorem RDecS.cap (h : RDecS w g A c l s) : l.length ≤ c ∧ l.length ≤ 140737488355328 := by
  cases s with
  | some k => obtain ⟨_, _, h⟩ := h; exact h.cap
  | none => obtain ⟨_, _, _, h, _⟩ := h; exact h.cap
theorem RDecS.grown (h : RDecS w g A c l s) {row : Option Nat} (hg : w.grownBy w' row) (h1 : row ≠ some g) (h2 : ∀ N, row = some N → blockOf A ≠ some N) : RDecS w' g A c l s := by
  cases s with
  | some k => obtain ⟨x, y, h⟩ := h; exact ⟨x, y, h.grown hg h1 h2⟩
  | none => obtain ⟨k, x, y, h, hy⟩ := h; exact ⟨k, x, y, h.grown hg h1 h2, hy⟩
theorem RDecS.keep (h : RDecS w g A c l s) (hb : Below w.heap.size w w') : RDecS w' g A c l s :=
  h.grown (row := none) ⟨hb.os, hb.tape, hb.output, hb.size, fun j hj _ => hb.block j hj⟩ (by simp) (by simp)
theorem RDecS.c2 (h : RDecS w g A c l s) : w.cell? ⟨g, 2, none⟩ = some (.bool s.isNone) := by
  cases s with
  | some k => obtain ⟨_, _, h⟩ := h; exact h.c2
  | none => obtain ⟨_, _, _, h, _⟩ := h; exact h.c2
end

theorem rstop_any {w : World} {g c k : Nat} {A : Option Addr} {l : List Nat} {st : Bool} {x y : Int} (h : RDecB w g A c l k st x y) (a b : Int) :
    Calls Tryd.prog 105 #[.pointer (some ⟨g, 0, none⟩), .int .i64 a, .int .i64 b] w fun e w' => (∃ v, e = .returned v) ∧ RDecB w' g A c l k true a b ∧ w.grownBy w' (some g) := by
  have c2 := h.c2
  have f2 := h.fz 2
  have h1 := h.set 2 (.bool true) (k' := k) (st' := true) (x' := x) (y' := y) h.le rfl
  have c3 := h.c3
  have f3 := h.fz 3
  have h2 := h1.1.set 3 (.int .i64 a) (k' := k) (st' := true) (x' := a) (y' := y) h.le rfl
  have c4 := h.c4
  have f4 := h.fz 4
  have h3 := h2.1.set 4 (.int .i64 b) (k' := k) (st' := true) (x' := a) (y' := b) h.le rfl
  have hh := Lib.hid (show _ ∧ _ from ⟨h3.1, (h1.2.trans h2.2).trans h3.2⟩)
  clear h1 h2 h3 h
  go_enter Tryd.func105, Tryd.ntmps105
  go_wp2_with fail
  go_end0
  exact ⟨⟨_, rfl⟩, hh.out⟩
theorem rleft_any {w : World} {g c : Nat} {A : Option Addr} {l : List Nat} {s : DSt} (h : RDecS w g A c l s) :
    Calls Tryd.prog 92 #[.pointer (some ⟨g, 0, none⟩)] w fun e w' => e = .returned (.int .i64 (leftM l.length s : Nat)) ∧ ∃ n, w' = w.drewN n := by
  have c2 := h.c2
  cases s with
  | none =>
    clear h
    go_enter Tryd.func92, Tryd.ntmps92
    go_wp2_with fail
    go_ret
    exact ⟨rfl, 0, rfl⟩
  | some k =>
    obtain ⟨x, y, h⟩ := h
    obtain ⟨n, hn⟩ : ∃ n, Hid (∀ _ : Unit, l.length = n) := ⟨_, Lib.hid fun _ => rfl⟩
    have c0 := h.c0
    have c1 := h.c1
    have hle := h.le
    have hcap := h.cap
    rw [hn.out ()] at c0 hle hcap ⊢
    have hw := IntWalk.i64_in (n - k : Int) (by omega)
    have h0 : (0 : Int) ≤ (n - k : Int) := by omega
    have hsub : ((n - k : Nat) : Int) = (n : Int) - k := by omega
    have hsub' := Lib.hid hsub
    clear h hsub
    go_enter Tryd.func92, Tryd.ntmps92
    go_wp2_with fail
    go_quiet (fail)
    go_wp2_with fail
    go_ret
    exact ⟨ret_int (by unfold leftM; exact hsub'.out.symm), _, rfl⟩
/-- End's second answer: nought just where all was taken. -/
def REndPost (w : World) (l : List Nat) (s : DSt) (e : Ending) (w' : World) : Prop :=
  (∃ x y : Int, e = .returned (.tuple #[.int .i64 x, .int .i64 y]) ∧ (y = 0 ↔ s = some l.length)) ∧ ∃ n, w' = w.drewN n
theorem rend_some {w : World} {g c k : Nat} {A : Option Addr} {l : List Nat} {x y : Int} (h : RDecB w g A c l k false x y) :
    Calls Tryd.prog 53 #[.pointer (some ⟨g, 0, none⟩)] w (REndPost w l (some k)) := by
  obtain ⟨L, hL⟩ : ∃ n, Hid (∀ _ : Unit, l.length = n) := ⟨_, Lib.hid fun _ => rfl⟩
  have c0 := h.c0
  have c1 := h.c1
  have c2 := h.c2
  have hle := h.le
  have hcap := h.cap
  rw [hL.out ()] at c0 hle hcap
  clear h
  by_cases hk : k = L
  · have hkk := Lib.hid (show (some k : DSt) = some l.length by rw [hL.out (), hk])
    subst hk
    have hd : decide ((k : Int) < (k : Int)) = false := by simp
    go_enter Tryd.func53, Tryd.ntmps53
    go_wp2_with fail
    go_quiet (fail)
    go_wp2_with fail
    go_ret2
    exact ⟨⟨_, _, rfl, by constructor <;> intro _ <;> first | exact hkk.out | rfl⟩, _, rfl⟩
  · have hkk := Lib.hid (show ¬ (some k : DSt) = some l.length by rw [hL.out ()]; simpa using hk)
    have hlt : k < L := by omega
    have hlt2 : (k : Int) < (L : Int) := by omega
    clear hk
    go_enter Tryd.func53, Tryd.ntmps53
    go_wp2_with fail
    go_quiet (fail)
    go_wp2_with fail
    go_ret2
    exact ⟨⟨_, _, rfl, fun e => absurd e (by decide), fun e => absurd e hkk.out⟩, _, rfl⟩
theorem rend_none {w : World} {g c : Nat} {A : Option Addr} {l : List Nat} (h : RDecS w g A c l none) :
    Calls Tryd.prog 53 #[.pointer (some ⟨g, 0, none⟩)] w (REndPost w l none) := by
  obtain ⟨k, x, y, h, hy⟩ := h
  have c2 := h.c2
  have c3 := h.c3
  have c4 := h.c4
  have hy' := Lib.hid hy
  clear h hy
  go_enter Tryd.func53, Tryd.ntmps53
  go_wp2_with fail
  go_quiet (fail)
  go_wp2_with fail
  go_ret2
  exact ⟨⟨_, _, rfl, fun e => absurd e hy'.out, fun e => absurd e (by simp)⟩, _, rfl⟩
theorem rend_any {w : World} {g c : Nat} {A : Option Addr} {l : List Nat} {s : DSt} (h : RDecS w g A c l s) :
    Calls Tryd.prog 53 #[.pointer (some ⟨g, 0, none⟩)] w (REndPost w l s) := by
  cases s with
  | none => exact rend_none h
  | some k => obtain ⟨x, y, h⟩ := h; exact rend_some h
end Go.Proofs.YtkjndgapejbgcaaDoor

namespace Go.Proofs.YtkjndgapejbgcaaDoor
open Go.RowKit
set_option linter.unusedSimpArgs false
set_option linter.unusedVariables false

def RVarPost (w : World) (g : Nat) (A : Option Addr) (c : Nat) (l : List Nat) (r : Nat × DSt) (e : Ending) (w' : World) : Prop :=
  e = .returned (.int .u64 (r.1 : Int)) ∧ RDecS w' g A c l r.2 ∧ w.grownBy w' (some g)
set_option maxRecDepth 20000 in
set_option maxHeartbeats 8000000 in
theorem rvard_go {w : World} {g c k : Nat} {A : Option Addr} {l : List Nat} {x0 y0 : Int} (h : RDecB w g A c l k false x0 y0) (most : Nat) (hm : most < 18446744073709551616) :
    Calls Tryd.prog 93 #[.pointer (some ⟨g, 0, none⟩), .int .u64 (most : Int)] w (RVarPost w g A c l (varM l most (some k))) := by
  have h' := Lib.hid h
  obtain ⟨L, hL⟩ : ∃ n, Hid (∀ _ : Unit, l.length = n) := ⟨_, Lib.hid fun _ => rfl⟩
  obtain ⟨R, hR⟩ : ∃ R, Hid (varG most 10 0 0 (l.drop k) = R) := ⟨_, Lib.hid rfl⟩
  obtain ⟨M, hM⟩ : ∃ M, Hid (∀ _ : Unit, varM l most (some k) = M) := ⟨_, Lib.hid fun _ => rfl⟩
  have hno : Hid (R = none → M = (0, none)) := Lib.hid fun hr => by
    rw [← hM.out ()]
    unfold varM
    simp only
    rw [hR.out, hr]
  have hyes : Hid (∀ x n, R = some (x, n) → M = (x, some (k + n))) := Lib.hid fun x n hr => by
    rw [← hM.out ()]
    unfold varM
    simp only
    rw [hR.out, hr]
  rw [hM.out ()]
  have c0 := h.c0
  have c1 := h.c1
  have c2 := h.c2
  have f1 := h.fz 1
  have hle := h.le
  have hcap := h.cap
  rw [hL.out ()] at c0 hle hcap
  have hst := Lib.hid (fun (q : Nat) (x y : Int) => rstop_any (h.drewN q) x y)
  have hmv : Hid (∀ (q k' : Nat) (K : Int), K = (k' : Int) → k' ≤ l.length → RDecB ((w.drewN q).setCell ⟨g, 1, none⟩ (.int .i64 K)) g A c l k' false x0 y0 ∧ w.grownBy ((w.drewN q).setCell ⟨g, 1, none⟩ (.int .i64 K)) (some g)) := Lib.hid fun q k' K hK hk' => by
    subst hK
    have := (h.drewN q).set 1 (.int .i64 (k' : Int)) (k' := k') (st' := false) (x' := x0) (y' := y0) hk' rfl
    exact ⟨this.1, (grown_drewN w q _).trans this.2⟩
  clear h
  go_enter Tryd.func93, Tryd.ntmps93
  go_wp2_with fail
  go_loopw [5, 6, 7] (fun vv sv iv wr => ∃ (i v q : Nat), i ≤ 9 ∧ k + i ≤ L ∧ iv = .int .i64 (i : Int) ∧ vv = .int .u64 (v : Int) ∧ sv = .int .u64 ((128 ^ i : Nat) : Int) ∧ Hid (varG most (10 - i) i v (l.drop (k + i)) = R ∧ v < 128 ^ i) ∧ Hid (wr = w.drewN q)) (fun _ _ iv _ => 10 - (intOf iv).toNat)
  case atStart => exact ⟨0, 0, 0, by omega, by omega, rfl, rfl, rfl, Lib.hid ⟨hR.out, by simp⟩, Lib.hid rfl⟩
  case round =>
    clear hR
    obtain ⟨i, v, q, hi, hkl, rfl, rfl, rfl, hR, hq⟩ := hrel
    obtain rfl := hq.out
    clear hq
    have wki : IntKind.i64.wrap ((k : Int) + (i : Int)) = (k : Int) + (i : Int) := IntWalk.i64_in _ (by omega)
    have hp9 : Hid (128 ^ i ≤ 9223372036854775808) := Lib.hid (by
      have h2 : 128 ^ i ≤ 128 ^ 9 := Nat.pow_le_pow_right (by decide) hi
      have h3 : (128 : Nat) ^ 9 = 9223372036854775808 := by decide
      omega)
    obtain ⟨S, hS⟩ : ∃ S : Nat, Hid (∀ _ : Unit, 128 ^ i = S) := ⟨_, Lib.hid fun _ => rfl⟩
    rw [hS.out ()] at hp9 ⊢
    have hp9 := hp9
    by_cases hend : k + i < L
    · obtain ⟨y, hy⟩ : ∃ y, Hid (l[k + i]? = some y) := by
        have : k + i < l.length := by rw [hL.out ()]; exact hend
        exact ⟨l[k + i], Lib.hid (List.getElem?_eq_getElem this)⟩
      have hy256 : y < 256 := h'.out.lt y (List.mem_of_getElem? hy.out)
      obtain ⟨b, off, hA, hb, hcel⟩ := (h'.out.drewN q).byt.get (k := k + i) (by rw [hL.out ()]; exact hend)
      rw [hy.out, Option.getD_some] at hcel
      replace hcel : w.cell? ⟨b, off + (k + i), none⟩ = some (.int .u8 (y : Int)) := hcel
      rw [hA] at c0
      have hA' := Lib.hid hA
      clear hA hb
      have e1 : (k : Int) + (i : Int) < (L : Int) := by omega
      have e2 : (0 : Int) ≤ (k : Int) + (i : Int) := by omega
      have e4 : ((k : Int) + (i : Int)).toNat = k + i := by omega
      have hstep := hR.out.1
      rw [show 10 - i = (9 - i) + 1 by omega, varG_step hy.out] at hstep
      have hRb := Lib.hid hR.out.2
      rw [hS.out ()] at hstep hRb
      clear hR
      by_cases h9 : i = 9
      · subst h9
        have e1 : (k : Int) + 9 < (L : Int) := e1
        have e2 : (0 : Int) ≤ (k : Int) + 9 := e2
        have e4 : ((k : Int) + 9).toNat = k + 9 := e4
        have wki : IntKind.i64.wrap ((k : Int) + 9) = (k : Int) + 9 := wki
        have wki1 : IntKind.i64.wrap ((k : Int) + 9 + 1) = (k : Int) + 9 + 1 := IntWalk.i64_in _ (by omega)
        by_cases hy1 : 1 < y
        · have hRn : Hid (R = none) := Lib.hid (by rw [if_pos ⟨rfl, hy1⟩] at hstep; exact hstep.symm)
          clear hstep
          have t2 : (1 : Int) < (y : Int) := by omega
          go_wp2_with fail
          go_quiet (fail)
          go_wp2_with fail
          go_quiet (fail)
          go_wp2_with fail
          refine (hst.out _ _ _).mono ?_
          rintro e w2 ⟨⟨v0, rfl⟩, h2, g2⟩
          have h2' := Lib.hid h2
          have g2' := Lib.hid ((grown_drewN w _ _).trans g2)
          clear h2 g2
          go_wp2_with fail
          go_ret
          have hM0 := hno.out hRn.out
          exact ⟨by rw [hM0]; rfl, by rw [hM0]; exact ⟨_, _, _, h2'.out, by decide⟩, g2'.out⟩
        · rw [if_neg (fun h => hy1 h.2), if_pos (show y < 128 by omega)] at hstep
          rcases (by omega : y = 0 ∨ y = 1) with rfl | rfl
          · have hRn : Hid (R = none) := Lib.hid (by rw [if_pos (Or.inl ⟨rfl, by decide⟩)] at hstep; exact hstep.symm)
            clear hstep
            replace hcel : w.cell? ⟨b, off + (k + 9), none⟩ = some (.int .u8 0) := hcel
            go_wp2_with fail
            go_quiet (fail)
            go_wp2_with fail
            go_quiet (fail)
            go_wp2_with fail
            refine (hst.out _ _ _).mono ?_
            rintro e w2 ⟨⟨v0, rfl⟩, h2, g2⟩
            have h2' := Lib.hid h2
            have g2' := Lib.hid ((grown_drewN w _ _).trans g2)
            clear h2 g2
            go_wp2_with fail
            go_ret
            have hM0 := hno.out hRn.out
            exact ⟨by rw [hM0]; rfl, by rw [hM0]; exact ⟨_, _, _, h2'.out, by decide⟩, g2'.out⟩
          · replace hcel : w.cell? ⟨b, off + (k + 9), none⟩ = some (.int .u8 1) := hcel
            obtain ⟨N, hNN⟩ : ∃ N, Hid (v + 1 * S = N) := ⟨_, Lib.hid rfl⟩
            have hor : IntKind.u64.wrap ((v : Int) + (S : Int)) = (N : Int) := by
              have h4 := hRb.out
              have h5 := hNN.out
              have h6 := hp9.out
              rw [IntKind.wrap_u64]
              omega
            have hor1 : IntKind.u64.wrap (S : Int) = (S : Int) := by have h6 := hp9.out; rw [IntKind.wrap_u64]; omega
            by_cases hmo : most < N
            · have hRn : Hid (R = none) := Lib.hid (by rw [if_pos (Or.inr (by rw [hNN.out]; exact hmo))] at hstep; exact hstep.symm)
              clear hstep
              have t8 : (most : Int) < (N : Int) := by omega
              go_wp2_with fail
              go_quiet (fail)
              go_wp2_with fail
              go_quiet (fail)
              go_wp2_with fail
              refine (hst.out _ _ _).mono ?_
              rintro e w2 ⟨⟨v0, rfl⟩, h2, g2⟩
              have h2' := Lib.hid h2
              have g2' := Lib.hid ((grown_drewN w _ _).trans g2)
              clear h2 g2
              go_wp2_with fail
              go_ret
              have hM0 := hno.out hRn.out
              exact ⟨by rw [hM0]; rfl, by rw [hM0]; exact ⟨_, _, _, h2'.out, by decide⟩, g2'.out⟩
            · have hRs := Lib.hid (by rw [if_neg (by rw [hNN.out]; intro h; exact h.elim (fun h => by omega) hmo), hNN.out] at hstep; exact hstep.symm)
              clear hstep
              have t8 : (N : Int) ≤ (most : Int) := by omega
              go_wp2_with fail
              go_quiet (fail)
              go_wp2_with fail
              go_quiet (fail)
              go_wp2_with fail
              go_ret
              have hM0 := hyes.out _ _ hRs.out
              have hv := fun q => hmv.out q (k + (9 + 1)) ((k : Int) + 9 + 1) (by omega) (by rw [hL.out ()]; omega)
              exact ⟨by rw [hM0]; rfl, by rw [hM0]; exact ⟨_, _, (hv _).1⟩, (hv _).2⟩
      · have t1 : ((i : Int) == 9) = false := by simp; omega
        have hS8 : Hid (S ≤ 72057594037927936) := Lib.hid (by
          rw [← hS.out ()]
          have h2 : 128 ^ i ≤ 128 ^ 8 := Nat.pow_le_pow_right (by decide) (by omega)
          have h3 : (128 : Nat) ^ 8 = 72057594037927936 := by decide
          omega)
        have wi1 : IntKind.i64.wrap ((i : Int) + 1) = (i : Int) + 1 := IntWalk.i64_in _ (by omega)
        have wki1 : IntKind.i64.wrap ((k : Int) + (i : Int) + 1) = (k : Int) + (i : Int) + 1 := IntWalk.i64_in _ (by omega)
        rw [if_neg (fun h => h9 h.1)] at hstep
        obtain ⟨p, hp⟩ : ∃ p, Hid (y % 128 * S = p) := ⟨_, Lib.hid rfl⟩
        have hpb : Hid (p ≤ 9151314442816847872) := Lib.hid (by
          have h1 := hS8.out
          have h2 : (y % 128) * S ≤ 127 * S := Nat.mul_le_mul_right _ (by omega)
          rw [hp.out] at h2
          omega)
        have hpz : (y : Int) % 128 * (S : Int) = (p : Int) := by rw [← hp.out]; push_cast; rfl
        have hpw : IntKind.u64.wrap (p : Int) = (p : Int) := by have := hpb.out; rw [IntKind.wrap_u64]; omega
        obtain ⟨N, hN⟩ : ∃ N, Hid (v + p = N) := ⟨_, Lib.hid rfl⟩
        have hvp : IntKind.u64.wrap ((v : Int) + (p : Int)) = (N : Int) := by have := hpb.out; have := hRb.out; have := hN.out; have := hp9.out; rw [IntKind.wrap_u64]; omega
        have hs128 : IntKind.u64.wrap ((S : Int) * 128) = ((S * 128 : Nat) : Int) := by have := hS8.out; rw [IntKind.wrap_u64]; omega
        by_cases h128 : y < 128
        · rw [if_pos h128] at hstep
          have t4 : (y : Int) < 128 := by omega
          have hNN : Hid (v + y * S = N) := Lib.hid (by rw [← hN.out, ← hp.out, Nat.mod_eq_of_lt h128])
          by_cases hy0 : y = 0
          · subst hy0
            replace hcel : w.cell? ⟨b, off + (k + i), none⟩ = some (.int .u8 0) := hcel
            clear t4 hpz hpw hvp
            have hp0 : p = 0 := by have := hp.out; simpa using this.symm
            subst hp0
            have hNv : N = v := by have := hN.out; omega
            subst hNv
            by_cases hi0 : 0 < i
            · have hRn : Hid (R = none) := Lib.hid (by rw [if_pos (Or.inl ⟨rfl, hi0⟩)] at hstep; exact hstep.symm)
              clear hstep
              have t6 : (0 : Int) < (i : Int) := by omega
              have hvw : IntKind.u64.wrap (N : Int) = (N : Int) := by have := hRb.out; have := hp9.out; rw [IntKind.wrap_u64]; omega
              go_wp2_with fail
              go_quiet (fail)
              go_wp2_with fail
              go_quiet (fail)
              go_wp2_with fail
              refine (hst.out _ _ _).mono ?_
              rintro e w2 ⟨⟨v0, rfl⟩, h2, g2⟩
              have h2' := Lib.hid h2
              have g2' := Lib.hid ((grown_drewN w _ _).trans g2)
              clear h2 g2
              go_wp2_with fail
              go_ret
              have hM0 := hno.out hRn.out
              exact ⟨by rw [hM0]; rfl, by rw [hM0]; exact ⟨_, _, _, h2'.out, by decide⟩, g2'.out⟩
            · have t6 : (i : Int) ≤ 0 := by omega
              have hvw : IntKind.u64.wrap (N : Int) = (N : Int) := by have := hRb.out; have := hp9.out; rw [IntKind.wrap_u64]; omega
              by_cases hmo : most < N
              · have hRn : Hid (R = none) := Lib.hid (by rw [if_pos (Or.inr (by rw [hNN.out]; exact hmo))] at hstep; exact hstep.symm)
                clear hstep
                have t8 : (most : Int) < (N : Int) := by omega
                go_wp2_with fail
                go_quiet (fail)
                go_wp2_with fail
                go_quiet (fail)
                go_wp2_with fail
                refine (hst.out _ _ _).mono ?_
                rintro e w2 ⟨⟨v0, rfl⟩, h2, g2⟩
                have h2' := Lib.hid h2
                have g2' := Lib.hid ((grown_drewN w _ _).trans g2)
                clear h2 g2
                go_wp2_with fail
                go_ret
                have hM0 := hno.out hRn.out
                exact ⟨by rw [hM0]; rfl, by rw [hM0]; exact ⟨_, _, _, h2'.out, by decide⟩, g2'.out⟩
              · have hRs := Lib.hid (by rw [if_neg (by rw [hNN.out]; intro h; exact h.elim (fun h => hi0 h.2) hmo), hNN.out] at hstep; exact hstep.symm)
                clear hstep
                have t8 : (N : Int) ≤ (most : Int) := by omega
                go_wp2_with fail
                go_quiet (fail)
                go_wp2_with fail
                go_quiet (fail)
                go_wp2_with fail
                go_ret
                have hM0 := hyes.out _ _ hRs.out
                have hv := fun q => hmv.out q (k + (i + 1)) ((k : Int) + (i : Int) + 1) (by omega) (by rw [hL.out ()]; omega)
                exact ⟨by rw [hM0]; rfl, by rw [hM0]; exact ⟨_, _, (hv _).1⟩, (hv _).2⟩
          · have t5 : ((y : Int) == 0) = false := by simp; omega
            by_cases hmo : most < N
            · have hRn : Hid (R = none) := Lib.hid (by rw [if_pos (Or.inr (by rw [hNN.out]; exact hmo))] at hstep; exact hstep.symm)
              clear hstep
              have t8 : (most : Int) < (N : Int) := by omega
              go_wp2_with fail
              go_quiet (fail)
              go_wp2_with fail
              go_quiet (fail)
              go_wp2_with fail
              refine (hst.out _ _ _).mono ?_
              rintro e w2 ⟨⟨v0, rfl⟩, h2, g2⟩
              have h2' := Lib.hid h2
              have g2' := Lib.hid ((grown_drewN w _ _).trans g2)
              clear h2 g2
              go_wp2_with fail
              go_ret
              have hM0 := hno.out hRn.out
              exact ⟨by rw [hM0]; rfl, by rw [hM0]; exact ⟨_, _, _, h2'.out, by decide⟩, g2'.out⟩
            · have hRs := Lib.hid (by rw [if_neg (by rw [hNN.out]; intro h; exact h.elim (fun h => hy0 h.1) hmo), hNN.out] at hstep; exact hstep.symm)
              clear hstep
              have t8 : (N : Int) ≤ (most : Int) := by omega
              go_wp2_with fail
              go_quiet (fail)
              go_wp2_with fail
              go_quiet (fail)
              go_wp2_with fail
              go_ret
              have hM0 := hyes.out _ _ hRs.out
              have hv := fun q => hmv.out q (k + (i + 1)) ((k : Int) + (i : Int) + 1) (by omega) (by rw [hL.out ()]; omega)
              exact ⟨by rw [hM0]; rfl, by rw [hM0]; exact ⟨_, _, (hv _).1⟩, (hv _).2⟩
        · rw [if_neg h128] at hstep
          have t4 : (128 : Int) ≤ (y : Int) := by omega
          have hnx : Hid (varG most (10 - (i + 1)) (i + 1) N (l.drop (k + (i + 1))) = R ∧ N < 128 ^ (i + 1)) := Lib.hid ⟨by
              rw [show 10 - (i + 1) = 9 - i by omega, ← hN.out, ← hp.out, show y % 128 = y - 128 by omega]
              exact hstep, by
              rw [← hN.out, ← hp.out, Nat.pow_succ, hS.out ()]
              have h1 := hRb.out
              have h2 : (y % 128) * S ≤ 127 * S := Nat.mul_le_mul_right _ (by omega)
              omega⟩
          have hsn : Hid (((S * 128 : Nat) : Int) = ((128 ^ (i + 1) : Nat) : Int)) := Lib.hid (by rw [← hS.out (), Nat.pow_succ])
          clear hstep
          go_wp2_with fail
          go_quiet (fail)
          go_wp2_with fail
          go_quiet (fail)
          go_wp2_with fail
          go_roundw
          case rel => exact ⟨i + 1, N, _, by omega, by omega, by go_num, rfl, by rw [← hsn.out]; rfl, hnx, Lib.hid rfl⟩
          case measure => simp [intOf]; omega
    · have hRn : Hid (R = none) := Lib.hid (by rw [← hR.out.1]; exact varG_end (by rw [hL.out ()]; omega))
      clear hR
      have e1 : (L : Int) ≤ (k : Int) + (i : Int) := by omega
      go_wp2_with fail
      go_quiet (fail)
      go_wp2_with fail
      refine (hst.out _ _ _).mono ?_
      rintro e w2 ⟨⟨v0, rfl⟩, h2, g2⟩
      have h2' := Lib.hid h2
      have g2' := Lib.hid ((grown_drewN w _ _).trans g2)
      clear h2 g2
      go_wp2_with fail
      go_ret
      have hM0 := hno.out hRn.out
      exact ⟨by rw [hM0]; rfl, by rw [hM0]; exact ⟨_, _, _, h2'.out, by decide⟩, g2'.out⟩
theorem rvard_any {w : World} {g c : Nat} {A : Option Addr} {l : List Nat} {s : DSt} (h : RDecS w g A c l s) (most : Nat) (hm : most < 18446744073709551616) :
    Calls Tryd.prog 93 #[.pointer (some ⟨g, 0, none⟩), .int .u64 (most : Int)] w (RVarPost w g A c l (varM l most s)) := by
  cases s with
  | some k => obtain ⟨x, y, h⟩ := h; exact rvard_go h most hm
  | none =>
    have c2 := h.c2
    have h' := Lib.hid h
    clear h
    go_enter Tryd.func93, Tryd.ntmps93
    go_wp2_with fail
    go_ret
    exact ⟨rfl, h'.out, grown_drewN w 0 _⟩
end Go.Proofs.YtkjndgapejbgcaaDoor

namespace Go.Proofs.YtkjndgapejbgcaaDoor
open Go.RowKit
set_option linter.unusedSimpArgs false
set_option linter.unusedVariables false

def RRawPost (w : World) (g : Nat) (A : Option Addr) (c : Nat) (l : List Nat) (r : List Nat × DSt) (e : Ending) (w' : World) : Prop :=
  (∃ A' c', e = .returned (.slice A' r.1.length c') ∧ Own w' w.heap.size 5 1 A' r.1.length c' (u8s r.1)) ∧ RDecS w' g A c l r.2 ∧ w.grownBy w' (some g)
set_option maxRecDepth 20000 in
set_option maxHeartbeats 4000000 in
theorem rawr_any {w : World} {g c : Nat} {A : Option Addr} {l : List Nat} {s : DSt} (h : RDecS w g A c l s) (n : Nat) (hn2 : n ≤ 4611686018427387904) (hl : l.length ≤ 70368744177664) :
    Calls Tryd.prog 91 #[.pointer (some ⟨g, 0, none⟩), .int .i64 (n : Int)] w (RRawPost w g A c l (rawM l n s)) := by
  have c2 := h.c2
  obtain ⟨RR, hRR⟩ : ∃ R, Hid (∀ _ : Unit, rawM l n s = R) := ⟨_, Lib.hid fun _ => rfl⟩
  rw [hRR.out ()]
  cases s with
  | none =>
    have h' := Lib.hid h
    clear h
    go_enter Tryd.func91, Tryd.ntmps91
    go_wp2_with fail
    go_ret
    rw [← hRR.out ()]
    exact ⟨⟨none, 0, rfl, Own.nil _ _ _ _⟩, h'.out, grown_drewN w 0 _⟩
  | some k =>
    obtain ⟨x0, y0, h⟩ := h
    have h' := Lib.hid h
    obtain ⟨L, hL⟩ : ∃ n, Hid (∀ _ : Unit, l.length = n) := ⟨_, Lib.hid fun _ => rfl⟩
    have c0 := h.c0
    have c1 := h.c1
    have f1 := h.fz 1
    have hle := h.le
    have hcap := h.cap
    rw [hL.out ()] at c0 hle hcap hl
    have w1 : IntKind.i64.wrap ((L : Int) - (k : Int)) = (L : Int) - (k : Int) := IntWalk.i64_in _ (by omega)
    rcases Nat.eq_zero_or_pos n with h0 | h0
    · subst h0
      have hr : Hid (rawM l 0 (some k) = ([], some k)) := Lib.hid (by simp [rawM])
      clear h hle hcap hl
      go_enter Tryd.func91, Tryd.ntmps91
      go_wp2_with fail
      go_ret
      rw [← hRR.out (), hr.out]
      exact ⟨⟨none, 0, rfl, Own.nil _ _ _ _⟩, ⟨_, _, h'.out⟩, grown_drewN w 0 _⟩
    · have hpz : (0 : Int) < (n : Int) := by omega
      by_cases hn : n ≤ l.length - k
      · obtain ⟨x, hx⟩ : ∃ x, Hid (∀ _ : Unit, (l.drop k).take n = x) := ⟨_, Lib.hid fun _ => rfl⟩
        have hxl : Hid (x.length = n) := Lib.hid (by rw [← hx.out (), List.length_take, List.length_drop]; omega)
        have hr : Hid (rawM l n (some k) = (x, some (k + n))) := Lib.hid (by simp [rawM, hn, hx.out ()])
        have hby : Hid (∀ q : Nat, Byt (w.drewN q) (w.drewN q).heap.size (cutD A k c) x) := Lib.hid fun q => by
          have := byt_cut (h.drewN q).byt h.cap.1 hn
          rwa [hx.out ()] at this
        rw [hL.out ()] at hn
        have w2 : IntKind.i64.wrap ((k : Int) + (n : Int)) = (k : Int) + (n : Int) := IntWalk.i64_in _ (by omega)
        have hnl : (n : Int) ≤ (L : Int) - (k : Int) := by omega
        have hsl := fun W => slice_cut A L c k (k + n) ((k : Int) + (n : Int)) (by omega) (by omega) (by omega) W
        rw [show k + n - k = n by omega] at hsl
        have hnl2 : Hid (k + n ≤ l.length) := Lib.hid (by rw [hL.out ()]; omega)
        have hbig : Hid (n ≤ 70368744177664) := Lib.hid (by omega)
        clear h hle hcap hn hl
        go_enter Tryd.func91, Tryd.ntmps91
        go_wp2_with fail
        go_quiet (fail)
        go_wp2_with fail
        have hD : Hid (RDecB (w.drewN nq) g A c l k false x0 y0) := Lib.hid (h'.out.drewN nq)
        have hb2 := Lib.hid (hby.out nq)
        have gr := Lib.hid (grown_drewN w nq (some g))
        have hs2 : Hid ((w.drewN nq).heap.size = w.heap.size) := Lib.hid rfl
        clear hby c0 c1 f1 c2
        generalize w.drewN nq = w2 at hD hb2 gr hs2 ⊢
        have c0 := hD.out.c0
        have c1 := hD.out.c1
        rw [hL.out ()] at c0
        go_still_tail 16, (by kernel_rfl)
        change wpList _ _ _ _ _ (w2.drewN 1)
        have hD3 := Lib.hid (hD.out.drewN 1)
        have hb3 : Hid (Byt (w2.drewN 1) (w2.drewN 1).heap.size (cutD A k c) x) := Lib.hid hb2.out
        have gr3 := Lib.hid (gr.out.trans (grown_drewN w2 1 (some g)))
        have hs3 : Hid ((w2.drewN 1).heap.size = w.heap.size) := Lib.hid hs2.out
        clear hD hb2 gr hs2 c0 c1
        generalize w2.drewN 1 = w3 at hD3 hb3 gr3 hs3 ⊢
        refine wpList_appB elB _ rfl (.tmp 32) (.tmp 47) rfl rfl (show Own w3 w3.heap.size _ 1 none 0 0 (u8s []) from Own.nil _ _ _ _) rfl hxl.out hb3.out (by have := hbig.out; omega) (Nat.le_refl _) n (by omega) ?_
        intro A5 c5 w5 o5 _ hb5
        rw [List.nil_append] at o5
        have o6 := Lib.hid o5
        have hb6 := Lib.hid hb5
        clear o5 hb5
        have hD5 := Lib.hid (hD3.out.keep hb6.out)
        have c1 := hD5.out.c1
        have f1 := hD5.out.fz 1
        go_wp2
        go_ret
        have hset := hD5.out.set 1 (.int .i64 ((k : Int) + (n : Int))) (k' := k + n) (st' := false) (x' := x0) (y' := y0) (by have := hnl2.out; omega) (by simp)
        rw [← hRR.out (), hr.out]
        refine ⟨⟨A5, c5, by rw [show (x, (some (k + n) : DSt)).1.length = n from hxl.out]; rfl, ?_⟩, ⟨_, _, hset.1⟩, (gr3.out.trans (grown_below' hb6.out)).trans hset.2⟩
        have ho := o6.out.gk hset.2 (by rw [hs3.out]; exact h'.out.gl)
        rw [show (x, (some (k + n) : DSt)).1.length = n from hxl.out, ← hs3.out]
        exact ho
      · have hr : Hid (rawM l n (some k) = ([], none)) := Lib.hid (by simp [rawM, hn])
        rw [hL.out ()] at hn
        have hnl : ¬ ((n : Int) ≤ (L : Int) - (k : Int)) := by omega
        have hst := Lib.hid (fun (q : Nat) (x y : Int) => rstop_any (h.drewN q) x y)
        clear h hle hcap hn hl
        go_enter Tryd.func91, Tryd.ntmps91
        go_wp2_with fail
        go_quiet (fail)
        go_wp2_with fail
        refine (hst.out _ _ _).mono ?_
        rintro e w2 ⟨⟨v0, rfl⟩, h2, g2⟩
        have h2' := Lib.hid h2
        have g2' := Lib.hid ((grown_drewN w _ _).trans g2)
        clear h2 g2
        go_wp2_with fail
        go_ret
        rw [← hRR.out (), hr.out]
        exact ⟨⟨none, 0, rfl, Own.nil _ _ _ _⟩, ⟨_, _, _, h2'.out, by decide⟩, g2'.out⟩
end Go.Proofs.YtkjndgapejbgcaaDoor

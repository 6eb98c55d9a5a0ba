/- The document's filter beside the program's words: its bits. Plain; in memory. -/
import Derived.Test.YtlghgfnkckaebaaWNevP
import Derived.Test.YtlghgfnkckaebaaWNew
namespace Go.Proofs.Ytlghgfnkckaebaa
open Go.RowKit
set_option linter.unusedVariables false
set_option linter.unusedSimpArgs false

/-- The bits of some words. -/
def bitsOf (l : List Nat) : List Bool := (List.range (64 * l.length)).map (bitAt l)
theorem bitsOf_length (l : List Nat) : (bitsOf l).length = 64 * l.length := by simp [bitsOf]
theorem bitsOf_at (l : List Nat) (p : Nat) (hp : p < 64 * l.length) : (bitsOf l)[p]? = some (bitAt l p) := by
  unfold bitsOf
  rw [List.getElem?_map, List.getElem?_range hp]
  rfl
theorem bitsOf_set (l : List Nat) (q : Nat) (hq : q < 64 * l.length) : bitsOf (setAt l q) = (bitsOf l).set q true := by
  apply List.ext_getElem?
  intro p
  rcases Nat.lt_or_ge p (64 * l.length) with hp | hp
  · rw [bitsOf_at _ _ (by rw [setAt_length]; exact hp), bitAt_setAt l l.length p q rfl hp hq]
    by_cases h : q = p
    · subst h
      rw [List.getElem?_set_self (by rw [bitsOf_length]; exact hp)]
      simp
    · rw [List.getElem?_set_ne h, bitsOf_at l p hp]
      simp [h]
  · rw [List.getElem?_eq_none (by rw [bitsOf_length, setAt_length]; exact hp), List.getElem?_eq_none (by rw [List.length_set, bitsOf_length]; exact hp)]
theorem bitsOf_zero (n : Nat) : bitsOf (List.replicate n 0) = List.replicate (64 * n) false := by
  apply List.ext_getElem?
  intro p
  rcases Nat.lt_or_ge p (64 * n) with hp | hp
  · rw [bitsOf_at _ _ (by simpa using hp), List.getElem?_replicate, if_pos hp, bitAt_eq, List.getElem?_replicate, if_pos (by omega), Option.getD_some, Nat.zero_testBit]
  · rw [List.getElem?_eq_none (by rw [bitsOf_length]; simpa using hp), List.getElem?_eq_none (by simpa using hp)]
theorem bitsOf_join (l m : List Nat) (h : l.length = m.length) : bitsOf (joinQ l m) = List.zipWith (fun x y => x || y) (bitsOf l) (bitsOf m) := by
  apply List.ext_getElem?
  intro p
  rcases Nat.lt_or_ge p (64 * l.length) with hp | hp
  · rw [bitsOf_at _ _ (by rw [joinQ_length _ _ h]; exact hp), List.getElem?_zipWith, bitsOf_at l p hp, bitsOf_at m p (by omega), bit_join rfl h.symm hp]
  · rw [List.getElem?_eq_none (by rw [bitsOf_length, joinQ_length _ _ h]; exact hp), List.getElem?_eq_none (by rw [List.length_zipWith, bitsOf_length, bitsOf_length]; omega)]
theorem bitsOf_meet (l m : List Nat) (h : l.length = m.length) : bitsOf (meetQ l m) = List.zipWith (fun x y => x && y) (bitsOf l) (bitsOf m) := by
  apply List.ext_getElem?
  intro p
  rcases Nat.lt_or_ge p (64 * l.length) with hp | hp
  · rw [bitsOf_at _ _ (by rw [meetQ_length _ _ h]; exact hp), List.getElem?_zipWith, bitsOf_at l p hp, bitsOf_at m p (by omega), bit_meet rfl h.symm hp]
  · rw [List.getElem?_eq_none (by rw [bitsOf_length, meetQ_length _ _ h]; exact hp), List.getElem?_eq_none (by rw [List.length_zipWith, bitsOf_length, bitsOf_length]; omega)]
/-- How many are true. -/
def cntB (l : List Bool) : Nat := (l.map Bool.toNat).sum
theorem cntB_take (l : List Bool) (k : Nat) (x : Bool) (h : l[k]? = some x) : cntB (l.take (k + 1)) = cntB (l.take k) + x.toNat := by
  unfold cntB
  rw [List.take_add_one, h, List.map_append, List.sum_append]
  simp
theorem cnt_word (x : Nat) : ∀ f, Lib.popAux f x = cntB ((List.range f).map fun j => x.testBit j)
  | 0 => rfl
  | f + 1 => by
    have h1 := popAux_add f 1 x
    rw [h1, List.range_succ, List.map_append, cntB, List.map_append, List.sum_append]
    have h2 : Lib.popAux f (x % 2 ^ f) = cntB ((List.range f).map fun j => x.testBit j) := by
      rw [cnt_word (x % 2 ^ f) f]
      congr 1
      apply List.map_congr_left
      intro j hj
      rw [Nat.testBit_mod_two_pow, decide_eq_true (List.mem_range.1 hj), Bool.true_and]
    rw [h2]
    unfold cntB
    congr 1
    simp only [Lib.popAux, List.map_cons, List.map_nil, List.sum_cons, List.sum_nil, Nat.add_zero]
    rw [Nat.testBit_eq_decide_div_mod_eq]
    have : x / 2 ^ f % 2 < 2 := Nat.mod_lt _ (by decide)
    by_cases h : x / 2 ^ f % 2 = 1
    · simp [h]
    · have h0 : x / 2 ^ f % 2 = 0 := by omega
      simp [h0]
theorem cnt_bits : ∀ l : List Nat, cntB (bitsOf l) = popL l
  | [] => rfl
  | x :: l => by
    have h1 : bitsOf (x :: l) = ((List.range 64).map fun j => x.testBit j) ++ bitsOf l := by
      apply List.ext_getElem?
      intro p
      rcases Nat.lt_or_ge p 64 with hp | hp
      · rw [bitsOf_at _ _ (by rw [List.length_cons]; omega), List.getElem?_append_left (by simpa using hp), List.getElem?_map, List.getElem?_range hp, bitAt_eq, show p / 64 = 0 by omega, show p % 64 = p by omega]
        rfl
      · rw [List.getElem?_append_right (by simpa using hp)]
        simp only [List.length_map, List.length_range]
        rcases Nat.lt_or_ge (p - 64) (64 * l.length) with hq | hq
        · rw [bitsOf_at _ _ (by rw [List.length_cons]; omega), bitsOf_at _ _ hq, bitAt_eq, bitAt_eq, show p / 64 = (p - 64) / 64 + 1 by omega, show p % 64 = (p - 64) % 64 by omega]
          rfl
        · rw [List.getElem?_eq_none (by rw [bitsOf_length, List.length_cons]; omega), List.getElem?_eq_none (by rw [bitsOf_length]; exact hq)]
    rw [h1, cntB, List.map_append, List.sum_append]
    show cntB _ + cntB (bitsOf l) = Lib.onesCount x + popL l
    rw [cnt_bits l, ← cnt_word x 64]
    rfl
/-- The key's places. -/
def placesQ (a b N h : Nat) : List Nat := (List.range h).map (atQ a b N)
theorem placesQ_length (a b N h : Nat) : (placesQ a b N h).length = h := by simp [placesQ]
theorem placesQ_at (a b N h i : Nat) (hi : i < h) : (placesQ a b N h)[i]? = some (atQ a b N i) := by simp [placesQ, hi]
theorem placesQ_next (a b N h : Nat) : placesQ a b N (h + 1) = placesQ a b N h ++ [atQ a b N h] := by simp [placesQ, List.range_succ]
def i64s (l : List Nat) : List Value := l.map fun x : Nat => .int .i64 (x : Int)
theorem i64s_length (l : List Nat) : (i64s l).length = l.length := by simp [i64s]
theorem i64s_append (l m : List Nat) : i64s (l ++ m) = i64s l ++ i64s m := by simp [i64s]
theorem i64s_at {l : List Nat} {j x : Nat} (h : l[j]? = some x) : (i64s l)[j]? = some (.int .i64 (x : Int)) := by simp [i64s, h]
theorem elI : ElemOk Try.prog 110 3 (.int .i64 0) 1 8 := ⟨Try.underlying110, by kernel_rfl, rfl, by decide⟩
/-- The document's filter of some words. -/
def RF (w : World) (B g a c : Nat) (l : List Nat) (h : Nat) : Prop := RFlt w B g (some ⟨a, 0, none⟩) c (bitsOf l) h
section
variable {w w' : World} {B g a c h : Nat} {l : List Nat}
theorem RF.below (f : RF w B g a c l h) (hb : Below w.heap.size w w') : RF w' B g a c l h := RFlt.below f hb
theorem RF.base {B' : Nat} (f : RF w B g a c l h) (hB : B' ≤ B) : RF w B' g a c l h := RFlt.base f hB
theorem RF.fr {D : Nat → Prop} (f : RF w B g a c l h) (hf : Fr D w w') (hg : ¬ D g) (hA : ¬ D a) : RF w' B g a c l h :=
  { f with blk := (hf.block g f.lt_ hg).trans f.blk, own := Own.fr f.own hf (fun k hk => by injection hk with hk; subst hk; exact hA) }
theorem RF.c0 (f : RF w B g a c l h) : w.cell? ⟨g, 0, none⟩ = some (.slice (some ⟨a, 0, none⟩) (64 * l.length) c) := by
  have := RFlt.c0 f
  rwa [bitsOf_length] at this
theorem RF.c1 (f : RF w B g a c l h) : w.cell? ⟨g, 1, none⟩ = some (.int .i64 (h : Int)) := RFlt.c1 f
theorem RF.bit (f : RF w B g a c l h) (p : Nat) (hp : p < 64 * l.length) : w.cell? ⟨a, p, none⟩ = some (.bool (bitAt l p)) := by
  have := f.own.cell p (by rw [bitsOf_length]; omega)
  rw [this]
  unfold bls
  rw [List.getElem?_map, bitsOf_at l p hp]
  rfl
theorem RF.fz (f : RF w B g a c l h) (p : Nat) : w.frozen? ⟨a, p, none⟩ = false := f.own.frozen p
theorem RF.off (f : RF w B g a c l h) : B ≤ a ∧ a < w.heap.size := f.own.lt a rfl
theorem RF.ne (f : RF w B g a c l h) : g ≠ a := fun e => RFlt.ne f (by rw [e]; rfl)
theorem RF.n1 (f : RF w B g a c l h) : 1 ≤ l.length := by have := RFlt.n1 f; rw [bitsOf_length] at this; omega
theorem RF.nm (f : RF w B g a c l h) : l.length ≤ 16384 := by have := RFlt.nm f; rw [bitsOf_length] at this; omega
/-- A bit set. -/
theorem RF.put (f : RF w B g a c l h) (p : Nat) (hp : p < 64 * l.length) : RF (w.setCell ⟨a, p, none⟩ (.bool true)) B g a c (setAt l p) h := by
  have e := bitsOf_set l p hp
  have o := f.own.set p (.bool true)
  have e2 : (bls (bitsOf l)).set p (.bool true) = bls (bitsOf (setAt l p)) := by rw [e]; simp [bls, List.map_set]
  rw [e2] at o
  have eL : (bitsOf (setAt l p)).length = (bitsOf l).length := by rw [e, List.length_set]
  unfold RF
  refine ⟨?_, f.gB, by rw [eL]; exact o, f.h1, f.h16, by rw [eL]; exact RFlt.n1 f, by rw [eL]; exact RFlt.nm f, by rw [eL]; exact f.md⟩
  rw [eL, heap_setCell_other _ _ g _ f.ne]
  exact f.blk
end
end Go.Proofs.Ytlghgfnkckaebaa

/- What stands while an object is laid by an encoder. -/
import Derived.Test.YtkjndgapejbgcaaDoorMayW
import Derived.Test.YtkjndgapejbgcaaDoorRefT
namespace Go.Proofs.YtkjndgapejbgcaaDoor
open Go.RowKit
set_option linter.unusedSimpArgs false

/-- The object in its block (the call's first), the encoder in block g. -/
structure EncS (w wr : World) (g : Nat) (o : ObjT) (p : Lay) (A : Option Addr) (c : Nat) (l : List Nat) : Prop where
  bel : Below w.heap.size w wr
  blk : OBlk wr w.heap.size o p
  gt : w.heap.size < g
  enc : EncAt wr g A c l
section
variable {w wr w' : World} {g : Nat} {o : ObjT} {p : Lay} {A A' : Option Addr} {c c' : Nat} {l l' : List Nat}
theorem EncS.keep (h : EncS w wr g o p A c l) (hb : Below wr.heap.size wr w') : EncS w w' g o p A c l :=
  ⟨h.bel.trans (hb.mono h.bel.size), h.blk.below hb (lt_of_block h.blk), h.gt, h.enc.keep hb⟩
theorem EncS.call (h : EncS w wr g o p A c l) (he : EncAt w' g A' c' l') (hr : EncR g wr A w' A') : EncS w w' g o p A' c' l' := by
  have hg := h.gt
  refine ⟨h.bel.trans (hr.below (B := w.heap.size) (by omega) (fun k hk => by have := h.enc.off k hk; omega) h.bel.size), ?_, h.gt, he⟩
  exact (hr.block _ (lt_of_block h.blk) (by omega) (fun e => by have := h.enc.off _ e; omega)).trans h.blk
/-- A block of a loop's own. -/
structure LocB (w : World) (g N : Nat) (A : Option Addr) (cs : List Value) (t : TypeId) : Prop where
  blk : w.heap[N]? = some (.cells cs.toArray t (0, 0))
  ne : N ≠ g
  off : blockOf A ≠ some N
theorem LocB.call {N : Nat} {cs : List Value} {t : TypeId} (h : LocB w g N A cs t) (hr : EncR g w A w' A') : LocB w' g N A' cs t := by
  have hN := lt_of_block h.blk
  refine ⟨(hr.block N hN h.ne h.off).trans h.blk, h.ne, fun e => ?_⟩
  rcases hr.link with h1 | h1
  · exact h.off (h1 ▸ e)
  · have := h1 N e; omega
theorem LocB.new {cs : List Value} {t : TypeId} (h : EncS w wr g o p A c l) (hN : w'.heap[wr.heap.size]? = some (.cells cs.toArray t (0, 0))) : LocB w' g wr.heap.size A cs t :=
  ⟨hN, by have := h.enc.lt; omega, fun e => by have := (h.enc.own.lt _ e).2; omega⟩
theorem LocB.cell {N : Nat} {cs : List Value} {t : TypeId} (h : LocB w g N A cs t) {j : Nat} {v : Value} (hv : cs[j]? = some v) : w.cell? ⟨N, j, none⟩ = some v := by
  rw [cell_of_row _ _ _ _ _ _ h.blk]
  simpa using hv
end
theorem buildE (w : World) : (Instr.build 59 #[]).run Tryd.prog w = .ok (.agg #[.slice none 0 0, .pointer none]) w := run_build w _ _ _ (by kernel_rfl)

theorem varL_le (v : Nat) : (varL v).length ≤ 10 := varF_length 10 v
theorem flat_le {α : Type} (f : α → List Nat) (c : Nat) : ∀ l : List α, (∀ x ∈ l, (f x).length ≤ c) → (l.flatMap f).length ≤ l.length * c
  | [], _ => by simp
  | x :: l, h => by
    have h1 := h x (by simp)
    have h2 := flat_le f c l fun y hy => h y (by simp [hy])
    simp only [List.flatMap_cons, List.length_append, List.length_cons]
    rw [Nat.add_mul]
    omega
theorem flat_take_le {α : Type} (f : α → List Nat) (c : Nat) (l : List α) (h : ∀ x ∈ l, (f x).length ≤ c) (k : Nat) (hl : l.length ≤ 128) : ((l.take k).flatMap f).length ≤ 128 * c := by
  have h1 := flat_le f c (l.take k) fun x hx => h x (List.mem_of_mem_take hx)
  have h2 : (l.take k).length ≤ 128 := by rw [List.length_take]; omega
  exact Nat.le_trans h1 (Nat.mul_le_mul_right c h2)
theorem flat_take_succ {α : Type} (f : α → List Nat) {l : List α} {k : Nat} (hk : k < l.length) : (l.take (k + 1)).flatMap f = (l.take k).flatMap f ++ f l[k] := by
  rw [List.take_succ_eq_append_getElem hk, List.flatMap_append]
  simp
theorem itemsE_names : ∀ (l : List ItemT) (q : Option ByteArray), itemsE q l = 0 → ∀ x ∈ l, nameOk x.1 = true
  | [], _, _, _, hx => by simp at hx
  | y :: l, q, h, x, hx => by
    unfold itemsE at h
    cases hy : nameOk y.1 with
    | false => rw [if_pos hy] at h; cases h
    | true =>
      rw [if_neg (by rw [hy]; decide)] at h
      rcases List.mem_cons.1 hx with rfl | hx
      · exact hy
      · split at h
        · cases h
        · split at h
          · cases h
          · exact itemsE_names l _ h x hx
theorem nameOk_size {s : ByteArray} (h : nameOk s = true) : s.size ≤ 64 := by
  unfold nameOk Fine at h
  simp only [Bool.and_eq_true, decide_eq_true_eq] at h
  exact h.1.1.1.2
structure MayB (o : ObjT) : Prop where
  k1 : 1 ≤ o.kind
  k4 : o.kind ≤ 4
  hf : refFor o = false
  ps : o.parts.length ≤ 128
  xs : o.items.length ≤ 128
  ks : o.parents.length ≤ 127
  hk : kindE o = 0
theorem mayE_bounds {o : ObjT} (h : mayE o = 0) : MayB o := by
  unfold mayE at h
  by_cases hk : o.kind < 1 ∨ 4 < o.kind
  · rw [if_pos hk] at h; cases h
  · rw [if_neg hk] at h
    cases hf : forB o with
    | true => rw [hf] at h; cases h
    | false =>
      rw [hf] at h
      cases hl : longB o with
      | true => rw [hl] at h; cases h
      | false =>
        rw [hl] at h
        unfold longB at hl
        simp only [Bool.or_eq_false_iff, decide_eq_false_iff_not] at hl
        rw [forB_eq] at hf
        exact ⟨by omega, by omega, hf, by omega, by omega, by omega, h⟩
theorem oneP_le (x : PartT) : (oneP x).length ≤ 42 := by
  have := varL_le x.2
  have := x.1.2
  unfold oneP
  rw [List.length_append]
  omega
theorem oneI_le (x : ItemT) (h : x.1.size ≤ 64) : (oneI x).length ≤ 117 := by
  have := varL_le x.1.size
  have := varL_le x.2.2.1
  have := x.2.2.2.2
  unfold oneI
  simp only [List.length_append, strL_length, List.length_singleton]
  omega
theorem oneK_le (x : Key32) : (oneK x).length ≤ 32 := by
  unfold oneK
  rw [x.2]
  exact Nat.le_refl _
end Go.Proofs.YtkjndgapejbgcaaDoor

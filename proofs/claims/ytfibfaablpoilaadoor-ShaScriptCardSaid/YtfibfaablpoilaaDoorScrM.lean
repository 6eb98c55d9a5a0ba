/- ShaScript: four Hashers in one block, four lists: what stands. -/
import Derived.Test.YtfibfaablpoilaaDoorPieceM
import Derived.Test.YtfibfaablpoilaaDoorGearN
import Derived.BigRegion
namespace Go.Proofs.YtfibfaablpoilaaDoor
open Go.RowKit
set_option linter.unusedSimpArgs false

theorem i64_and3 (n : Int) : bits .and .i64 n 3 = n % 4 := by
  have h3 : (BitVec.ofInt 64 3).toNat = 2 ^ 2 - 1 := by decide
  have key : (BitVec.ofInt 64 n &&& BitVec.ofInt 64 3).toNat = (n % ((2 ^ 64 : Nat) : Int)).toNat % 2 ^ 2 := by
    rw [BitVec.toNat_and, BitVec.toNat_ofInt, h3, Nat.and_two_pow_sub_one_eq_mod]
  show IntKind.i64.wrap ((BitVec.ofInt 64 n &&& BitVec.ofInt 64 3).toNat : Nat) = n % 4
  rw [key, IntKind.wrap_i64]
  omega
def fourN (n : Int) : Nat := (n % 4).toNat
theorem fourN_lt (n : Int) : fourN n < 4 := by unfold fourN; omega
theorem four_any (n : Int) (w : World) : Calls Tryd.prog 17 #[.int .i64 n] w fun e w' => e = .returned (.int .i64 (fourN n : Nat)) ∧ w = w' := by
  have h := i64_and3 n
  have h2 : n % 4 = ((fourN n : Nat) : Int) := by unfold fourN; omega
  rw [h2] at h
  generalize fourN n = k at h h2 ⊢
  go_enter Tryd.func17, Tryd.ntmps17
  go_wp2_with fail
  go_ret
  exact ⟨rfl, rfl⟩

theorem HR.of_rangeO {w : World} {g o n : Nat} {st rs : List Nat} {bg : Bool} (h : w.rangeAt g o (hcells st rs n bg)) (hf : ∀ k, w.frozen? ⟨g, k, none⟩ = false) (h1 : st.length = 8) (h2 : rs.length = 64) : HR w g o st rs n bg := by
  have hu1 : (u32s st).length = 8 := by simp [u32s, h1]
  have hu2 : (u8s rs).length = 64 := by simp [u8s, h2]
  refine ⟨fun j v hv => ?_, fun j v hv => ?_, ?_, ?_, hf, h1, h2⟩
  · have hj := (List.getElem?_eq_some_iff.1 hv).1
    refine h j v ?_
    unfold hcells
    rw [List.getElem?_append_left (by omega)]
    exact hv
  · have hj := (List.getElem?_eq_some_iff.1 hv).1
    have := h (8 + j) v (by
      unfold hcells
      rw [List.getElem?_append_right (by omega), hu1, Nat.add_sub_cancel_left, List.getElem?_append_left (by omega)]
      exact hv)
    rwa [← Nat.add_assoc] at this
  · have := h 72 (.int .u64 (n : Int)) (by
      unfold hcells
      rw [List.getElem?_append_right (by omega), hu1, List.getElem?_append_right (by omega), hu2]
      rfl)
    exact this
  · have := h 73 (.bool bg) (by
      unfold hcells
      rw [List.getElem?_append_right (by omega), hu1, List.getElem?_append_right (by omega), hu2]
      rfl)
    exact this
/-- A Hasher elsewhere in the block. -/
theorem HR.chg {w w' : World} {g o p n : Nat} {st rs : List Nat} {bg : Bool} (h : HR w g p st rs n bg) (hc : Chg w w' g o 74) (ho : p + 74 ≤ o ∨ o + 74 ≤ p) : HR w' g p st rs n bg :=
  HR.of_rangeO (hc.range h.range (.inr (by rw [hcells_length h.l1 h.l2]; omega))) (fun k => (hc.frozen k).trans (h.fr k)) h.l1 h.l2
theorem Has.chg {w w' : World} {g o p : Nat} {ks m : List Nat} (h : Has w g p ks m) (hc : Chg w w' g o 74) (ho : p + 74 ≤ o ∨ o + 74 ≤ p) : Has w' g p ks m := by
  obtain ⟨rs, ⟨st, bg, hH, hs⟩, hr⟩ := h
  exact ⟨rs, ⟨st, bg, hH.chg hc ho, hs⟩, hr⟩
/-- Cells of a Hasher laid over another. -/
theorem HR.copyO {w : World} {g o n n' : Nat} {st rs st' rs' : List Nat} {bg bg' : Bool} (f : HR w g o st' rs' n' bg') (h1 : st.length = 8) (h2 : rs.length = 64) :
    w.there g o (hcells st rs n bg).length ∧ HR (w.setCells g o (hcells st rs n bg)) g o st rs n bg := by
  have hl : (hcells st rs n bg).length = 74 := hcells_length h1 h2
  have ht : w.there g o (hcells st rs n bg).length := fun j hj => ⟨World.rangeAt.isSome f.range j (by rw [hcells_length f.l1 f.l2]; omega), f.fr _⟩
  exact ⟨ht, HR.of_rangeO (World.rangeAt_setCells_same w g o _ ht) (fun k => (World.frozen?_setCells g _ o w _).trans (f.fr k)) h1 h2⟩

section
variable {α : Type} {enc : α → List Value} {k : Nat}
def flat (enc : α → List Value) (l : List α) : List Value := l.flatMap enc
theorem flat_length (hk : ∀ x, (enc x).length = k) : ∀ l : List α, (flat enc l).length = l.length * k
  | [] => by simp [flat]
  | x :: l => by
    have := flat_length hk l
    simp only [flat, List.flatMap_cons, List.length_append, hk, List.length_cons] at this ⊢
    rw [this, Nat.add_mul, Nat.one_mul, Nat.add_comm]
theorem flat_get (hk : ∀ x, (enc x).length = k) : ∀ (l : List α) (j i : Nat) (hj : j < l.length), i < k → (flat enc l)[j * k + i]? = (enc l[j])[i]?
  | x :: l, 0, i, _, hi => by
    simp only [flat, List.flatMap_cons, Nat.zero_mul, Nat.zero_add, List.getElem_cons_zero]
    rw [List.getElem?_append_left (by rw [hk]; exact hi)]
  | x :: l, j + 1, i, hj, hi => by
    have h1 : (enc x).length ≤ (j + 1) * k + i := by rw [hk, Nat.add_mul]; omega
    have := flat_get hk l j i (by simpa using hj) hi
    simp only [flat, List.flatMap_cons, List.getElem_cons_succ] at this ⊢
    rw [List.getElem?_append_right h1, hk, ← this]
    congr 1
    rw [Nat.add_mul, Nat.one_mul]
    omega
theorem flat_append (l m : List α) : flat enc (l ++ m) = flat enc l ++ flat enc m := by simp [flat]

/-- A row of elements of several cells. -/
abbrev Row (enc : α → List Value) (k : Nat) (w : World) (B : Nat) (A : Option Addr) (l : List α) : Prop := Rd w B A (l.length * k) (fun j => (flat enc l)[j]?.getD undef)
theorem Row.elem {w : World} {B : Nat} {A : Option Addr} {l : List α} (h : Row enc k w B A l) (hk : ∀ x, (enc x).length = k) (h0 : 0 < k) {j : Nat} (hj : j < l.length) :
    ∃ b off, A = some ⟨b, off, none⟩ ∧ b < B ∧ ∀ i v, (enc l[j])[i]? = some v → w.cell? ⟨b, off + j * k + i, none⟩ = some v := by
  have hp : 0 < l.length * k := Nat.mul_pos (by omega) h0
  obtain ⟨b, off, rfl, hb, hc⟩ := h hp
  refine ⟨b, off, rfl, hb, fun i v hv => ?_⟩
  have hi : i < k := by
    have := (List.getElem?_eq_some_iff.1 hv).1
    rwa [hk] at this
  have h1 : (j + 1) * k ≤ l.length * k := Nat.mul_le_mul_right _ hj
  rw [Nat.add_mul, Nat.one_mul] at h1
  have := hc (j * k + i) (by omega)
  rw [Nat.add_assoc, this]
  simp only [flat_get hk l j i hj hi, hv, Option.getD_some]
end

/-- A step of a script. -/
structure StT where
  d : Int
  a : Int
  f : Int
  A : Option Addr
  l : List Nat
  c : Nat
def encS (x : StT) : List Value := [.int .i64 x.d, .int .i64 x.a, .int .i64 x.f, .slice x.A x.l.length x.c]
theorem encS_length (x : StT) : (encS x).length = 4 := rfl
def zS : StT := ⟨0, 0, 0, none, [], 0⟩
theorem encS_one (x : StT) : ∀ v ∈ encS x, v.oneCell' = true := by
  intro v hv
  simp only [encS, List.mem_cons, List.not_mem_nil, or_false] at hv
  rcases hv with rfl | rfl | rfl | rfl <;> rfl
/-- How many bytes the first k steps hold. -/
def totS (zs : List StT) (k : Nat) : Nat := ((zs.take k).map fun x => x.l.length).sum
theorem totS_succ {zs : List StT} {k : Nat} (h : k < zs.length) : totS zs (k + 1) = totS zs k + (zs[k]).l.length := by
  unfold totS
  rw [List.take_succ_eq_append_getElem h]
  simp only [List.map_append, List.sum_append, List.map_cons, List.map_nil, List.sum_cons, List.sum_nil, Nat.add_zero]
theorem totS_mono {zs : List StT} {i k : Nat} (h : i ≤ k) : totS zs i ≤ totS zs k := by
  induction k with
  | zero => simp [show i = 0 by omega]
  | succ k ih =>
    by_cases he : i = k + 1
    · subst he; exact Nat.le_refl _
    · have := ih (by omega)
      by_cases hk : k < zs.length
      · rw [totS_succ hk]; omega
      · have e : totS zs (k + 1) = totS zs k := by
          unfold totS
          rw [List.take_of_length_le (by omega), List.take_of_length_le (by omega)]
        omega

def upd {α : Type} (f : Nat → α) (i : Nat) (x : α) : Nat → α := fun j => if j = i then x else f j
theorem upd_same {α : Type} (f : Nat → α) (i : Nat) (x : α) : upd f i x i = x := by simp [upd]
theorem upd_other {α : Type} (f : Nat → α) {i j : Nat} (x : α) (h : j ≠ i) : upd f i x j = f j := by simp [upd, h]
/-- Four Hashers in block gH, four lists in block gT: each Hasher has taken its list. -/
structure S4 (w0 wr : World) (gH gT : Nat) (ks : List Nat) (L : Nat) (mh ml : Nat → List Nat) (A : Nat → Option Addr) (c : Nat → Nat) : Prop where
  bel : Below w0.heap.size w0 wr
  bH : w0.heap.size ≤ gH
  HT : gH < gT
  has : ∀ i, i < 4 → Has wr gH (i * 74) ks (mh i)
  cell : ∀ i, i < 4 → wr.cell? ⟨gT, i, none⟩ = some (.slice (A i) (ml i).length (c i))
  fz : ∀ i, wr.frozen? ⟨gT, i, none⟩ = false
  own : ∀ i, i < 4 → Own wr (gT + 1) 5 1 (A i) (ml i).length (c i) (u8s (ml i))
  byt : ∀ i, i < 4 → ∀ b ∈ ml i, b < 256
  len : ∀ i, i < 4 → (ml i).length ≤ L
section
variable {w0 wr w' : World} {gH gT L : Nat} {ks : List Nat} {mh ml : Nat → List Nat} {A : Nat → Option Addr} {c : Nat → Nat}
theorem S4.lt (h : S4 w0 wr gH gT ks L mh ml A c) : gT < wr.heap.size := World.block_lt_of_cell? wr _ (h.cell 0 (by decide))
theorem S4.keep (h : S4 w0 wr gH gT ks L mh ml A c) (hb : Below wr.heap.size wr w') : S4 w0 w' gH gT ks L mh ml A c :=
  ⟨h.bel.trans (hb.mono h.bel.size), h.bH, h.HT, fun i hi => (h.has i hi).keep hb, fun i hi => (hb.cell h.lt).trans (h.cell i hi), fun i => (World.frozen?_of_block (hb.block gT h.lt)).trans (h.fz i), fun i hi => (h.own i hi).below hb fun j hj => ((h.own i hi).lt j hj).2, h.byt, h.len⟩
theorem S4.mono (h : S4 w0 wr gH gT ks L mh ml A c) {L' : Nat} (hl : L ≤ L') : S4 w0 wr gH gT ks L' mh ml A c :=
  ⟨h.bel, h.bH, h.HT, h.has, h.cell, h.fz, h.own, h.byt, fun i hi => Nat.le_trans (h.len i hi) hl⟩
/-- A store into a block that came later than all lists. -/
theorem S4.far (h : S4 w0 wr gH gT ks L mh ml A c) {p : Addr} (hp : ∀ i, i < 4 → ∀ k, blockOf (A i) = some k → k < p.block) (hT : gT < p.block) (u : Value) : S4 w0 (wr.setCell p u) gH gT ks L mh ml A c :=
  ⟨h.bel.setCell (by have := h.bH; have := h.HT; omega) u, h.bH, h.HT, fun i hi => (h.has i hi).far (heap_setCell_other wr p gH u (by have := h.HT; omega)), fun i hi => (World.cell?_setCell_other wr p _ u (fun e => by subst e; simp at hT)).trans (h.cell i hi), fun i => (World.frozen?_of_block (heap_setCell_other wr p gT u (by omega))).trans (h.fz i),
    fun i hi => by
      refine ⟨(h.own i hi).1, ?_⟩
      rcases (h.own i hi).2 with h2 | ⟨g, cap, cur, hv, hg, hh, r⟩
      · exact Or.inl h2
      · refine Or.inr ⟨g, cap, cur, hv, hg, (heap_setCell_other wr p g u (fun e => ?_)).trans hh, r⟩
        injection hv with hA
        have := hp i hi g (by rw [hA]; rfl)
        omega, h.byt, h.len⟩
/-- One Hasher has become another. -/
theorem S4.hash (h : S4 w0 wr gH gT ks L mh ml A c) {i : Nat} (hi : i < 4) {x : List Nat} (hh : Has w' gH (i * 74) ks x) (hc : Chg wr w' gH (i * 74) 74) : S4 w0 w' gH gT ks L (upd mh i x) ml A c :=
  ⟨h.bel.trans (hc.below h.bel.size h.bH), h.bH, h.HT, fun j hj => by
      by_cases e : j = i
      · subst e; rw [upd_same]; exact hh
      · rw [upd_other _ _ e]; exact (h.has j hj).chg hc (by omega),
    fun j hj => hc.far (p := ⟨gT, j, none⟩) (by have := h.HT; show gT ≠ gH; omega) (h.cell j hj), fun j => (World.frozen?_of_block (hc.block gT h.lt (by have := h.HT; omega))).trans (h.fz j),
    fun j hj => (h.own j hj).chg hc (fun e => by have := ((h.own j hj).lt gH e).1; have := h.HT; omega), h.byt, h.len⟩
/-- One list has become another. -/
theorem S4.list (h : S4 w0 wr gH gT ks L mh ml A c) {i : Nat} (hi : i < 4) {A' : Option Addr} {n' c' : Nat} {x : List Nat} (hn : n' = x.length) (ho : Own wr (gT + 1) 5 1 A' n' c' (u8s x)) (hx : ∀ b ∈ x, b < 256) {L' : Nat} (hL : L ≤ L') (hl : x.length ≤ L') :
    S4 w0 (wr.setCell ⟨gT, i, none⟩ (.slice A' n' c')) gH gT ks L' mh (upd ml i x) (upd A i A') (upd c i c') := by
  subst hn
  refine ⟨h.bel.setCell (p := ⟨gT, i, none⟩) (by have := h.bH; have := h.HT; show w0.heap.size ≤ gT; omega) _, h.bH, h.HT, fun j hj => (h.has j hj).far (heap_setCell_other wr _ gH _ (by have := h.HT; show gH ≠ gT; omega)), fun j hj => ?_, fun j => (World.frozen?_setCells gT [_] i wr _).trans (h.fz j), fun j hj => ?_, fun j hj => ?_, fun j hj => ?_⟩
  · by_cases e : j = i
    · subst e
      rw [upd_same, upd_same, upd_same]
      exact World.cell?_setCell_same wr _ _ (h.cell j hj)
    · rw [upd_other _ _ e, upd_other _ _ e, upd_other _ _ e]
      exact (World.cell?_setCell_other wr _ _ _ (by intro hh; injection hh with _ h2; omega)).trans (h.cell j hj)
  · by_cases e : j = i
    · subst e
      rw [upd_same, upd_same, upd_same]
      exact ho.setFar (by simp) _
    · rw [upd_other _ _ e, upd_other _ _ e, upd_other _ _ e]
      exact (h.own j hj).setFar (by simp) _
  · by_cases e : j = i
    · subst e; rw [upd_same]; exact hx
    · rw [upd_other _ _ e]; exact h.byt j hj
  · by_cases e : j = i
    · subst e; rw [upd_same]; exact hl
    · rw [upd_other _ _ e]; exact Nat.le_trans (h.len j hj) hL
theorem S4.app (h : S4 w0 wr gH gT ks L mh ml A c) {X X' : Option Addr} (ha : AppAt wr w' X X') (hb : Below (gT + 1) wr w') (hd : ∀ i, i < 4 → Dis X (A i)) : S4 w0 w' gH gT ks L mh ml A c ∧ ∀ i, i < 4 → Dis X' (A i) :=
  ⟨⟨h.bel.trans (hb.mono (by have := h.bH; have := h.HT; omega)), h.bH, h.HT, fun i hi => (h.has i hi).far (hb.block gH (by have := h.HT; omega)), fun i hi => (hb.cell (show gT < gT + 1 by omega)).trans (h.cell i hi), fun i => (World.frozen?_of_block (hb.block gT (by omega))).trans (h.fz i), fun i hi => ha.other (h.own i hi) (hd i hi), h.byt, h.len⟩,
   fun i hi => ha.dis (h.own i hi) (hd i hi)⟩
end

/-! ### the beginning -/
def hz74 : List Value := hcells (zeros 8) (zeros 64) 0 false
def hz4 : List Value := flat (fun _ : Unit => hz74) [(), (), (), ()]
def nil4 : List Value := [.slice none 0 0, .slice none 0 0, .slice none 0 0, .slice none 0 0]
theorem zeroH4 (w : World) : (zeroValue 46).run Tryd.prog w = .ok (.agg hz4.toArray) w :=
  (zero_of_info (P := Tryd.prog) (t := 46) (v := .agg hz4.toArray) (n := 296) (by kernel_rfl)).1 w
theorem zeroT4 (w : World) : (zeroValue 47).run Tryd.prog w = .ok (.agg nil4.toArray) w :=
  (zero_of_info (P := Tryd.prog) (t := 47) (v := .agg nil4.toArray) (n := 4) (by kernel_rfl)).1 w
theorem zeroSt (w : World) : (zeroValue 41).run Tryd.prog w = .ok (.agg (encS zS).toArray) w :=
  (zero_of_info (P := Tryd.prog) (t := 41) (v := .agg (encS zS).toArray) (n := 4) (by kernel_rfl)).1 w
theorem hz74_length : hz74.length = 74 := hcells_length (by simp [zeros]) (by simp [zeros])
theorem S4.start (w : World) (ks : List Nat) : S4 w ((w.alloc (.cells hz4.toArray 46)).alloc (.cells nil4.toArray 47)) w.heap.size (w.heap.size + 1) ks 0 (fun _ => []) (fun _ => []) (fun _ => none) (fun _ => 0) := by
  have h1 : ((w.alloc (.cells hz4.toArray 46)).alloc (.cells nil4.toArray 47)).heap[w.heap.size]? = _ := heap_alloc2_old w _ _
  have h2 : ((w.alloc (.cells hz4.toArray 46)).alloc (.cells nil4.toArray 47)).heap[w.heap.size + 1]? = _ := heap_alloc2_new w _ _
  refine ⟨((Below.refl _ _).alloc (Nat.le_refl _) _).alloc (by simp) _, Nat.le_refl _, by omega, fun i hi => ?_, fun i hi => ?_, fun i => frozen_of_row _ _ _ _ _ h2, fun i _ => Own.nil _ _ _ _, fun i _ b hb => (by cases hb), fun i _ => Nat.le_refl _⟩
  · refine has_zero (HR.of_rangeO (fun j v hv => ?_) (fun k => frozen_of_row _ _ _ _ _ h1) (st := zeros 8) (rs := zeros 64) (by simp [zeros]) (by simp [zeros]))
    rw [cell_of_row _ _ _ _ _ _ h1]
    have hj : j < 74 := by
      have := (List.getElem?_eq_some_iff.1 hv).1
      rwa [show (hcells (zeros 8) (zeros 64) 0 false).length = 74 from hz74_length] at this
    have := flat_get (enc := fun _ : Unit => hz74) (k := 74) (fun _ => hz74_length) [(), (), (), ()] i j (by simpa using hi) hj
    simpa [hz4, this] using (show hz74[j]? = some v from hv)
  · rw [cell_of_row _ _ _ _ _ _ h2]
    match i, hi with
    | 0, _ => rfl
    | 1, _ => rfl
    | 2, _ => rfl
    | 3, _ => rfl
end Go.Proofs.YtfibfaablpoilaaDoor

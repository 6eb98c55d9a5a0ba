/- sorted, All: the walks. A range over a function: the law for a loop whose iterator hands out new memory, and whose caller may say what the new memory holds. No program is named here. -/
import Derived.Test.YtlolnpilpdkbkaaPkA7
import Derived.Test.YtlolnpilpdkbkaaPkA2
import Derived.RangeFuncNested
import Derived.RangeFuncCalls
import Derived.RangeFuncLeaves
import Derived.OwnWalkIn
import Derived.TacticsInMore
import Derived.LoopNIn
import Derived.LoopIn
import Derived.Shelf.Abstract

namespace Go.Proofs.Ytlolnpilpdkbkaa
open Go.RowKit Go.Maps Go.Sort
set_option linter.unusedSimpArgs false
set_option linter.unusedVariables false

/-- What stands in memory while sorted goes over the map. -/
structure SoM (w wr : World) (m n r : Nat) (D : DataW Unit) (left : Lit → Bool) (cnt : Nat) (A : Option Addr) (c : Nat) (pre : List KS) : Prop where
  rg : wr.ranges Try.prog 25 (unitElem (H := Unit)) m r n D left cnt
  bel : Below w.heap.size w wr
  own : Own wr w.heap.size 25 32 A pre.length c (rowsK (valsK pre))
  off : m < w.heap.size ∧ w.heap.size ≤ r ∧ r < wr.heap.size ∧ blockOf A ≠ some r
  sol : SoL D left pre
structure SoM0 (w wr : World) (m n r : Nat) (D : DataW Unit) (left : Lit → Bool) (cnt : Nat) (A : Option Addr) (c : Nat) (pre : List KS) : Prop where
  rg : wr.ranges Try.prog 25 (unitElem (H := Unit)) m r n D left cnt
  bel : Below w.heap.size w wr
  own : Own wr w.heap.size 25 32 A pre.length c (rowsK (valsK pre))
  off : m < w.heap.size ∧ w.heap.size ≤ r ∧ r < wr.heap.size ∧ blockOf A ≠ some r
section
variable {w wr w' : World} {m n r cnt cnt' c : Nat} {D : DataW Unit} {left left' : Lit → Bool} {A : Option Addr} {pre : List KS}
theorem SoM.next (h : SoM w wr m n r D left cnt A c pre) (hr : w'.ranges Try.prog 25 (unitElem (H := Unit)) m r n D left' cnt') (hg : wr.grownBy w' (some r)) : SoM0 w w' m n r D left' cnt' A c pre := by
  obtain ⟨l1, l2, l3, l4⟩ := h.off
  exact ⟨hr, h.bel.grown hg h.bel.size (fun j hj => by cases hj; omega), h.own.kept hg (fun k hk e => by cases e; exact l4 hk), l1, l2, Nat.lt_of_lt_of_le l3 hg.size, l4⟩
theorem SoM0.below (h : SoM0 w wr m n r D left cnt A c pre) (hb : Below wr.heap.size wr w') : SoM0 w w' m n r D left cnt A c pre := by
  obtain ⟨l1, l2, l3, l4⟩ := h.off
  exact ⟨h.rg.kept (grown_of_below hb none) (by simp) (by simp), h.bel.trans (hb.mono h.bel.size), h.own.below hb (fun k hk => (h.own.lt k hk).2), l1, l2, Nat.lt_of_lt_of_le l3 hb.size, l4⟩
theorem SoM0.own' {K : Nat} (h : SoM0 w wr m n r D left cnt A c pre) (hK : pre.length = K) : Own wr w.heap.size 25 32 A K c (rowsK (valsK pre)) := by
  have := h.own
  rwa [hK] at this
theorem SoM0.app {K c' : Nat} {A' : Option Addr} {x : KS} (h : SoM0 w wr m n r D left cnt A c pre) (hK : pre.length = K) (ho : Own w' w.heap.size 25 32 A' (K + 1) c' (rowsK (valsK (pre ++ [x])))) (ha : AppAt wr w' A A') (hs : SoL D left (pre ++ [x])) :
    SoM w w' m n r D left cnt A' c' (pre ++ [x]) := by
  obtain ⟨l1, l2, l3, l4⟩ := h.off
  have hg := ha.grown
  refine ⟨h.rg.kept hg (fun e => ?_) (fun e => l4 e.symm), ha.below h.own h.bel.size |> h.bel.trans, by rw [List.length_append, hK]; exact ho, ⟨l1, l2, Nat.lt_of_lt_of_le l3 hg.size, ha.off l3 l4⟩, hs⟩
  have := (h.own.lt m e.symm).1
  omega
theorem valsK_32 (pre : List KS) : ∀ x ∈ valsK pre, x.length = 32 := fun x hx => by obtain ⟨y, _, rfl⟩ := List.mem_map.1 hx; exact y.2.1
end
def SortedP (w : World) (ks : List (List Nat)) (e : Ending) (w' : World) : Prop :=
  ∃ A c, e = .returned (.slice A ks.length c) ∧ Own w' w.heap.size 25 32 A ks.length c (rowsK ks) ∧ Below w.heap.size w w'
set_option maxRecDepth 100000 in
set_option maxHeartbeats 4000000 in
theorem sorted_any (w : World) (s m n : Nat) (ks : List (List Nat)) (h : SetK w s m n ks) (hn : ks.length * 40 + 8000 ≤ 281474976710656) :
    Calls Try.prog 52 #[.pointer (some ⟨s, 0, none⟩)] w (SortedP w ks) := by
  obtain ⟨D, hS, hK⟩ := h
  obtain ⟨Q, hQ⟩ : ∃ Q, SortedP w ks = Q := ⟨_, rfl⟩
  have hpost : Hid (∀ A c w', Own w' w.heap.size 25 32 A ks.length c (rowsK ks) → Below w.heap.size w w' → Q (.returned (.slice A ks.length c)) w') := Lib.hid fun A c w' h1 h2 => by rw [← hQ]; exact ⟨A, c, rfl, h1, h2⟩
  rw [hQ]
  have hT := Lib.hid (there_any w s m n D hS)
  have c1 : w.cell? ⟨s, 0, none⟩ = some (.map (some m)) := by unfold World.cell?; simp [hS.1]
  have hl := hS.2.len mapK
  have hm : Hid (m < w.heap.size) := Lib.hid hS.2.lt
  have hs : Hid (s < w.heap.size) := Lib.hid (Array.getElem?_eq_some_iff.1 hS.1).1
  obtain ⟨N, hN⟩ : ∃ N, ks.length = N := ⟨_, rfl⟩
  rw [hK.size, hN] at hl
  rw [hN] at hn hpost
  have hN' := Lib.hid hN
  have hS' := Lib.hid hS
  have hK' := Lib.hid hK
  have hzk := zeroKy
  have hi32 : Hid ((Try.prog.info? 25).map (·.size) = some 32) := Lib.hid (by kernel_rfl)
  have hzs : Hid ((u8s (zeros 32)).toArray.size = 32) := Lib.hid (by simp [u8s, zeros])
  have hwd : (w.heap.size : Int) = w.heap.size := rfl
  clear hQ hS hK hN hwd
  go_enter Try.func52, Try.ntmps52
  go_wp2_with (first
    | (go_at_call 36; refine hT.out.mono ?_; rintro e w5 ⟨rfl, h5⟩; have h6 := h5.symm; clear h5; subst h6; clear hT)
    | (refine wpList_mk elK w rfl _ _ rfl rfl rfl 0 N rfl rfl (Nat.zero_le _) (by omega) (by unfold maxLen; omega) (Nat.le_refl _) ?_
       intro w1 ow gr bl sz
       have ow' := Lib.hid ow
       have bl' := Lib.hid bl
       have sz' := Lib.hid sz
       have c1 : w1.cell? ⟨s, 0, none⟩ = some (.map (some m)) := (bl.cell (p := ⟨s, 0, none⟩) hs.out).trans c1
       clear ow gr bl sz hl)
    | (at_range; refine wpList_range_own _ rfl _ 80 rfl 25 83 lawK mapK (unitElem (H := Unit)) m n D rfl (hS'.out.below bl'.out (Nat.le_refl _)).2 ?_; intro w0 hrg0 hg0 hs0; have hrg0' := Lib.hid hrg0; have hg0' := Lib.hid hg0; have hs0' := Lib.hid hs0; clear hrg0 hg0 hs0; go_frame))
  obtain ⟨R, hRR⟩ : ∃ R, w1.heap.size = R := ⟨_, rfl⟩
  have h0 : Hid (SoM w w0 m n R D (Maps.has D) (Maps.size D) (some ⟨w.heap.size, 0, none⟩) N []) := Lib.hid (by
    have hb0 : Below w1.heap.size w1 w0 := ⟨hg0'.out.os, hg0'.out.tape, hg0'.out.output, hg0'.out.size, fun i hi => hg0'.out.block i hi (by simp)⟩
    have l1 := sz'.out
    have l2 := hm.out
    have l3 := hs0'.out
    refine ⟨by rw [← hRR]; exact hrg0'.out, bl'.out.trans (hb0.mono bl'.out.size), ?_, ⟨l2, by omega, by omega, by simp [blockOf]; omega⟩, SoL.start D⟩
    have := ow'.out.below hb0 (fun k hk => (ow'.out.lt k hk).2)
    simpa [rowsK, valsK, madeCells] using this)
  rw [hRR]
  have hSz : Hid (Maps.size D = N) := Lib.hid (by rw [hK'.out.size, hN'.out])
  clear hrg0' hg0' hs0' hRR ow' bl' sz' c1
  go_loopw [3] (fun v wr => ∃ left cnt A c pre, v = .slice A pre.length c ∧ pre.length + cnt ≤ N ∧ Hid (SoM w wr m n R D left cnt A c pre)) (fun _ wr => wr.rangeLeft m R)
  case atStart => exact ⟨_, _, _, _, [], rfl, by rw [hSz.out]; simp, h0⟩
  case round =>
    clear h0 hSz
    obtain ⟨left, cnt, A, c, pre, rfl, hpc, hM⟩ := hrel
    obtain ⟨K, hKp⟩ : ∃ K, pre.length = K := ⟨_, rfl⟩
    rw [hKp] at hpc ⊢
    have hKp' := Lib.hid hKp
    clear hKp
    go_wp2_with (at_next; refine wpList_next_ranges _ rfl _ rfl 25 lawK (unitElem (H := Unit)) kv32 (fun _ : Unit => Value.agg #[]) kv32_inv unit_inv m R n D left cnt rfl hM.out.rg ?_ ?_)
    · intro hc0 hl0
      have hmem : Hid (∀ x, x ∈ valsK pre ↔ x ∈ ks) := Lib.hid (hM.out.sol.fin hK'.out hl0)
      have hd : Hid (pre.toArray.size = K) := Lib.hid (by simpa using hKp'.out)
      have hrs : Hid (valsK (pre.mergeSort fun x y => !(ltOf cfK) y x) = ks) := Lib.hid (sort_keys hK'.out.rise hM.out.sol.nodup hmem.out)
      have hKN : Hid (K = N) := Lib.hid (by
        have h1 := congrArg List.length hrs.out
        have h2 : (valsK (pre.mergeSort fun x y => !(ltOf cfK) y x)).length = pre.length := by simp [valsK]
        rw [h2, hKp'.out, hN'.out] at h1
        exact h1)
      have hO : Hid (Own wr w.heap.size 25 32 A K c (rowsK (valsK pre))) := Lib.hid (by have := hM.out.own; rwa [hKp'.out] at this)
      by_cases hz : K = 0
      · have hcon : Hid (Calls Try.prog 62 #[.slice A K c, .func (.func 9) #[] #[]] wr fun e w' => e = .returned (.tuple #[]) ∧ w' = wr) := Lib.hid (by
          rw [hz]
          exact AnyF.slices_SortFunc_none sortK A c _ wr)
        have hfin : Hid (Q (.returned (.slice A K c)) wr) := Lib.hid (by
          rw [hKN.out]
          refine hpost.out A c wr ?_ hM.out.bel
          have h1 := hO.out
          rw [hKN.out] at h1
          have h2 : valsK pre = ks := by
            have h3 : pre = [] := List.length_eq_zero_iff.1 (by rw [hKp'.out, hz])
            rw [← hrs.out, h3]
            simp
          rwa [h2] at h1)
        clear hz hl0 hpc
        go_wp2_with (go_at_call 62; refine hcon.out.mono ?_; rintro e w9 ⟨rfl, h9⟩; have h8 := h9.symm; clear h9; subst h8; clear hcon)
        exact hfin.out
      · obtain ⟨blk, rfl⟩ : ∃ blk, A = some ⟨blk, 0, none⟩ := by
          rcases hO.out.2 with ⟨_, h0⟩ | ⟨g, cap, cur, hv, _⟩
          · exact absurd h0 hz
          · cases hv
            exact ⟨g, rfl⟩
        have hcon : Hid (Calls Try.prog 62 #[.slice (some ⟨blk, 0, none⟩) K c, .func (.func 9) #[] #[]] wr fun e w' => e = .returned (.tuple #[]) ∧ Own w' w.heap.size 25 32 (some ⟨blk, 0, none⟩) K c (rowsK ks) ∧ wr.grownBy w' (some blk)) := Lib.hid (by
          have := AnyQ.slices_SortFunc_total sortK 32 aggK sizeK encKS encKS_len encKS_one cfK swoK 9 #[] blk 0 c pre.toArray wr (enters_of Try.func9 (by kernel_rfl) rfl) (cmpLaysK _ _ _ _) (holds_own (by simpa using hO.out)) (hO.out.lt blk rfl).2 (by rw [hd.out]; omega) totK
          rw [hd.out] at this
          refine this.mono ?_
          rintro e w' ⟨he, q, os, rfl⟩
          have h3 := own_sorted (m := q) (os := os) (d := (pre.toArray.toList.mergeSort fun x y => !(ltOf cfK) y x).toArray) hO.out (by simpa using hKp'.out)
          refine ⟨he, ?_, h3.2⟩
          have h4 := h3.1
          have h5 := hrs.out
          simp only [List.toList_toArray] at h4 ⊢
          rwa [h5] at h4)
        have hfin : Hid (∀ w', Own w' w.heap.size 25 32 (some ⟨blk, 0, none⟩) K c (rowsK ks) → wr.grownBy w' (some blk) → Q (.returned (.slice (some ⟨blk, 0, none⟩) K c)) w') := Lib.hid fun w' h1 h2 => by
          rw [hKN.out] at h1 ⊢
          exact hpost.out _ c w' h1 (hM.out.bel.grown h2 hM.out.bel.size (fun j hj => by cases hj; exact (hO.out.lt blk rfl).1))
        clear hz hl0 hpc
        go_wp2_with (go_at_call 62; refine hcon.out.mono ?_; rintro e w9 ⟨rfl, h9, h8⟩; have hf := Lib.hid (hfin.out _ h9 h8); clear h9 h8 hcon)
        exact hf.out
    · intro x kl ya yb wn cnt1 hkey hlk hv hat hrg1 hlt hg1 hs1 hen
      obtain ⟨xs, hx1, hx2⟩ := x
      have hsol : Hid (SoL D (fun z => left z && !z.sameKey kl) (pre ++ [⟨xs, hx1, hx2⟩])) := Lib.hid (hM.out.sol.next (x := ⟨xs, hx1, hx2⟩) hkey (Maps.has_true_of_atKey hat) hlk)
      have hxs : Hid ((u8s xs).toArray.size = 32) := Lib.hid (by simp [u8s, hx1])
      have hen2 : (Instr.entry (.pointer (some ⟨R, 0, none⟩))).run Try.prog wn = .ok (.tuple #[.agg (u8s xs).toArray, .agg #[]]) wn := hen
      have hM1 := Lib.hid (hM.out.next hrg1 hg1)
      have hrl := Lib.hid hM.out.rg.left_eq
      have hlt' := Lib.hid hlt
      simp only [kv32]
      have hkn := key_new wn xs
      have hkc := Lib.hid hkn.1
      have hMc := Lib.hid (hM1.out.below hkn.2)
      have hbK : Hid _ := Lib.hid (builtK xs hx1)
      have hone : Hid (∀ u ∈ (u8s xs).toArray.toList, u.oneCell' = true) := Lib.hid (fun u hu => u8s_one u (by simpa using hu))
      have hsn : Hid (rowsK (valsK pre) ++ (u8s xs).toArray.toList = rowsK (valsK (pre ++ [⟨xs, hx1, hx2⟩]))) := Lib.hid (by simp [valsK, rowsK])
      have hKN : Hid (K + 1 + cnt1 ≤ N) := Lib.hid (by omega)
      have hK0 : K + 1 ≤ N := by omega
      have hKb : (K + 1 + (K + 1) / 4 + 192) * 32 ≤ 281474976710656 := by omega
      clear hkey hlk hv hat hrg1 hlt hg1 hs1 hen hkn
      go_wp2_with (first
        | (refine wpList_store_row rfl 25 _ _ rfl wn.heap.size (u8s xs).toArray rfl rfl 25 _ (heap_alloc_new wn _) (by rw [hxs.out]; exact hi32.out) (by rw [hxs.out, hzs.out]) (all_oneCell_toArray u8s_one) ?_
           generalize ((wn.alloc (.cells (u8s (zeros 32)).toArray 25)).setRow wn.heap.size (u8s xs).toArray) = w5 at hkc hMc ⊢
           generalize wn.heap.size = gk at hkc ⊢)
        | (refine wpList_load_row rfl 25 _ rfl gk rfl 25 (u8s xs).toArray (0, 0) _ hkc.out Try.underlying25 rfl (by rw [hxs.out]; exact hi32.out) ?_)
        | (refine Great.wpList_buildSliceTo rfl 34 25 1 _ rfl _ rfl _ rfl Try.underlying34 (u8s xs).toArray (by rw [List.map_toArray]; exact hbK.out) ?_)
        | (at_builtin; refine wpList_app1 elK w5 (u8s xs).toArray hxs.out rfl _ _ rfl rfl (hMc.out.own' hKp'.out) rfl hone.out (by unfold maxLen; omega) hKb hMc.out.bel.size (K + 1) rfl _ hsn.out ?_
           intro A5 c5 w6 o6 at6 b6
           have hM6 := Lib.hid (hMc.out.app hKp'.out o6 at6 hsol.out)
           clear o6 at6 b6))
      go_roundw
      case rel => exact ⟨_, cnt1, A5, c5, pre ++ [⟨xs, hx1, hx2⟩], by simp [hKp'.out], by simp [hKp'.out]; have := hKN.out; omega, hM6⟩
      case measure => rw [hM6.out.rg.left_eq, hrl.out]; exact hlt'.out
end Go.Proofs.Ytlolnpilpdkbkaa

namespace Go.Proofs.Ytlolnpilpdkbkaa
open Go.RowKit

/-- A step that turns (or lays) an object that holds no cells, from block D on. -/
structure Puts (D : Nat) (W W' : World) : Prop where
  bel : Below D W W'
  cells : ∀ (k : Nat) (c : Array Value) (t : TypeId) (f : Nat × Nat), W.heap[k]? = some (.cells c t f) → W'.heap[k]? = some (.cells c t f)

theorem Puts.putObj {D : Nat} {W : World} {l : Nat} {o : Obj} (o' : Obj) (hl : W.heap[l]? = some o) (ho : o.isCells = false) (hD : D ≤ l) : Puts D W (W.putObj l o') where
  bel := ⟨rfl, rfl, rfl, by simp, fun k hk => World.putObj_heap_other (by omega)⟩
  cells := fun k _ _ _ hk => by
    rw [World.putObj_heap_other (fun e => by subst e; rw [hl] at hk; cases hk; cases ho)]
    exact hk
theorem Puts.alloc {D : Nat} (W : World) (o : Obj) (hD : D ≤ W.heap.size) : Puts D W (W.alloc o) where
  bel := (Below.refl _ _).alloc hD _
  cells := fun k _ _ _ hk => (Below.heap_alloc W o k (Array.getElem?_eq_some_iff.1 hk).1).trans hk
theorem Puts.trans {D : Nat} {A B C : World} (h : Puts D A B) (k : Puts D B C) : Puts D A C := ⟨h.bel.trans k.bel, fun i c t f hi => k.cells i c t f (h.cells i c t f hi)⟩
theorem Puts.cell {D : Nat} {W W' : World} (h : Puts D W W') {p : Addr} {v : Value} (hc : W.cell? p = some v) : W'.cell? p = some v := by
  unfold World.cell? at hc ⊢
  cases hb : W.heap[p.block]? with
  | none => rw [hb] at hc; cases hc
  | some o =>
    cases o with
    | cells c t f => rw [h.cells _ _ _ _ hb]; rw [hb] at hc; exact hc
    | _ => rw [hb] at hc; cases hc
theorem Puts.frozen {D : Nat} {W W' : World} (h : Puts D W W') {p : Addr} {v : Value} (hc : W.cell? p = some v) : W'.frozen? p = W.frozen? p := by
  unfold World.cell? at hc
  unfold World.frozen?
  cases hb : W.heap[p.block]? with
  | none => rw [hb] at hc; cases hc
  | some o =>
    cases o with
    | cells c t f => rw [h.cells _ _ _ _ hb]
    | _ => rw [hb] at hc; cases hc
theorem Rd.puts {D : Nat} {W W' : World} {B n : Nat} {A : Option Addr} {g : Nat → Value} (h : Rd W B A n g) (hp : Puts D W W') : Rd W' B A n g := fun hn => by
  obtain ⟨b, off, e, hb, hc⟩ := h hn
  exact ⟨b, off, e, hb, fun j hj => hp.cell (hc j hj)⟩
theorem Own.puts {D : Nat} {W W' : World} {B : Nat} {e : TypeId} {size n c : Nat} {A : Option Addr} {xs : List Value} (h : Own W B e size A n c xs) (hp : Puts D W W') : Own W' B e size A n c xs := by
  refine ⟨h.1, ?_⟩
  rcases h.2 with h0 | ⟨g, cap, cur, hv, hg, hh, rest⟩
  · exact .inl h0
  · exact .inr ⟨g, cap, cur, hv, hg, hp.cells _ _ _ _ hh, rest⟩
theorem below_puts {B D : Nat} {a w w' : World} (h : Below B a w) (hp : Puts D w w') (hB : B ≤ D) : Below B a w' := h.trans (hp.bel.mono hB)

/-- The blocks that 'ok' tells of are as they were. -/
structure Mid (ok : Nat → Prop) (W W' : World) : Prop where
  size : W.heap.size ≤ W'.heap.size
  block : ∀ k, ok k → W'.heap[k]? = W.heap[k]?
section
variable {ok : Nat → Prop} {W W' W2 : World}
theorem Mid.refl (ok : Nat → Prop) (W : World) : Mid ok W W := ⟨Nat.le_refl _, fun _ _ => rfl⟩
theorem Mid.trans (h : Mid ok W W') (k : Mid ok W' W2) : Mid ok W W2 := ⟨Nat.le_trans h.size k.size, fun i h1 => (k.block i h1).trans (h.block i h1)⟩
theorem Mid.of_below {B' : Nat} (h : Below B' W W') (hB : ∀ k, ok k → k < B') : Mid ok W W' := ⟨h.size, fun k hk => h.block k (hB k hk)⟩
theorem Mid.setCell (h : Mid ok W W') {p : Addr} (hp : ¬ ok p.block) (u : Value) : Mid ok W (W'.setCell p u) :=
  ⟨by have := h.size; simp [World.setCell]; exact this, fun k h1 => (Below.heap_setCell W' p u k (fun e => hp (e ▸ h1))).trans (h.block k h1)⟩
theorem Mid.cell (h : Mid ok W W') {p : Addr} (h1 : ok p.block) : W'.cell? p = W.cell? p := World.cell?_of_block (h.block _ h1)
end

/-- An iterator's contract: what it hands over is said by G of the world behind the round ahead and of the present one. -/
def SeqW {α : Type} (P : Program) (g : Nat) (lb : Array Value) (encs : α → Array Value) (G : World → World → List α → α → Prop) (S Sp : List α → Prop) (ok : Nat → Prop) (w : World) : Prop :=
  ∀ (l : Nat) (J Jx : List α → World → Prop) (W : World), Mid ok w W → J [] W →
    (∀ pre x W0 W1, J pre W0 → G W0 W1 pre x → YieldAt Fence.wide 0 P l (encs x) W1 fun e W' =>
      (e = .returned (.bool true) ∧ J (pre ++ [x]) W' ∧ Mid ok W1 W') ∨ (e = .returned (.bool false) ∧ Jx (pre ++ [x]) W')) →
    CallsIn Fence.wide 0 P g (#[.func (.yield l) #[] #[]] ++ lb) W fun e W' => (∃ v, e = .returned v) ∧ ((∃ xs W0, S xs ∧ J xs W0 ∧ Below W0.heap.size W0 W') ∨ (∃ pre, Sp pre ∧ Jx pre W'))

/-- How a round's body may be left. -/
def rndPost {α : Type} (D : Nat) (ok : Nat → Prop) (I : List α → World → Prop) (Ix : Code → List α → World → Prop) (xs : List α) (W1 W : World) : Exit → Act → World → Prop
  | .normal, _, W' => KeepsFrom D W W' ∧ Mid ok W1 W' ∧ I xs W'
  | .ret, _, W' => KeepsFrom D W W' ∧ Ix .ret xs W'
  | .exit id, _, W' => KeepsFrom D W W' ∧ Ix (.exit id) xs W'
  | .goto t, _, W' => KeepsFrom D W W' ∧ Ix (.goto t) xs W'
  | .panic _, _, _ => False
  | .outgrown, _, _ => False

def mark (D : Nat) : Deferred := { target := .collected D, args := #[] }

theorem keepsFrom_below {D : Nat} {W W' : World} (h : Below W.heap.size W W') : KeepsFrom D W W' :=
  ⟨h.size, fun k _ _ hk _ => (h.block k (Array.getElem?_eq_some_iff.1 hk).1).trans hk⟩

theorem keepsFrom_set (D : Nat) (W : World) (a : Addr) (u : Value) : KeepsFrom D W (W.setCell a u) := (KeepsOthers.setCell W a u).from D

theorem wp_rangeFunc {α : Type} {P : Program} {g : Operand} {ps : Array Tmp} {assign body : Code} {Q : Exit → Act → World → Prop} {a : Act} {w : World}
    {gf : Nat} {lb : Array Value} (hg : a.eval g = .func (.func gf) #[] lb) (eg : ∀ args w, (callFunc gf args).run P w = .ok (.enter gf args) w)
    {encs : α → Array Value} (hps : ∀ x, (encs x).size = ps.size) {G : World → World → List α → α → Prop} (hG : ∀ {W0 W1 pre x}, G W0 W1 pre x → Below W0.heap.size W0 W1) {S Sp : List α → Prop} {ok : Nat → Prop} {w0 : World}
    (hseq : SeqW P gf lb encs G S Sp ok w0) (hb0 : Mid ok w0 w) (hB : ∀ k, ok k → k < w.heap.size)
    (I : List α → World → Prop) (Ix : Code → List α → World → Prop)
    (hI : ∀ s W W', I s W → Puts w.heap.size W W' → I s W') (hIx : ∀ c s W W', Ix c s W → Puts w.heap.size W W' → Ix c s W') (hIb : ∀ s W W', I s W → Below W.heap.size W W' → I s W') (h0 : I [] w)
    (hround : ∀ (l : Nat) (pre : List α) (x : α) (W0 W1 : World), w.heap.size < l → I pre W0 → w.heap.size < W0.heap.size → G W0 W1 pre x →
      assign.wpIn (Fence.wide.inRound l) 0 P (Exit.then (fun a' W2 => KeepsFrom w.heap.size W1 W2 ∧ ∀ W3, Puts w.heap.size W2 W3 → body.wpIn (Fence.wide.inRound l) 0 P (rndPost w.heap.size ok I Ix (pre ++ [x]) W1 W3) a' W3) (fun _ _ _ => False))
        { tmps := (ps.zip (encs x)).foldl (fun t (p, v) => t.setIfInBounds p v) a.tmps, defers := [] } W1)
    (hdone : ∀ (D : Nat) (xs : List α) (W : World), w.heap.size ≤ D → S xs → I xs W → W.heap[D]? = some (.deferred (some [])) → Q .normal { a with defers := mark D :: a.defers } W)
    (hstop : ∀ (D : Nat) (c : Code) (pre : List α) (W : World), w.heap.size ≤ D → Sp pre → Ix c pre W → W.heap[D]? = some (.deferred (some [])) → c.wp P Q { a with defers := mark D :: a.defers } W) :
    (Code.rangeFunc g ps assign body).wp P Q a w := by
  refine (wpIn_wide (n := 0)).1 (wpIn_rangeFunc fun fn _ => ?_)
  obtain ⟨rec, hrec⟩ : ∃ rec : LoopState → Option Code → Loop, rec = fun st pe => { state := st, pending := pe, fn, tmps := a.tmps, params := ps, assign, body, defers := w.heap.size } := ⟨_, rfl⟩
  have hA1 : Puts w.heap.size w (w.alloc (.deferred (some []))) := Puts.alloc _ _ (Nat.le_refl _)
  have hA2 : Puts w.heap.size w ((w.alloc (.deferred (some []))).alloc (.loop (rec .ready none))) := hA1.trans (Puts.alloc _ _ (by simp))
  have hL1 : ((w.alloc (.deferred (some []))).alloc (.loop (rec .ready none))).heap[w.heap.size + 1]? = some (.loop (rec .ready none)) := by
    have := World.alloc_heap_new (w.alloc (.deferred (some []))) (.loop (rec .ready none))
    rwa [World.size_alloc] at this
  have hK1 : ((w.alloc (.deferred (some []))).alloc (.loop (rec .ready none))).heap[w.heap.size]? = some (.deferred (some [])) :=
    (Below.heap_alloc _ _ _ (by simp)).trans (World.alloc_heap_new w _)
  have hI1 := hI _ _ _ h0 hA2
  have hb1 : Mid ok w0 ((w.alloc (.deferred (some []))).alloc (.loop (rec .ready none))) := hb0.trans (Mid.of_below hA2.bel hB)
  have hent := run_enterLoop_outer (P := P) (w := w) fn a.tmps ps assign body
  rw [show ((w.alloc (.deferred (some []))).alloc (.loop { state := .ready, pending := none, fn, tmps := a.tmps, params := ps, assign, body, defers := w.heap.size })) = (w.alloc (.deferred (some []))).alloc (.loop (rec .ready none)) by rw [hrec]] at hent
  generalize ((w.alloc (.deferred (some []))).alloc (.loop (rec .ready none))) = W1 at hL1 hK1 hI1 hb1 hent
  clear hA1 hA2
  refine ⟨w.heap.size + 1, [mark w.heap.size], W1, { target := .fn (.func gf) lb, args := #[.func (.yield (w.heap.size + 1)) #[] #[]] }, W1, gf, #[.func (.yield (w.heap.size + 1)) #[] #[]] ++ lb, W1, hent, ?_, fun _ _ => trivial, ?_, fun h => by simp [Fence.wide] at h, ?_⟩
  · simp only [resolve, hg]
    simp [go_sem]
  · simp [invoke, go_sem, eg]
  refine (hseq (w.heap.size + 1)
    (fun pre W => I pre W ∧ W.heap[w.heap.size + 1]? = some (.loop (rec .ready none)) ∧ W.heap[w.heap.size]? = some (.deferred (some [])))
    (fun pre W => ∃ c, Ix c pre W ∧ W.heap[w.heap.size + 1]? = some (.loop (rec .done (some c))) ∧ W.heap[w.heap.size]? = some (.deferred (some [])))
    W1 hb1 ⟨hI1, hL1, hK1⟩ ?_).mono ?_
  · rintro pre x W0 W2 ⟨hi, hl0, hk0⟩ hg2
    have hbel := hG hg2
    have hlt0 : w.heap.size + 1 < W0.heap.size := (Array.getElem?_eq_some_iff.1 hl0).1
    have hl : W2.heap[w.heap.size + 1]? = some (.loop (rec .ready none)) := (hbel.block _ hlt0).trans hl0
    have hk : W2.heap[w.heap.size]? = some (.deferred (some [])) := (hbel.block _ (by omega)).trans hk0
    have hy := run_yield (P := P) (args := encs x) hl (by rw [hrec]; exact hps x)
    rw [hrec] at hy
    refine ⟨fn, _, assign, body, hy, roundIn_of_wpIn trivial (wpIn_mono (hround (w.heap.size + 1) pre x W0 W2 (by omega) hi (by omega) hg2) ?_)⟩
    clear hy
    rintro e a' W3 hp
    cases e with
    | normal =>
      obtain ⟨hkf, hbody⟩ := hp
      have hl3 := hkf.same _ _ (by omega) hl rfl
      have hk3 := hkf.same _ _ (Nat.le_refl _) hk rfl
      have hlt : w.heap.size + 1 < W3.heap.size := (Array.getElem?_eq_some_iff.1 hl3).1
      refine ⟨_, run_beginRound hl3 (by rw [hrec]), ?_⟩
      have hl4 : (W3.putObj (w.heap.size + 1) (.loop { rec .ready none with state := .busy })).heap[w.heap.size + 1]? = some (.loop { rec .ready none with state := .busy }) := World.putObj_heap_same hlt
      have hk4 : (W3.putObj (w.heap.size + 1) (.loop { rec .ready none with state := .busy })).heap[w.heap.size]? = some (.deferred (some [])) := (World.putObj_heap_other (by omega)).trans hk3
      refine wpIn_mono (hbody _ (Puts.putObj _ hl3 rfl (by omega))) ?_
      have fin : ∀ (jump : Option Code) (W5 : World), KeepsFrom w.heap.size (W3.putObj (w.heap.size + 1) (.loop { rec .ready none with state := .busy })) W5 →
          (Instr.endRound (w.heap.size + 1) jump).run P W5 = .ok (.bool jump.isNone) (W5.putObj (w.heap.size + 1) (.loop (rec (if jump.isNone then .ready else .done) jump))) ∧
          Puts w.heap.size W5 (W5.putObj (w.heap.size + 1) (.loop (rec (if jump.isNone then .ready else .done) jump))) ∧
          (W5.putObj (w.heap.size + 1) (.loop (rec (if jump.isNone then .ready else .done) jump))).heap[w.heap.size + 1]? = some (.loop (rec (if jump.isNone then .ready else .done) jump)) ∧
          (W5.putObj (w.heap.size + 1) (.loop (rec (if jump.isNone then .ready else .done) jump))).heap[w.heap.size]? = some (.deferred (some [])) := fun jump W5 hk5 => by
        have hl5 := hk5.same _ _ (by omega) hl4 rfl
        have h1 := run_endRound (P := P) jump hl5
        rw [hrec] at h1 ⊢
        exact ⟨h1, Puts.putObj _ hl5 rfl (by omega), World.putObj_heap_same (Array.getElem?_eq_some_iff.1 hl5).1, (World.putObj_heap_other (by omega)).trans (hk5.same _ _ (Nat.le_refl _) hk4 rfl)⟩
      rintro e a6 W5 hp
      cases e with
      | normal =>
        obtain ⟨h5, hb5, hi5⟩ := hp
        obtain ⟨hr, hpt, h6, h7⟩ := fin none W5 h5
        exact ⟨_, _, hr, .inl ⟨rfl, ⟨hI _ _ _ hi5 hpt, h6, h7⟩, hb5.trans (Mid.of_below hpt.bel hB)⟩⟩
      | ret =>
        obtain ⟨h5, hi5⟩ := hp
        obtain ⟨hr, hpt, h6, h7⟩ := fin (some .ret) W5 h5
        exact ⟨_, _, hr, .inr ⟨rfl, .ret, hIx _ _ _ _ hi5 hpt, h6, h7⟩⟩
      | exit id =>
        obtain ⟨h5, hi5⟩ := hp
        obtain ⟨hr, hpt, h6, h7⟩ := fin (some (.exit id)) W5 h5
        exact ⟨_, _, hr, .inr ⟨rfl, .exit id, hIx _ _ _ _ hi5 hpt, h6, h7⟩⟩
      | goto t =>
        obtain ⟨h5, hi5⟩ := hp
        obtain ⟨hr, hpt, h6, h7⟩ := fin (some (.goto t)) W5 h5
        exact ⟨_, _, hr, .inr ⟨rfl, .goto t, hIx _ _ _ _ hi5 hpt, h6, h7⟩⟩
      | panic ch => exact hp.elim
      | outgrown => exact hp.elim
    | _ => exact hp.elim
  · rintro e W2 ⟨⟨v, rfl⟩, (⟨xs, W0, hS, ⟨hi, hl, hk⟩, hb⟩ | ⟨pre, hSp, c, hi, hl, hk⟩)⟩
    · have hlt : w.heap.size + 1 < W0.heap.size := (Array.getElem?_eq_some_iff.1 hl).1
      have hl2 := (hb.block _ hlt).trans hl
      have hk2 := (hb.block _ (by omega)).trans hk
      have h1 := run_endLoop (P := P) hl2 (by rw [hrec]; simp)
      rw [hrec] at h1 hl2
      exact ⟨none, _, h1, hdone _ xs _ (Nat.le_refl _) hS (hI _ _ _ (hIb _ _ _ hi hb) (Puts.putObj _ hl2 rfl (by omega))) ((World.putObj_heap_other (by omega)).trans hk2)⟩
    · have h1 := run_endLoop (P := P) hl (by rw [hrec]; simp)
      rw [hrec] at h1 hl
      exact ⟨some c, _, h1, wpIn_wide.2 (hstop _ c pre _ (Nat.le_refl _) hSp (hIx _ _ _ _ hi (Puts.putObj _ hl rfl (by omega))) ((World.putObj_heap_other (by omega)).trans hk))⟩

/-- A function that holds such loops: its contract from its body. -/
theorem calls_marks {P : Program} {f : FuncId} {fn : Func} {c : Code} {args : Array Value} {w : World} {R : Ending → World → Prop}
    (hf : P.funcs[f]? = some fn) (hb : fn.body = some c)
    (h : c.wp P (bodyPostM Fence.wide 0 P fn R) { tmps := args ++ Array.replicate (fn.ntmps - args.size) undef, defers := [] } w) : Calls P f args w R :=
  (callsIn_wide (n := 0)).1 (callsIn_of_wp_marks hf hb trivial (wpIn_wide.2 h))
theorem keepsFrom_drewN (D : Nat) (W : World) (m : Nat) : KeepsFrom D W (W.drewN m) := ⟨Nat.le_refl _, fun _ _ _ h _ => h⟩
theorem leaves_none {P : Program} {fn : Func} {tmps : Array Value} {R : Ending → World → Prop} {w : World} {v : Value} (hr : (results fn tmps).run P w = .ok v w) (h : R (.returned v) w) : LeavesInM Fence.wide 0 P fn tmps R [] .returning w := ⟨v, hr, h⟩
theorem leaves_mark {P : Program} {fn : Func} {tmps : Array Value} {R : Ending → World → Prop} {w : World} {D : Nat} {v : Value} (hD : w.heap[D]? = some (.deferred (some [])))
    (hr : (results fn tmps).run P (w.putObj D (.deferred none)) = .ok v (w.putObj D (.deferred none))) (h : R (.returned v) (w.putObj D (.deferred none))) : LeavesInM Fence.wide 0 P fn tmps R [mark D] .returning w :=
  ⟨by simp, .inl ⟨_, _, rfl, run_takeDeferred hD, ⟨v, hr, h⟩⟩⟩
theorem results_cell1 {P : Program} {fn : Func} {p : Tmp} {ty : TypeId} (h : fn.results = #[.cell p ty]) {tmps : Array Value} {w : World} {a : Addr} {v : Value} (hp : tmps.getD p undef = .pointer (some a)) (hs : (loadVar ty a).run P w = .ok v w) :
    (results fn tmps).run P w = .ok v w := by
  have hp' : tmps[p]?.getD undef = .pointer (some a) := by simpa using hp
  simp [results, h, hp', asAddr, hs]
end Go.Proofs.Ytlolnpilpdkbkaa

/- sorted, All: the walks. -/
import Derived.Test.YtgjokkjmljdmbaaKySo
namespace Go.Proofs.Ytgjokkjmljdmbaa
open Go.RowKit Go.Maps Go.Sort
set_option linter.unusedSimpArgs false
set_option linter.unusedVariables false

/-- What stands in memory while sorted goes over the map. -/
structure SoM (w wr : World) (m n r : Nat) (D : DataW Unit) (left : Lit → Bool) (cnt : Nat) (A : Option Addr) (c : Nat) (pre : List KS) : Prop where
  rg : wr.ranges Try.prog 29 (unitElem (H := Unit)) m r n D left cnt
  bel : Below w.heap.size w wr
  own : Own wr w.heap.size 29 32 A pre.length c (rowsK (valsK pre))
  off : m < w.heap.size ∧ w.heap.size ≤ r ∧ r < wr.heap.size ∧ blockOf A ≠ some r
  sol : SoL D left pre
structure SoM0 (w wr : World) (m n r : Nat) (D : DataW Unit) (left : Lit → Bool) (cnt : Nat) (A : Option Addr) (c : Nat) (pre : List KS) : Prop where
  rg : wr.ranges Try.prog 29 (unitElem (H := Unit)) m r n D left cnt
  bel : Below w.heap.size w wr
  own : Own wr w.heap.size 29 32 A pre.length c (rowsK (valsK pre))
  off : m < w.heap.size ∧ w.heap.size ≤ r ∧ r < wr.heap.size ∧ blockOf A ≠ some r
section
variable {w wr w' : World} {m n r cnt cnt' c : Nat} {D : DataW Unit} {left left' : Lit → Bool} {A : Option Addr} {pre : List KS}
theorem SoM.next (h : SoM w wr m n r D left cnt A c pre) (hr : w'.ranges Try.prog 29 (unitElem (H := Unit)) m r n D left' cnt') (hg : wr.grownBy w' (some r)) : SoM0 w w' m n r D left' cnt' A c pre := by
  obtain ⟨l1, l2, l3, l4⟩ := h.off
  exact ⟨hr, h.bel.grown hg h.bel.size (fun j hj => by cases hj; omega), h.own.kept hg (fun k hk e => by cases e; exact l4 hk), l1, l2, Nat.lt_of_lt_of_le l3 hg.size, l4⟩
theorem SoM0.below (h : SoM0 w wr m n r D left cnt A c pre) (hb : Below wr.heap.size wr w') : SoM0 w w' m n r D left cnt A c pre := by
  obtain ⟨l1, l2, l3, l4⟩ := h.off
  exact ⟨h.rg.kept (grown_of_below hb none) (by simp) (by simp), h.bel.trans (hb.mono h.bel.size), h.own.below hb (fun k hk => (h.own.lt k hk).2), l1, l2, Nat.lt_of_lt_of_le l3 hb.size, l4⟩
theorem SoM0.own' {K : Nat} (h : SoM0 w wr m n r D left cnt A c pre) (hK : pre.length = K) : Own wr w.heap.size 29 32 A K c (rowsK (valsK pre)) := by
  have := h.own
  rwa [hK] at this
theorem SoM0.app {K c' : Nat} {A' : Option Addr} {x : KS} (h : SoM0 w wr m n r D left cnt A c pre) (hK : pre.length = K) (ho : Own w' w.heap.size 29 32 A' (K + 1) c' (rowsK (valsK (pre ++ [x])))) (ha : AppAt wr w' A A') (hs : SoL D left (pre ++ [x])) :
    SoM w w' m n r D left cnt A' c' (pre ++ [x]) := by
  obtain ⟨l1, l2, l3, l4⟩ := h.off
  have hg := ha.grown
  refine ⟨h.rg.kept hg (fun e => ?_) (fun e => l4 e.symm), ha.below h.own h.bel.size |> h.bel.trans, by rw [List.length_append, hK]; exact ho, ⟨l1, l2, Nat.lt_of_lt_of_le l3 hg.size, ha.off l3 l4⟩, hs⟩
  have := (h.own.lt m e.symm).1
  omega
theorem valsK_32 (pre : List KS) : ∀ x ∈ valsK pre, x.length = 32 := fun x hx => by obtain ⟨y, _, rfl⟩ := List.mem_map.1 hx; exact y.2.1
end
def SortedP (w : World) (ks : List (List Nat)) (e : Ending) (w' : World) : Prop :=
  ∃ A c, e = .returned (.slice A ks.length c) ∧ Own w' w.heap.size 29 32 A ks.length c (rowsK ks) ∧ Below w.heap.size w w'
set_option maxRecDepth 100000 in
set_option maxHeartbeats 4000000 in
theorem sorted_any (w : World) (s m n : Nat) (ks : List (List Nat)) (h : SetK w s m n ks) (hn : ks.length * 40 + 8000 ≤ 281474976710656) :
    Calls Try.prog 49 #[.pointer (some ⟨s, 0, none⟩)] w (SortedP w ks) := by
  obtain ⟨D, hS, hK⟩ := h
  obtain ⟨Q, hQ⟩ : ∃ Q, SortedP w ks = Q := ⟨_, rfl⟩
  have hpost : Hid (∀ A c w', Own w' w.heap.size 29 32 A ks.length c (rowsK ks) → Below w.heap.size w w' → Q (.returned (.slice A ks.length c)) w') := Lib.hid fun A c w' h1 h2 => by rw [← hQ]; exact ⟨A, c, rfl, h1, h2⟩
  rw [hQ]
  have hT := Lib.hid (there_any w s m n D hS)
  have c1 : w.cell? ⟨s, 0, none⟩ = some (.map (some m)) := by unfold World.cell?; simp [hS.1]
  have hl := hS.2.len mapK
  have hm : Hid (m < w.heap.size) := Lib.hid hS.2.lt
  have hs : Hid (s < w.heap.size) := Lib.hid (Array.getElem?_eq_some_iff.1 hS.1).1
  obtain ⟨N, hN⟩ : ∃ N, ks.length = N := ⟨_, rfl⟩
  rw [hK.size, hN] at hl
  rw [hN] at hn hpost
  have hN' := Lib.hid hN
  have hS' := Lib.hid hS
  have hK' := Lib.hid hK
  have hzk := zeroKy
  have hi32 : Hid ((Try.prog.info? 29).map (·.size) = some 32) := Lib.hid (by kernel_rfl)
  have hzs : Hid ((u8s (zeros 32)).toArray.size = 32) := Lib.hid (by simp [u8s, zeros])
  have hwd : (w.heap.size : Int) = w.heap.size := rfl
  clear hQ hS hK hN hwd
  go_enter Try.func49, Try.ntmps49
  go_wp2_with (first
    | (go_at_call 35; refine hT.out.mono ?_; rintro e w5 ⟨rfl, h5⟩; have h6 := h5.symm; clear h5; subst h6; clear hT)
    | (refine wpList_mk elK w rfl _ _ rfl rfl rfl 0 N rfl rfl (Nat.zero_le _) (by omega) (by unfold maxLen; omega) (Nat.le_refl _) ?_
       intro w1 ow gr bl sz
       have ow' := Lib.hid ow
       have bl' := Lib.hid bl
       have sz' := Lib.hid sz
       have c1 : w1.cell? ⟨s, 0, none⟩ = some (.map (some m)) := (bl.cell (p := ⟨s, 0, none⟩) hs.out).trans c1
       clear ow gr bl sz hl)
    | (at_range; refine wpList_range_own _ rfl _ 72 rfl 29 75 lawK mapK (unitElem (H := Unit)) m n D rfl (hS'.out.below bl'.out (Nat.le_refl _)).2 ?_; intro w0 hrg0 hg0 hs0; have hrg0' := Lib.hid hrg0; have hg0' := Lib.hid hg0; have hs0' := Lib.hid hs0; clear hrg0 hg0 hs0; go_frame))
  obtain ⟨R, hRR⟩ : ∃ R, w1.heap.size = R := ⟨_, rfl⟩
  have h0 : Hid (SoM w w0 m n R D (Maps.has D) (Maps.size D) (some ⟨w.heap.size, 0, none⟩) N []) := Lib.hid (by
    have hb0 : Below w1.heap.size w1 w0 := ⟨hg0'.out.os, hg0'.out.tape, hg0'.out.output, hg0'.out.size, fun i hi => hg0'.out.block i hi (by simp)⟩
    have l1 := sz'.out
    have l2 := hm.out
    have l3 := hs0'.out
    refine ⟨by rw [← hRR]; exact hrg0'.out, bl'.out.trans (hb0.mono bl'.out.size), ?_, ⟨l2, by omega, by omega, by simp [blockOf]; omega⟩, SoL.start D⟩
    have := ow'.out.below hb0 (fun k hk => (ow'.out.lt k hk).2)
    simpa [rowsK, valsK, madeCells] using this)
  rw [hRR]
  have hSz : Hid (Maps.size D = N) := Lib.hid (by rw [hK'.out.size, hN'.out])
  clear hrg0' hg0' hs0' hRR ow' bl' sz' c1
  go_loopw [3] (fun v wr => ∃ left cnt A c pre, v = .slice A pre.length c ∧ pre.length + cnt ≤ N ∧ Hid (SoM w wr m n R D left cnt A c pre)) (fun _ wr => wr.rangeLeft m R)
  case atStart => exact ⟨_, _, _, _, [], rfl, by rw [hSz.out]; simp, h0⟩
  case round =>
    clear h0 hSz
    obtain ⟨left, cnt, A, c, pre, rfl, hpc, hM⟩ := hrel
    obtain ⟨K, hKp⟩ : ∃ K, pre.length = K := ⟨_, rfl⟩
    rw [hKp] at hpc ⊢
    have hKp' := Lib.hid hKp
    clear hKp
    go_wp2_with (at_next; refine wpList_next_ranges _ rfl _ rfl 29 lawK (unitElem (H := Unit)) kv32 (fun _ : Unit => Value.agg #[]) kv32_inv unit_inv m R n D left cnt rfl hM.out.rg ?_ ?_)
    · intro hc0 hl0
      have hmem : Hid (∀ x, x ∈ valsK pre ↔ x ∈ ks) := Lib.hid (hM.out.sol.fin hK'.out hl0)
      have hd : Hid (pre.toArray.size = K) := Lib.hid (by simpa using hKp'.out)
      have hrs : Hid (valsK (pre.mergeSort fun x y => !(ltOf cfK) y x) = ks) := Lib.hid (sort_keys hK'.out.rise hM.out.sol.nodup hmem.out)
      have hKN : Hid (K = N) := Lib.hid (by
        have h1 := congrArg List.length hrs.out
        have h2 : (valsK (pre.mergeSort fun x y => !(ltOf cfK) y x)).length = pre.length := by simp [valsK]
        rw [h2, hKp'.out, hN'.out] at h1
        exact h1)
      have hO : Hid (Own wr w.heap.size 29 32 A K c (rowsK (valsK pre))) := Lib.hid (by have := hM.out.own; rwa [hKp'.out] at this)
      by_cases hz : K = 0
      · have hcon : Hid (Calls Try.prog 52 #[.slice A K c, .func (.func 36) #[] #[]] wr fun e w' => e = .returned (.tuple #[]) ∧ w' = wr) := Lib.hid (by
          rw [hz]
          exact AnyF.slices_SortFunc_none sortK A c _ wr)
        have hfin : Hid (Q (.returned (.slice A K c)) wr) := Lib.hid (by
          rw [hKN.out]
          refine hpost.out A c wr ?_ hM.out.bel
          have h1 := hO.out
          rw [hKN.out] at h1
          have h2 : valsK pre = ks := by
            have h3 : pre = [] := List.length_eq_zero_iff.1 (by rw [hKp'.out, hz])
            rw [← hrs.out, h3]
            simp
          rwa [h2] at h1)
        clear hz hl0 hpc
        go_wp2_with (go_at_call 52; refine hcon.out.mono ?_; rintro e w9 ⟨rfl, h9⟩; have h8 := h9.symm; clear h9; subst h8; clear hcon)
        exact hfin.out
      · obtain ⟨blk, rfl⟩ : ∃ blk, A = some ⟨blk, 0, none⟩ := by
          rcases hO.out.2 with ⟨_, h0⟩ | ⟨g, cap, cur, hv, _⟩
          · exact absurd h0 hz
          · cases hv
            exact ⟨g, rfl⟩
        have hcon : Hid (Calls Try.prog 52 #[.slice (some ⟨blk, 0, none⟩) K c, .func (.func 36) #[] #[]] wr fun e w' => e = .returned (.tuple #[]) ∧ Own w' w.heap.size 29 32 (some ⟨blk, 0, none⟩) K c (rowsK ks) ∧ wr.grownBy w' (some blk)) := Lib.hid (by
          have := AnyQ.slices_SortFunc_total sortK 32 aggK sizeK encKS encKS_len encKS_one cfK swoK 36 #[] blk 0 c pre.toArray wr (enters_of Try.func36 (by kernel_rfl) rfl) (cmpLaysK _ _ _ _) (holds_own (by simpa using hO.out)) (hO.out.lt blk rfl).2 (by rw [hd.out]; omega) totK
          rw [hd.out] at this
          refine this.mono ?_
          rintro e w' ⟨he, q, os, rfl⟩
          have h3 := own_sorted (m := q) (os := os) (d := (pre.toArray.toList.mergeSort fun x y => !(ltOf cfK) y x).toArray) hO.out (by simpa using hKp'.out)
          refine ⟨he, ?_, h3.2⟩
          have h4 := h3.1
          have h5 := hrs.out
          simp only [List.toList_toArray] at h4 ⊢
          rwa [h5] at h4)
        have hfin : Hid (∀ w', Own w' w.heap.size 29 32 (some ⟨blk, 0, none⟩) K c (rowsK ks) → wr.grownBy w' (some blk) → Q (.returned (.slice (some ⟨blk, 0, none⟩) K c)) w') := Lib.hid fun w' h1 h2 => by
          rw [hKN.out] at h1 ⊢
          exact hpost.out _ c w' h1 (hM.out.bel.grown h2 hM.out.bel.size (fun j hj => by cases hj; exact (hO.out.lt blk rfl).1))
        clear hz hl0 hpc
        go_wp2_with (go_at_call 52; refine hcon.out.mono ?_; rintro e w9 ⟨rfl, h9, h8⟩; have hf := Lib.hid (hfin.out _ h9 h8); clear h9 h8 hcon)
        exact hf.out
    · intro x kl ya yb wn cnt1 hkey hlk hv hat hrg1 hlt hg1 hs1 hen
      obtain ⟨xs, hx1, hx2⟩ := x
      have hsol : Hid (SoL D (fun z => left z && !z.sameKey kl) (pre ++ [⟨xs, hx1, hx2⟩])) := Lib.hid (hM.out.sol.next (x := ⟨xs, hx1, hx2⟩) hkey (Maps.has_true_of_atKey hat) hlk)
      have hxs : Hid ((u8s xs).toArray.size = 32) := Lib.hid (by simp [u8s, hx1])
      have hen2 : (Instr.entry (.pointer (some ⟨R, 0, none⟩))).run Try.prog wn = .ok (.tuple #[.agg (u8s xs).toArray, .agg #[]]) wn := hen
      have hM1 := Lib.hid (hM.out.next hrg1 hg1)
      have hrl := Lib.hid hM.out.rg.left_eq
      have hlt' := Lib.hid hlt
      simp only [kv32]
      have hkn := key_new wn xs
      have hkc := Lib.hid hkn.1
      have hMc := Lib.hid (hM1.out.below hkn.2)
      have hbK : Hid _ := Lib.hid (builtK xs hx1)
      have hone : Hid (∀ u ∈ (u8s xs).toArray.toList, u.oneCell' = true) := Lib.hid (fun u hu => u8s_one u (by simpa using hu))
      have hsn : Hid (rowsK (valsK pre) ++ (u8s xs).toArray.toList = rowsK (valsK (pre ++ [⟨xs, hx1, hx2⟩]))) := Lib.hid (by simp [valsK, rowsK])
      have hKN : Hid (K + 1 + cnt1 ≤ N) := Lib.hid (by omega)
      have hK0 : K + 1 ≤ N := by omega
      have hKb : (K + 1 + (K + 1) / 4 + 192) * 32 ≤ 281474976710656 := by omega
      clear hkey hlk hv hat hrg1 hlt hg1 hs1 hen hkn
      go_wp2_with (first
        | (refine wpList_store_row rfl 29 _ _ rfl wn.heap.size (u8s xs).toArray rfl rfl 29 _ (heap_alloc_new wn _) (by rw [hxs.out]; exact hi32.out) (by rw [hxs.out, hzs.out]) (all_oneCell_toArray u8s_one) ?_
           generalize ((wn.alloc (.cells (u8s (zeros 32)).toArray 29)).setRow wn.heap.size (u8s xs).toArray) = w5 at hkc hMc ⊢
           generalize wn.heap.size = gk at hkc ⊢)
        | (refine wpList_load_row rfl 29 _ rfl gk rfl 29 (u8s xs).toArray (0, 0) _ hkc.out Try.underlying29 rfl (by rw [hxs.out]; exact hi32.out) ?_)
        | (refine Great.wpList_buildSliceTo rfl 32 29 1 _ rfl _ rfl _ rfl Try.underlying32 (u8s xs).toArray (by rw [List.map_toArray]; exact hbK.out) ?_)
        | (at_builtin; refine wpList_app1 elK w5 (u8s xs).toArray hxs.out rfl _ _ rfl rfl (hMc.out.own' hKp'.out) rfl hone.out (by unfold maxLen; omega) hKb hMc.out.bel.size (K + 1) rfl _ hsn.out ?_
           intro A5 c5 w6 o6 at6 b6
           have hM6 := Lib.hid (hMc.out.app hKp'.out o6 at6 hsol.out)
           clear o6 at6 b6))
      go_roundw
      case rel => exact ⟨_, cnt1, A5, c5, pre ++ [⟨xs, hx1, hx2⟩], by simp [hKp'.out], by simp [hKp'.out]; have := hKN.out; omega, hM6⟩
      case measure => rw [hM6.out.rg.left_eq, hrl.out]; exact hlt'.out
end Go.Proofs.Ytgjokkjmljdmbaa

/- Left: do the marks behind a copied object's lists stand? A decoder's methods: next, Raw, Key, Open. -/
import Derived.Test.YtkjndgapejbgcaaDoorPkD6
import Derived.BigRegion

namespace Go.Proofs.YtkjndgapejbgcaaDoor
open Go.RowKit
set_option linter.unusedSimpArgs false

set_option maxRecDepth 100000 in
set_option maxHeartbeats 1000000 in
theorem clean_any (w : World) (b : List Nat) (A : Option Addr) (B cc : Nat) (ho : Own w B 5 1 A (b.length + 70) cc (u8s (marked b 70))) (hL : b.length ≤ 140737488355328) :
    Calls Tryd.prog 21 #[.slice A b.length cc] w fun e w' => e = .returned (.bool true) ∧ w = w' := by
  obtain ⟨L, hLL⟩ : ∃ L, Hid (∀ _ : Unit, b.length = L) := ⟨_, Lib.hid fun _ => rfl⟩
  rw [hLL.out ()] at hL ho ⊢
  obtain ⟨g, rfl⟩ := ho.head (by omega)
  have hle := ho.le
  have ho' := Lib.hid ho
  clear ho
  have hsl : ∀ W : World, (Instr.slice 24 (.slice (some ⟨g, 0, none⟩) L cc) none (some (.int .i64 ((L : Int) + 70))) none).run Tryd.prog W = .ok (.slice (some ⟨g, 0, none⟩) (L + 70) cc) W := fun W => by
    have hs : (sizeOf (Tryd.prog.elem 24)).run Tryd.prog W = .ok 1 W := by kernel_rfl
    rw [run_slice_h W 24 _ L cc (by rw [Tryd.underlying24]; kernel_rfl) .i64 ((L : Int) + 70) (by omega) (by omega), hs]
    simp only [Result.andThen, sliced, Nat.zero_mul, Nat.sub_zero]
    rw [if_neg (by omega), show ((L : Int) + 70).toNat = L + 70 by omega]
    simp [Addr.add_lit]
  go_enter Tryd.func21, Tryd.ntmps21
  go_wp2_with fail
  go_loop [4] (fun i => ∃ k : Nat, L ≤ k ∧ k ≤ L + 70 ∧ i = .int .i64 k) (fun i => L + 70 - (intOf i).toNat)
  case atStart => exact ⟨L, by omega, by omega, rfl⟩
  case round =>
    obtain ⟨k, hk, hk2, rfl⟩ := hrel
    by_cases hlt : k < L + 70
    · have hc := ho'.out.cell k (by omega)
      have e : (u8s (marked b 70))[k]? = some (.int .u8 165) := by
        rw [u8s_get _ _ (by rw [marked_length, hLL.out ()]; exact hlt), marked, List.getElem?_append_right (by rw [hLL.out ()]; exact hk), List.getElem?_replicate, if_pos (by rw [hLL.out ()]; omega)]
        rfl
      rw [e] at hc
      clear e
      go_wp2_with fail
      go_round
      case rel => exact ⟨k + 1, by omega, by omega, by go_num⟩
      case measure => simp [intOf]; omega
    · go_wp2_with fail
      go_ret
      exact ⟨rfl, rfl⟩

section
variable {P : Program} {ops : Array Oper} {rest : List Oper} {o : Oper} {a : Act} {w : World} {Q : Exit → Act → World → Prop}
theorem wpList_built (hw : Region.wanted o (yielded ops a.tmps) = true) (t : TypeId) (parts : Array (Nat × Operand)) (vs : Array (Nat × Value)) (ho : o.op = .build t parts) (hv : (parts.map fun (i, x) => (i, a.eval x)) = vs) (v : Value)
    (hr : (Instr.build t vs).run P w = .ok v w) (h : wpList P ops Q rest (a.put o.dst v) w) : wpList P ops Q (o :: rest) a w :=
  wpList_step fun K hK => by
    rw [if_pos hw]
    unfold Oper.wp execOp
    simp only [ho, hv, Sem.run_bind, hr, Result.andThen_ok]
    exact hK _ _ h
end
theorem zeroKey (w : World) : (zeroValue 28).run Tryd.prog w = .ok (.agg (encK zK).toArray) w :=
  (zero_of_info (P := Tryd.prog) (t := 28) (v := .agg (encK zK).toArray) (n := 32) (by kernel_rfl)).1 w

/-- A mark behind a row. -/
theorem mark_range {α : Type} {enc : α → List Value} {k : Nat} (hk : ∀ x, (enc x).length = k) {w : World} {B : Nat} {e : TypeId} {g c n : Nat} {l : List α} {m : α} (h : Own w B e k (some ⟨g, 0, none⟩) (n + 2) c (flat enc (l ++ [m, m]))) (hn : l.length = n) {j : Nat} (hj : n ≤ j) (hj2 : j < n + 2) : w.rangeAt g (j * k) (enc m) := fun i v hv => by
  have hi : i < k := by
    have := (List.getElem?_eq_some_iff.1 hv).1
    rwa [hk] at this
  have h1 : (j + 1) * k ≤ (n + 2) * k := Nat.mul_le_mul_right _ hj2
  rw [Nat.add_mul j 1 k, Nat.one_mul] at h1
  have hc := h.cell (j * k + i) (by omega)
  have hjl : j < (l ++ [m, m]).length := by simp; omega
  have hget : (l ++ [m, m])[j] = m := by
    have h2 : (l ++ [m, m])[j]? = some m := by
      rw [List.getElem?_append_right (by omega)]
      have : j - l.length = 0 ∨ j - l.length = 1 := by omega
      rcases this with h3 | h3 <;> rw [h3] <;> rfl
    rw [List.getElem?_eq_getElem hjl] at h2
    exact Option.some.inj h2
  rw [hc, flat_get hk _ j i hjl hi, hget, hv]

set_option maxRecDepth 100000 in
set_option maxHeartbeats 4000000 in
theorem left_any (w : World) (o : ObjT) (p : Lay) (B : Nat) (hl : LentK w B o p 4) (hf : Fit o) :
    Calls Tryd.prog 17 #[.agg (ocells o p).toArray] w fun e w' => e = .returned (.bool true) ∧ Below w.heap.size w w' := by
  have hi32 : (Tryd.prog.info? 28).map (·.size) = some 32 := by kernel_rfl
  have hi33 : (Tryd.prog.info? 47).map (·.size) = some 33 := by kernel_rfl
  have hi35 : (Tryd.prog.info? 50).map (·.size) = some 35 := by kernel_rfl
  have hi32' := Lib.hid hi32
  have hi33' := Lib.hid hi33
  have hi35' := Lib.hid hi35
  have zk := zeroKey
  have oP := hl.ps (by omega); have oI := hl.xs (by omega); have oK := hl.ks (by omega)
  obtain ⟨gp, hgp⟩ := oP.head (by omega)
  obtain ⟨gi, hgi⟩ := oI.head (by omega)
  obtain ⟨gk, hgk⟩ := oK.head (by omega)
  obtain ⟨np, hnp⟩ : ∃ n, Hid (∀ _ : Unit, o.parts.length = n) := ⟨_, Lib.hid fun _ => rfl⟩
  obtain ⟨ni, hni⟩ : ∃ n, Hid (∀ _ : Unit, o.items.length = n) := ⟨_, Lib.hid fun _ => rfl⟩
  obtain ⟨nk, hnk⟩ : ∃ n, Hid (∀ _ : Unit, o.parents.length = n) := ⟨_, Lib.hid fun _ => rfl⟩
  have lp : np * 40 ≤ 140737488355328 := by rw [← hnp.out ()]; exact hf.ps
  have li : ni * 64 ≤ 140737488355328 := by rw [← hni.out ()]; exact hf.xs
  have lk : nk * 32 ≤ 140737488355328 := by rw [← hnk.out ()]; exact hf.ks
  rw [hgp, hnp.out ()] at oP
  rw [hgi, hni.out ()] at oI
  rw [hgk, hnk.out ()] at oK
  have lep := oP.le; have lei := oI.le; have lek := oK.le
  have hoa : OBlk (w.alloc (.cells (ocells o p).toArray 31)) w.heap.size o p := heap_alloc_new w _
  have c1 := hoa.c1; have c2 := hoa.c2; have c3 := hoa.c3; have c36 := hoa.c36
  rw [hgp, hnp.out ()] at c2
  rw [hgi, hni.out ()] at c3
  rw [hgk, hnk.out ()] at c36
  have slP : ∀ W : World, (Instr.slice 25 (.slice (some ⟨gp, 0, none⟩) np p.cp) none (some (.int .i64 ((np : Int) + 2))) none).run Tryd.prog W = .ok (.slice (some ⟨gp, 0, none⟩) (np + 2) p.cp) W := fun W => by
    have hs : (sizeOf (Tryd.prog.elem 25)).run Tryd.prog W = .ok 33 W := by kernel_rfl
    rw [run_slice_h W 25 _ np p.cp (by rw [Tryd.underlying25]; kernel_rfl) .i64 ((np : Int) + 2) (by omega) (by omega), hs]
    simp only [Result.andThen, sliced, Nat.zero_mul, Nat.sub_zero]
    rw [if_neg (by omega), show ((np : Int) + 2).toNat = np + 2 by omega]
    simp [Addr.add_lit]
  have slI : ∀ W : World, (Instr.slice 26 (.slice (some ⟨gi, 0, none⟩) ni p.ci) none (some (.int .i64 ((ni : Int) + 2))) none).run Tryd.prog W = .ok (.slice (some ⟨gi, 0, none⟩) (ni + 2) p.ci) W := fun W => by
    have hs : (sizeOf (Tryd.prog.elem 26)).run Tryd.prog W = .ok 35 W := by kernel_rfl
    rw [run_slice_h W 26 _ ni p.ci (by rw [Tryd.underlying26]; kernel_rfl) .i64 ((ni : Int) + 2) (by omega) (by omega), hs]
    simp only [Result.andThen, sliced, Nat.zero_mul, Nat.sub_zero]
    rw [if_neg (by omega), show ((ni : Int) + 2).toNat = ni + 2 by omega]
    simp [Addr.add_lit]
  have slK : ∀ W : World, (Instr.slice 29 (.slice (some ⟨gk, 0, none⟩) nk p.ck) none (some (.int .i64 ((nk : Int) + 2))) none).run Tryd.prog W = .ok (.slice (some ⟨gk, 0, none⟩) (nk + 2) p.ck) W := fun W => by
    have hs : (sizeOf (Tryd.prog.elem 29)).run Tryd.prog W = .ok 32 W := by kernel_rfl
    rw [run_slice_h W 29 _ nk p.ck (by rw [Tryd.underlying29]; kernel_rfl) .i64 ((nk : Int) + 2) (by omega) (by omega), hs]
    simp only [Result.andThen, sliced, Nat.zero_mul, Nat.sub_zero]
    rw [if_neg (by omega), show ((nk : Int) + 2).toNat = nk + 2 by omega]
    simp [Addr.add_lit]
  have qP : ∀ W, (binOp .eql 47 (.agg (encP mkP).toArray) (.agg (encP mkP).toArray)).run Tryd.prog W = .ok (.bool true) W := fun W => by rw [eqP]; simp
  have qI : ∀ W, (binOp .eql 50 (.agg (encI mkI).toArray) (.agg (encI mkI).toArray)).run Tryd.prog W = .ok (.bool true) W := fun W => by rw [eqI]; simp
  have qK : ∀ W, (binOp .eql 28 (.agg (encK mkK).toArray) (.agg (encK mkK).toArray)).run Tryd.prog W = .ok (.bool true) W := fun W => by rw [eqK]; simp
  have uP := fun op a b => guP op a b (encP mkP).toArray (encP mkP).toArray
  have uI := fun op a b => guI op a b (encI mkI).toArray (encI mkI).toArray
  have uK := fun op a b => guK op a b (encK mkK).toArray (encK mkK).toArray
  have oP' := Lib.hid oP; have oI' := Lib.hid oI; have oK' := Lib.hid oK
  have hl' := Lib.hid hl
  have hf' := Lib.hid hf
  have hoa' := Lib.hid hoa
  have hkk' := Lib.hid (show (encK mkK).toArray.size = 32 by simp [encK_length])
  have hkz' := Lib.hid (show (encK zK).toArray.size = 32 by simp [encK_length])
  have hone' := Lib.hid (show (encK mkK).toArray.all (·.oneCell') = true from all_oneCell_toArray (encK_one mkK))
  clear hl hf hi32 hi33 hi35 oP oI oK hgp hgi hgk hoa
  go_enter Tryd.func17, Tryd.ntmps17
  go_wp2_with (first
    | (refine wpList_built rfl 28 _ #[(9, .int .u8 92)] rfl (by rw [List.map_toArray]; rfl) _ (buildK _) ?_)
    | (refine wpList_built rfl 47 _ #[(1, .int .u64 92)] rfl (by rw [List.map_toArray]; rfl) _ (buildP _) ?_)
    | (refine wpList_built rfl 50 _ #[(2, .int .u64 92)] rfl (by rw [List.map_toArray]; rfl) _ (buildI _) ?_)
    | (refine wpList_store_row rfl 28 _ _ rfl (w.heap.size + 1) (encK mkK).toArray rfl rfl 28 _ (heap_alloc2_new w _ _) (by rw [hkk'.out]; exact hi32'.out) (by rw [hkk'.out, hkz'.out]) hone'.out ?_
       have hN := setRow_heap _ (w.heap.size + 1) _ (encK mkK).toArray 28 _ (heap_alloc2_new w (.cells (ocells o p).toArray 31) (.cells (encK zK).toArray 28))
       have hBl : Below w.heap.size w (((w.alloc (.cells (ocells o p).toArray 31)).alloc (.cells (encK zK).toArray 28)).setRow (w.heap.size + 1) (encK mkK).toArray) := setRow_below (((Below.refl _ _).alloc (Nat.le_refl _) _).alloc (by simp) _) (by omega) _
       have hob : OBlk (((w.alloc (.cells (ocells o p).toArray 31)).alloc (.cells (encK zK).toArray 28)).setRow (w.heap.size + 1) (encK mkK).toArray) w.heap.size o p := (setRow_other _ (w.heap.size + 1) w.heap.size _ (by omega)).trans (heap_alloc2_old w _ _)
       generalize (((w.alloc (.cells (ocells o p).toArray 31)).alloc (.cells (encK zK).toArray 28)).setRow (w.heap.size + 1) (encK mkK).toArray) = w3 at hN hBl hob ⊢
       have hl3 := hl'.out.below hBl
       have rP1 := Lib.hid (mark_range encP_length (oP'.out.below hBl (fun j hj => (oP'.out.lt j hj).2)) (hnp.out ()) (j := np + 2 - 1) (by omega) (by omega))
       have rP2 := Lib.hid (mark_range encP_length (oP'.out.below hBl (fun j hj => (oP'.out.lt j hj).2)) (hnp.out ()) (j := np + 2 - 2) (by omega) (by omega))
       have rI1 := Lib.hid (mark_range encI_length (oI'.out.below hBl (fun j hj => (oI'.out.lt j hj).2)) (hni.out ()) (j := ni + 2 - 1) (by omega) (by omega))
       have rI2 := Lib.hid (mark_range encI_length (oI'.out.below hBl (fun j hj => (oI'.out.lt j hj).2)) (hni.out ()) (j := ni + 2 - 2) (by omega) (by omega))
       have rK1 := Lib.hid (mark_range encK_length (oK'.out.below hBl (fun j hj => (oK'.out.lt j hj).2)) (hnk.out ()) (j := nk + 1) (by omega) (by omega))
       have rK2 := Lib.hid (mark_range encK_length (oK'.out.below hBl (fun j hj => (oK'.out.lt j hj).2)) (hnk.out ()) (j := nk) (by omega) (by omega))
       have c1 := hob.c1
       have hN' := Lib.hid hN; have hBl' := Lib.hid hBl; have hl3' := Lib.hid hl3
       clear hN hBl hob hl3 oP' oI' oK' hl' hoa' slP slI slK c2 c3 c36
       skip)
    | (refine wpList_load_mid_g rfl 47 _ rfl gp ((np + 2 - 1) * 33) rfl (encP mkP) _ rP1.out Tryd.underlying47 rfl (by rw [encP_length]; exact hi33'.out) ?_)
    | (refine wpList_load_mid_g rfl 47 _ rfl gp ((np + 2 - 2) * 33) rfl (encP mkP) _ rP2.out Tryd.underlying47 rfl (by rw [encP_length]; exact hi33'.out) ?_)
    | (refine wpList_load_mid_g rfl 50 _ rfl gi ((ni + 2 - 1) * 35) rfl (encI mkI) _ rI1.out Tryd.underlying50 rfl (by rw [encI_length]; exact hi35'.out) ?_)
    | (refine wpList_load_mid_g rfl 50 _ rfl gi ((ni + 2 - 2) * 35) rfl (encI mkI) _ rI2.out Tryd.underlying50 rfl (by rw [encI_length]; exact hi35'.out) ?_))
  have hcl := Lib.hid (fun n : Nat => clean_any (w3.drewN n) o.data p.Ad B p.cd (by exact hl3'.out.d (by omega)) hf'.out.d)
  have ld1 : Hid (∀ q, (loadVar 28 ⟨gk, (nk + 1) * 32, none⟩).run Tryd.prog (w3.drewN q) = .ok (.agg (encK mkK).toArray) (w3.drewN q)) := Lib.hid fun q => run_loadVar_mid (w3.drewN q) gk _ 28 (encK mkK) _ (fun j v hv => rK1.out j v hv) Tryd.underlying28 rfl (by rw [encK_length]; exact hi32'.out)
  have ld2 : Hid (∀ q, (loadVar 28 ⟨gk, nk * 32, none⟩).run Tryd.prog (w3.drewN q) = .ok (.agg (encK mkK).toArray) (w3.drewN q)) := Lib.hid fun q => run_loadVar_mid (w3.drewN q) gk _ 28 (encK mkK) _ (fun j v hv => rK2.out j v hv) Tryd.underlying28 rfl (by rw [encK_length]; exact hi32'.out)
  have ld3 : Hid (∀ q, (loadVar 28 ⟨w.heap.size + 1, 0, none⟩).run Tryd.prog (w3.drewN q) = .ok (.agg (encK mkK).toArray) (w3.drewN q)) := Lib.hid fun q => run_loadVar_mid (w3.drewN q) (w.heap.size + 1) 0 28 (encK mkK) _ (fun j v hv => by rw [Nat.zero_add]; exact (cell_of_row w3 _ _ _ _ _ hN'.out).trans (by simpa using hv)) Tryd.underlying28 rfl (by rw [encK_length]; exact hi32'.out)
  have hw1 : IntKind.i64.wrap ((nk : Int) + 2 - 1) = (nk : Int) + 1 := by rw [IntKind.wrap_i64]; omega
  have hw2 : IntKind.i64.wrap ((nk : Int) + 2 - 2) = (nk : Int) := by rw [IntKind.wrap_i64]; omega
  have hw7 : IntKind.i64.wrap (nk : Int) = (nk : Int) := by rw [IntKind.wrap_i64]; omega
  have hw3 : (0 : Int) ≤ (nk : Int) + 1 := by omega
  have hw4 : (nk : Int) + 1 < (nk : Int) + 2 := by omega
  have hw5 : (nk : Int) < (nk : Int) + 2 := by omega
  have hw6 : ((nk : Int) + 1).toNat = nk + 1 := by omega
  refine wp_region_quiet_lit (by kernel_rfl) (by kernel_rfl) ?_
  iterate 2 (quiet_step (fail))
  quiet_step (exact quiet_e (hcl.out _))
  iterate 12 (quiet_step (fail))
  refine wpQuiet_load_mid rfl 28 _ rfl gk ((nk + 1) * 32) rfl _ (by rintro _ ⟨m, rfl⟩; exact ld1.out m) ?_
  refine wpQuiet_load_mid rfl 28 _ rfl (w.heap.size + 1) 0 rfl _ (by rintro _ ⟨m, rfl⟩; exact ld3.out m) ?_
  iterate 8 (quiet_step (fail))
  refine wpQuiet_load_mid rfl 28 _ rfl gk (nk * 32) rfl _ (by rintro _ ⟨m, rfl⟩; exact ld2.out m) ?_
  refine wpQuiet_load_mid rfl 28 _ rfl (w.heap.size + 1) 0 rfl _ (by rintro _ ⟨m, rfl⟩; exact ld3.out m) ?_
  iterate 3 (quiet_step (fail))
  refine wpQuiet_nil ?_
  rintro _ ⟨nq, rfl⟩
  go_wp2_with fail
  go_ret
  exact ⟨rfl, below_drewN hBl'.out _⟩
end Go.Proofs.YtkjndgapejbgcaaDoor

namespace Go.Proofs.YtkjndgapejbgcaaDoor
open Go.RowKit
set_option linter.unusedSimpArgs false
set_option linter.unusedVariables false

def cutD (A : Option Addr) (k c : Nat) : Option Addr := if c = k then A else A.map (·.add k)
theorem slice_cut (A : Option Addr) (L c lo hi : Nat) (H : Int) (hH : H = (hi : Int)) (h1 : lo ≤ hi) (h2 : hi ≤ c) (W : World) :
    (Instr.slice 24 (.slice A L c) (some (.int .i64 (lo : Int))) (some (.int .i64 H)) none).run Tryd.prog W = .ok (.slice (cutD A lo c) (hi - lo) (c - lo)) W := by
  subst hH
  have hs : (sizeOf (Tryd.prog.elem 24)).run Tryd.prog W = .ok 1 W := by kernel_rfl
  rw [run_slice_lh W 24 _ L c (by rw [Tryd.underlying24]; kernel_rfl) .i64 .i64 (lo : Int) (hi : Int) (by omega) (by omega) (by omega), hs]
  simp only [Result.andThen, sliced, Int.toNat_natCast, cutD, Nat.mul_one]
theorem byt_cut {w : World} {B k n c : Nat} {A : Option Addr} {l : List Nat} (h : Byt w B A l) (hc : l.length ≤ c) (hn : n ≤ l.length - k) : Byt w B (cutD A k c) ((l.drop k).take n) := by
  by_cases hk : k ≤ l.length
  · have h3 : Rd w B (cutD A k c) (l.length - k) (fun j => .int .u8 ((l[k + j]?.getD 0 : Nat) : Int)) := Rd.cut h hk hc
    have h4 := h3.take hn
    have hl : ((l.drop k).take n).length = n := by rw [List.length_take, List.length_drop]; omega
    unfold Byt
    rw [hl]
    refine h4.congr fun j hj => ?_
    rw [List.getElem?_take_of_lt hj, List.getElem?_drop]
  · have h0 : n = 0 := by omega
    subst h0
    exact byt_nil' _ _ _
where byt_nil' (w : World) (B : Nat) (A : Option Addr) : Byt w B A (List.take 0 (l.drop k)) := fun h => absurd h (by simp)

set_option maxRecDepth 20000 in
set_option maxHeartbeats 1000000 in
theorem next_ok {w : World} {g c k : Nat} {A : Option Addr} {l : List Nat} (h : DecAt w g A c l k none) (n : Nat) (hn : n ≤ l.length - k) (z : Int) :
    Calls Tryd.prog 75 #[.pointer (some ⟨g, 0, none⟩), .int .i64 (n : Int), .int .i64 z] w fun e w' => (∃ A' c', e = .returned (.slice A' n c') ∧ Byt w' w'.heap.size A' ((l.drop k).take n) ∧ n ≤ c') ∧ DecAt w' g A c l (k + n) none ∧ w.grownBy w' (some g) := by
  have h' := Lib.hid h
  obtain ⟨L, hL⟩ : ∃ n, Hid (∀ _ : Unit, l.length = n) := ⟨_, Lib.hid fun _ => rfl⟩
  have c0 := h.c0
  have c1 := h.c1
  have f1 := h.fz 1
  have hle := h.le
  have hcap := h.cap
  rw [hL.out ()] at c0 hle hcap hn
  have w1 : IntKind.i64.wrap ((L : Int) - (k : Int)) = (L : Int) - (k : Int) := IntWalk.i64_in _ (by omega)
  have w2 : IntKind.i64.wrap ((k : Int) + (n : Int)) = (k : Int) + (n : Int) := IntWalk.i64_in _ (by omega)
  have hnl : (n : Int) ≤ (L : Int) - (k : Int) := by omega
  have hsl := fun W => slice_cut A L c k (k + n) ((k : Int) + (n : Int)) (by omega) (by omega) (by omega) W
  rw [show k + n - k = n by omega] at hsl
  have hmv : Hid (∀ q : Nat, DecAt ((w.drewN q).setCell ⟨g, 1, none⟩ (.int .i64 ((k : Int) + (n : Int)))) g A c l (k + n) none ∧ w.grownBy ((w.drewN q).setCell ⟨g, 1, none⟩ (.int .i64 ((k : Int) + (n : Int)))) (some g)) := Lib.hid (fun q => by
    have := (h.drewN q).move (k' := k + n) (by rw [hL.out ()]; omega)
    rw [Int.natCast_add] at this
    exact ⟨this.1, (grown_drewN w q _).trans this.2⟩)
  have hby : Hid (∀ W : World, DecAt W g A c l (k + n) none → Byt W W.heap.size (cutD A k c) ((l.drop k).take n)) := Lib.hid fun W hd => byt_cut hd.byt hd.cap.1 (by rw [hL.out ()]; exact hn)
  have hcn : Hid (n ≤ c - k) := Lib.hid (by omega)
  have ww1 : IntKind.i64.wrap (k : Int) = (k : Int) := IntWalk.i64_in _ (by omega)
  clear h
  go_enter Tryd.func75, Tryd.ntmps75
  go_wp2_with fail
  go_quiet (fail)
  go_wp2_with fail
  go_quiet (fail)
  go_wp2_with fail
  go_ret
  exact ⟨⟨_, _, rfl, hby.out _ (DecAt.drewN (hmv.out _).1 _), hcn.out⟩, DecAt.drewN (hmv.out _).1 _, (hmv.out _).2.trans (grown_drewN _ _ _)⟩
theorem next_no {w : World} {g c k : Nat} {A : Option Addr} {l : List Nat} (h : DecAt w g A c l k none) (n : Nat) (hn : l.length - k < n) (hn2 : n ≤ 4611686018427387904) (z : Int) :
    Calls Tryd.prog 75 #[.pointer (some ⟨g, 0, none⟩), .int .i64 (n : Int), .int .i64 z] w fun e w' => e = .returned (.slice none 0 0) ∧ DecS w' g A c l none ∧ w.grownBy w' (some g) := by
  have h' := Lib.hid h
  obtain ⟨L, hL⟩ : ∃ n, Hid (∀ _ : Unit, l.length = n) := ⟨_, Lib.hid fun _ => rfl⟩
  have c0 := h.c0
  have c1 := h.c1
  have hle := h.le
  have hcap := h.cap
  rw [hL.out ()] at c0 hle hcap hn
  have w1 : IntKind.i64.wrap ((L : Int) - (k : Int)) = (L : Int) - (k : Int) := IntWalk.i64_in _ (by omega)
  have hnl : (L : Int) - (k : Int) < (n : Int) := by omega
  clear h
  go_enter Tryd.func75, Tryd.ntmps75
  go_wp2_with fail
  go_quiet (fail)
  go_wp2_with fail
  refine (stop_any (DecAt.drewN h'.out _) _ _).mono ?_
  rintro e w2 ⟨⟨v, rfl⟩, h2, g2⟩
  have h2' := Lib.hid h2
  have g2' := Lib.hid ((grown_drewN w _ _).trans g2)
  clear h2 g2
  go_wp2_with fail
  go_ret
  exact ⟨rfl, h2'.out, g2'.out⟩

/-- Raw: so many bytes. -/
theorem rawd_any {w : World} {g c : Nat} {A : Option Addr} {l : List Nat} {s : DSt} (h : DecS w g A c l s) (n : Nat) (hn2 : n ≤ 4611686018427387904) :
    Calls Tryd.prog 77 #[.pointer (some ⟨g, 0, none⟩), .int .i64 (n : Int)] w fun e w' => (∃ A' c', e = .returned (.slice A' (rawM l n s).1.length c') ∧ Own w' w.heap.size 5 1 A' (rawM l n s).1.length c' (u8s (rawM l n s).1) ∧ ((rawM l n s).1 = [] → A' = none)) ∧ DecS w' g A c l (rawM l n s).2 ∧ w.grownBy w' (some g) := by
  have hov := Lib.hid (over_any h)
  have hcap := h.cap
  cases s with
  | none =>
    have h' := Lib.hid h
    clear h hcap
    go_enter Tryd.func77, Tryd.ntmps77
    go_wp2_with (refine hov.out.mono ?_; rintro e w' ⟨rfl, rfl⟩)
    go_ret
    exact ⟨⟨none, 0, rfl, Own.nil _ _ _ _, fun _ => rfl⟩, h'.out, (grown_drewN w 0 _)⟩
  | some k =>
    have h' := Lib.hid h
    have c1 := DecAt.c1 h
    have hle := DecAt.le h
    rcases Nat.eq_zero_or_pos n with h0 | h0
    · subst h0
      have hr : Hid (rawM l 0 (some k) = ([], some k)) := Lib.hid (by simp [rawM])
      rw [hr.out]
      clear h c1 hle hcap
      go_enter Tryd.func77, Tryd.ntmps77
      go_wp2_with (refine hov.out.mono ?_; rintro e w' ⟨rfl, rfl⟩)
      go_ret
      exact ⟨⟨none, 0, rfl, Own.nil _ _ _ _, fun _ => rfl⟩, h'.out, (grown_drewN w 0 _)⟩
    · have hpz : (0 : Int) < (n : Int) := by omega
      by_cases hn : n ≤ l.length - k
      · obtain ⟨x, hx⟩ : ∃ x, Hid (∀ _ : Unit, (l.drop k).take n = x) := ⟨_, Lib.hid fun _ => rfl⟩
        have hxl : Hid (x.length = n) := Lib.hid (by rw [← hx.out (), List.length_take, List.length_drop]; omega)
        have hr : Hid (rawM l n (some k) = (x, some (k + n))) := Lib.hid (by simp [rawM, hn, hx.out ()])
        rw [hr.out]
        simp only
        rw [hxl.out]
        have hnx := Lib.hid (fun z => next_ok h n hn z)
        have hbig : Hid (n ≤ 140737488355328) := Lib.hid (by omega)
        clear h hcap hle hn
        go_enter Tryd.func77, Tryd.ntmps77
        go_wp2_with (first
          | (refine hov.out.mono ?_; rintro e w' ⟨rfl, rfl⟩)
          | (go_at_call 75
             refine (hnx.out _).mono ?_
             rintro e w2 ⟨⟨A2, c2, rfl, hb, _⟩, h2, g2⟩
             rw [hx.out ()] at hb
             have hcl := clone_any hb n c2 hxl.out h0 hbig.out
             have hcl' := Lib.hid hcl
             have h2' := Lib.hid h2
             have g2' := Lib.hid g2
             clear hb h2 g2 hcl)
          | (go_at_call 70
             refine hcl'.out.mono ?_
             rintro e w3 ⟨⟨A3, c3, rfl, o3⟩, b3⟩
             have o3' := Lib.hid (o3.base g2'.out.size)
             have h3' := Lib.hid (DecAt.keep h2'.out b3)
             have g3' := Lib.hid (g2'.out.trans (grown_below' b3))
             clear o3 b3 hcl'))
        go_ret
        exact ⟨⟨_, _, rfl, o3'.out, fun e => by have := hxl.out; rw [e] at this; simp at this; omega⟩, h3'.out, g3'.out⟩
      · have hr : Hid (rawM l n (some k) = ([], none)) := Lib.hid (by simp [rawM, hn])
        rw [hr.out]
        have hnx := Lib.hid (fun z => next_no h n (by omega) hn2 z)
        clear h hcap hle hn
        go_enter Tryd.func77, Tryd.ntmps77
        go_wp2_with (first
          | (refine hov.out.mono ?_; rintro e w' ⟨rfl, rfl⟩)
          | (go_at_call 75
             refine (hnx.out _).mono ?_
             rintro e w2 ⟨rfl, h2, g2⟩
             have h2' := Lib.hid h2
             have g2' := Lib.hid g2
             clear h2 g2)
          | (go_at_call 70
             refine (bytes_Clone_nil 0 0 _).mono ?_
             rintro e w' ⟨rfl, rfl⟩))
        go_ret
        exact ⟨⟨none, 0, rfl, Own.nil _ _ _ _, fun _ => rfl⟩, h2'.out, g2'.out⟩
end Go.Proofs.YtkjndgapejbgcaaDoor

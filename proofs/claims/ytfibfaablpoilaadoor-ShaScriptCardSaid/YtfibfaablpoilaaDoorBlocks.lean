/- ShaBlocks: the law's walk. -/
import Derived.Test.YtfibfaablpoilaaDoorStart
import Derived.Test.YtfibfaablpoilaaDoorArrEq
import Derived.Deep.CutRange
import Derived.Deep.RegionLaw
import Derived.Deep.RegionHeld3
namespace Go.Proofs.YtfibfaablpoilaaDoor
open Go.RowKit
set_option linter.unusedSimpArgs false

/-- The first k numbers of a list, the rest 0. -/
def padTo (n : Nat) (l : List Nat) (k : Nat) : List Nat := l.take k ++ zeros (n - k)
theorem padTo_len {n k : Nat} {l : List Nat} (h : k ≤ n) (h2 : k ≤ l.length) : (padTo n l k).length = n := by simp [padTo, zeros]; omega
theorem padTo_set {n k : Nat} {l : List Nat} (h : k < n) (h2 : k < l.length) : (padTo n l k).set k (l[k]?.getD 0) = padTo n l (k + 1) := by
  unfold padTo zeros
  rw [List.set_append_right _ _ (by simp; omega), List.length_take, Nat.min_eq_left (by omega), Nat.sub_self]
  obtain ⟨m, hm⟩ : ∃ m, n - k = m + 1 := ⟨n - k - 1, by omega⟩
  rw [hm, List.replicate_succ, show n - (k + 1) = m by omega, List.take_succ_eq_append_getElem h2, List.getElem?_eq_getElem h2, Option.getD_some, List.set_cons_zero, List.append_assoc]
  rfl
theorem padTo_lt {n k B : Nat} {l : List Nat} (hB : 0 < B) (hl : ∀ x ∈ l, x < B) : ∀ x ∈ padTo n l k, x < B := by
  intro x hx
  rcases List.mem_append.1 hx with h | h
  · exact hl x (List.mem_of_mem_take h)
  · have := (List.mem_replicate.1 h).2
    omega

/-- A row of words. -/
abbrev Wds (w : World) (B : Nat) (A : Option Addr) (l : List Nat) : Prop := Rd w B A l.length (fun j => .int .u32 ((l[j]?.getD 0 : Nat) : Int))

/-- What stands while the state is filled. -/
structure FB (w wr : World) (c0 c1 : Value) (L : List Nat) : Prop where
  bel : Below w.heap.size w wr
  box0 : wr.cell? ⟨w.heap.size, 0, none⟩ = some c0
  box1 : wr.cell? ⟨w.heap.size, 1, none⟩ = some c1
  st : Blk32 wr (w.heap.size + 1) 27 L
theorem FB.set {w wr : World} {c0 c1 : Value} {L : List Nat} (h : FB w wr c0 c1 L) (k x : Nat) : FB w (wr.setCell ⟨w.heap.size + 1, k, none⟩ (.int .u32 (x : Int))) c0 c1 (L.set k x) where
  bel := h.bel.setCell (p := ⟨w.heap.size + 1, k, none⟩) (by simp) _
  box0 := (World.cell?_setCell_other wr _ _ _ (by simp)).trans h.box0
  box1 := (World.cell?_setCell_other wr _ _ _ (by simp)).trans h.box1
  st := h.st.set k x
/-- What stands while the block is filled. -/
structure FC (w wr : World) (c0 c1 : Value) (L : List Nat) (g : Nat) (M : List Nat) : Prop where
  fb : FB w wr c0 c1 L
  blk : wr.heap[g]? = some (.cells (u8row M) 28 (0, 0))
  gt : w.heap.size + 1 < g
theorem u8row_set (l : List Nat) (k x : Nat) : (u8row l).setIfInBounds k (.int .u8 (x : Int)) = u8row (l.set k x) := by simp [u8row, u8s, List.map_set]
theorem FC.set {w wr : World} {c0 c1 : Value} {L M : List Nat} {g : Nat} (h : FC w wr c0 c1 L g M) (k x : Nat) : FC w (wr.setCell ⟨g, k, none⟩ (.int .u8 (x : Int))) c0 c1 L g (M.set k x) where
  fb := ⟨h.fb.bel.setCell (p := ⟨g, k, none⟩) (by have := h.gt; simp; omega) _, (World.cell?_setCell_other wr _ _ _ (by have := h.gt; simp; try omega)).trans h.fb.box0, (World.cell?_setCell_other wr _ _ _ (by have := h.gt; simp; try omega)).trans h.fb.box1, h.fb.st.far (p := ⟨g, k, none⟩) (by have := h.gt; simp; omega) _⟩
  blk := by
    have := heap_setCell_same wr g k _ _ (.int .u8 (x : Int)) h.blk
    rw [u8row_set] at this
    exact this
  gt := h.gt
theorem FC.keep {w wr w' : World} {c0 c1 : Value} {L M : List Nat} {g : Nat} (h : FC w wr c0 c1 L g M) (hb : Below wr.heap.size wr w') : FC w w' c0 c1 L g M where
  fb := ⟨h.fb.bel.trans (hb.mono h.fb.bel.size), (hb.cell (by have := h.fb.st.lt; simp; omega)).trans h.fb.box0, (hb.cell (by have := h.fb.st.lt; simp; omega)).trans h.fb.box1, h.fb.st.below hb h.fb.st.lt⟩
  blk := (hb.block g (Array.getElem?_eq_some_iff.1 h.blk).1).trans h.blk
  gt := h.gt

theorem zero64b (w : World) : (zeroValue 28).run Tryd.prog w = .ok (.agg (u8row (zeros 64))) w :=
  (zero_of_info (P := Tryd.prog) (t := 28) (v := .agg (u8row (zeros 64))) (n := 64) (by kernel_rfl)).1 w
theorem u8row_frozen {w : World} {g : Nat} {t : TypeId} {M : List Nat} (h : w.heap[g]? = some (.cells (u8row M) t (0, 0))) (k : Nat) : w.frozen? ⟨g, k, none⟩ = false := frozen_of_row _ _ _ _ _ h

theorem load8 {w : World} {g : Nat} {t : TypeId} {l : List Nat} (h : Blk32 w g t l) (hl : l.length = 8) : (loadCellsFrom ⟨g, 0, none⟩ 0 8 #[]).run Tryd.prog w = .ok (u32s l).toArray w := by
  have := run_loadCells_list (P := Tryd.prog) w ⟨g, 0, none⟩ (u32s l) (fun j v hv => by
    have hadd : (⟨g, 0, none⟩ : Addr).add j = ⟨g, j, none⟩ := by unfold Addr.add; split <;> simp_all
    rw [hadd, cell_of_row _ _ _ _ _ _ h]
    simpa using hv)
  rw [u32s_length, hl] at this
  simpa [loadCells] using this
theorem store8 {w : World} {g : Nat} {t : TypeId} {l l' : List Nat} (h : Blk32 w g t l) (hl : l.length = l'.length) : (storeCells ⟨g, 0, none⟩ (u32s l') 0).run Tryd.prog w = .ok () (w.setRow g (u32s l').toArray) := by
  have := run_storeCells_from (P := Tryd.prog) g t (u32s l') 0 (u32s l).toArray w h (by simp [u32s, hl]) (fun v hv => by
    obtain ⟨x, _, rfl⟩ := List.mem_map.1 hv
    rfl)
  rw [this]
  rfl
theorem FC.drew {w wr : World} {c0 c1 : Value} {L M : List Nat} {g : Nat} (h : FC w wr c0 c1 L g M) : FC w wr.drew c0 c1 L g M := ⟨⟨h.fb.bel.drew, h.fb.box0, h.fb.box1, h.fb.st⟩, h.blk, h.gt⟩
theorem FC.byt {w wr : World} {c0 c1 : Value} {L M : List Nat} {g : Nat} (h : FC w wr c0 c1 L g M) : Byt wr wr.heap.size (some ⟨g, 0, none⟩) M := fun _ =>
  ⟨g, 0, rfl, (Array.getElem?_eq_some_iff.1 h.blk).1, fun j hj => by rw [Nat.zero_add]; exact u8row_cell h.blk hj⟩

theorem FC.put {w wr : World} {c0 c1 : Value} {L M : List Nat} {g k : Nat} (h : FC w wr c0 c1 L g M) (hk : g < k) (cs : Array Value) : FC w (wr.setRow k cs) c0 c1 L g M where
  fb := ⟨setRow_below h.fb.bel (by have := h.gt; omega) _, (World.cell?_of_block (setRow_other _ _ _ _ (by have := h.gt; simp; omega))).trans h.fb.box0, (World.cell?_of_block (setRow_other _ _ _ _ (by have := h.gt; simp; omega))).trans h.fb.box1, (setRow_other _ _ _ _ (by have := h.gt; omega)).trans h.fb.st⟩
  blk := (setRow_other _ _ _ _ (by omega)).trans h.blk
  gt := h.gt
theorem FC.lt {w wr : World} {c0 c1 : Value} {L M : List Nat} {g : Nat} (h : FC w wr c0 c1 L g M) : g < wr.heap.size := (Array.getElem?_eq_some_iff.1 h.blk).1

/-- What stands while the answers are compared. -/
structure HB (w wr : World) (c0 c1 : Value) (L M : List Nat) (g g1 g2 : Nat) (L1 L2 : List Nat) : Prop where
  fc : FC w wr c0 c1 L g M
  k1 : Blk32 wr g1 27 L1
  k2 : Blk32 wr g2 27 L2
theorem HB.keep {w wr w' : World} {c0 c1 : Value} {L M L1 L2 : List Nat} {g g1 g2 : Nat} (h : HB w wr c0 c1 L M g g1 g2 L1 L2) (hb : Below wr.heap.size wr w') : HB w w' c0 c1 L M g g1 g2 L1 L2 :=
  ⟨h.fc.keep hb, h.k1.below hb h.k1.lt, h.k2.below hb h.k2.lt⟩
theorem Blk32.range {w : World} {g : Nat} {t : TypeId} {l : List Nat} (h : Blk32 w g t l) : w.rangeAt g 0 (u32s l) := fun j v hv => by
  rw [Nat.zero_add, cell_of_row _ _ _ _ _ _ h]
  simpa using hv
theorem u8row_range {w : World} {g : Nat} {t : TypeId} {M : List Nat} (h : w.heap[g]? = some (.cells (u8row M) t (0, 0))) : w.rangeAt g 0 (u8s M) := fun j v hv => by
  rw [Nat.zero_add, cell_of_row _ _ _ _ _ _ h]
  simpa [u8row] using hv
theorem eql8 {l l' : List Nat} (h : l.length = 8) (h' : l'.length = 8) (w : World) : (binOp .eql 27 (.agg (u32s l).toArray) (.agg (u32s l').toArray)).run Tryd.prog w = .ok (.bool (decide (l = l'))) w := by
  obtain ⟨i, hi⟩ := Option.isSome_iff_exists.1 (show (Tryd.prog.info? 26).isSome = true by kernel_rfl)
  exact eql_nrow (k := .u32) Tryd.underlying27 Tryd.underlying26 (by kernel_rfl) hi h h'

section
variable {P : Program} {ops : Array Oper} {o : Oper} {a : Act} {w : World} {K : Act → World → Prop} {Q : Exit → Act → World → Prop} {E : Prop}
/-- A whole array loaded, stored, within a region that draws. -/
theorem step_load_row (hgd : o.guard = none) (ty : TypeId) (x : Operand) (ho : o.op = .load ty x)
    (g : Nat) (hx : a.eval x = .pointer (some ⟨g, 0, none⟩)) (t : TypeId) (cs : Array Value) (fr : Nat × Nat) (d : TypeDesc) (hg : w.heap[g]? = some (.cells cs t fr))
    (hu : P.underlying ty = some d) (hd : (match d with | .struct _ | .array _ _ => true | _ => false) = true) (hi : (P.info? ty).map (·.size) = some cs.size)
    (h : K (a.put o.dst (.agg cs)) w) : if Region.wanted o (yielded ops a.tmps) = true then Oper.wp P o a w K Q else E := by
  rw [if_pos (by simp [Region.wanted, hgd])]
  exact wp_load_row ty x ho g hx t cs fr d hg hu hd hi h
theorem step_store_row (hgd : o.guard = none) (ty : TypeId) (x y : Operand) (ho : o.op = .store ty x y)
    (g : Nat) (cells : Array Value) (hx : a.eval x = .pointer (some ⟨g, 0, none⟩)) (hy : a.eval y = .agg cells)
    (t : TypeId) (old : Array Value) (hg : w.heap[g]? = some (.cells old t (0, 0))) (hi : (P.info? ty).map (·.size) = some cells.size)
    (hold : old.size = cells.size) (h1 : cells.all (·.oneCell') = true)
    (h : K (a.put o.dst undef) (w.setRow g cells)) : if Region.wanted o (yielded ops a.tmps) = true then Oper.wp P o a w K Q else E := by
  rw [if_pos (by simp [Region.wanted, hgd])]
  exact wp_store_row ty x y ho g cells hx hy t old hg hi hold h1 h
end

set_option maxRecDepth 100000 in
set_option maxHeartbeats 4000000 in
theorem blocks_any (l1 l2 ks : List Nat) (A1 A2 : Option Addr) (c1 c2 : Nat) (w : World) (hl1 : ∀ x ∈ l1, x < 4294967296) (hl2 : ∀ x ∈ l2, x < 256) (hc1 : l1.length ≤ 140737488351232) (hc2 : l2.length ≤ 140737488351232)
    (h1 : Wds w w.heap.size A1 l1) (h2 : Byt w w.heap.size A2 l2) (hk : ks.length = 64) (hkl : ∀ x ∈ ks, x < 4294967296)
    (hT1 : ∀ wr : World, Below w.heap.size w wr → ∀ t, t < 64 → wr.cell? ⟨0, t, none⟩ = some (.int .u64 ((ks[t]?.getD 0 : Nat) : Int)))
    (hT2 : ∀ wr : World, Below w.heap.size w wr → ∀ t, t < 8 → wr.cell? ⟨1, t, none⟩ = some (.int .u64 ((startL[t]?.getD 0 : Nat) : Int)))
    (hT3 : ∀ wr : World, Below w.heap.size w wr → ∀ t, t < 64 → wr.cell? ⟨2, t, none⟩ = some (.int .u32 ((ks[t]?.getD 0 : Nat) : Int))) :
    Calls Tryd.prog 3 #[.agg #[.slice A1 l1.length c1, .slice A2 l2.length c2]] w fun e w' => e = .returned (.bool true) ∧ Below w.heap.size w w' := by
  have hz := zero8
  have hzb := zero64b
  have hl1' := Lib.hid hl1
  have hl2' := Lib.hid hl2
  have h1' := Lib.hid h1
  have h2' := Lib.hid h2
  have hk' := Lib.hid hk
  have hkl' := Lib.hid hkl
  have hT1' := Lib.hid hT1
  have hT2' := Lib.hid hT2
  have hT3' := Lib.hid hT3
  have hF0 : FB w ((w.alloc (.cells #[.slice A1 l1.length c1, .slice A2 l2.length c2] 25)).alloc (.cells (u32s (zeros 8)).toArray 27)) (.slice A1 l1.length c1) (.slice A2 l2.length c2) (padTo 8 l1 0) := by
    have e : (w.alloc (.cells #[.slice A1 l1.length c1, .slice A2 l2.length c2] 25)).heap[w.heap.size]? = some (.cells #[.slice A1 l1.length c1, .slice A2 l2.length c2] 25 (0, 0)) := heap_alloc_new w _
    refine ⟨((Below.refl _ _).alloc (Nat.le_refl _) _).alloc (by simp) _, ?_, ?_, ?_⟩
    · rw [World.cell?_alloc_lt _ _ _ (by simp), cell_of_row _ _ _ _ _ _ e]; rfl
    · rw [World.cell?_alloc_lt _ _ _ (by simp), cell_of_row _ _ _ _ _ _ e]; rfl
    · have := heap_alloc_new (w.alloc (.cells #[.slice A1 l1.length c1, .slice A2 l2.length c2] 25)) (.cells (u32s (zeros 8)).toArray 27)
      rwa [World.size_alloc] at this
  have hF0' := Lib.hid hF0
  clear hl1 hl2 h1 h2 hk hkl hT1 hT2 hT3 hF0
  generalize hn1 : l1.length = n1 at hF0' hc1 ⊢
  generalize hn2 : l2.length = n2 at hF0' hc2 ⊢
  have hn1' := Lib.hid hn1
  have hn2' := Lib.hid hn2
  clear hn1 hn2
  go_enter Tryd.func3, Tryd.ntmps3
  go_wp2_with fail
  generalize ((w.alloc (.cells #[.slice A1 n1 c1, .slice A2 n2 c2] 25)).alloc (.cells (u32s (zeros 8)).toArray 27)) = w2 at hF0' ⊢
  go_loopw [4] (fun i wr => ∃ k : Nat, k ≤ 8 ∧ k ≤ n1 ∧ i = .int .i64 k ∧ Hid (FB w wr (.slice A1 n1 c1) (.slice A2 n2 c2) (padTo 8 l1 k))) (fun i _ => 8 - (intOf i).toNat)
  case atStart => exact ⟨0, by omega, by omega, rfl, hF0'⟩
  case round =>
    clear hF0'
    obtain ⟨k, hk8, hkn, rfl, hF⟩ := hrel
    have b0 := hF.out.box0
    by_cases hlt2 : k < n1 ∧ k < 8
    · obtain ⟨hlt, hlt8⟩ := hlt2
      obtain ⟨b, off, rfl, hb, q⟩ := (h1'.out.below hF.out.bel).get (k := k) (by rw [hn1'.out]; exact hlt)
      have hset := padTo_set (n := 8) (l := l1) hlt8 (by rw [hn1'.out]; exact hlt)
      have qf := hF.out.st.frozen k
      have q2 := hF.out.st.cell (k := k) (by rw [padTo_len hk8 (by rw [hn1'.out]; exact hkn)]; exact hlt8)
      have hx : ∃ x, Hid (∀ _ : Unit, l1[k]?.getD 0 = x) := ⟨_, Lib.hid fun _ => rfl⟩
      obtain ⟨x, hx⟩ := hx
      rw [hx.out ()] at q hset
      have hF2 := hF.out.set k x
      rw [hset] at hF2
      have hF2' := Lib.hid hF2
      clear hF hset hF2
      go_wp2_with fail
      go_roundw
      case rel => exact ⟨k + 1, by omega, by omega, by go_num, hF2'⟩
      case measure => simp [intOf]; omega
    · have hsn := padTo_len (n := 8) (l := l1) hk8 (by rw [hn1'.out]; exact hkn)
      have hsl := padTo_lt (n := 8) (k := k) (by decide) hl1'.out
      generalize padTo 8 l1 k = s at hF hsn hsl
      have hsn' := Lib.hid hsn
      have hsl' := Lib.hid hsl
      have b1 := hF.out.box1
      have hex : (k < n1 ∧ ¬ k < 8) ∨ ¬ k < n1 := by omega
      clear hsn hsl hlt2 h1' hl1'
      obtain ⟨wo, rfl⟩ : ∃ wo : World, wo = wr := ⟨_, rfl⟩
      rcases hex with ⟨hlt, hlt8⟩ | hlt
      all_goals (
        go_wp2_with fail
        have hC0 : FC w (wo.alloc (.cells (u8row (zeros 64)) 28)) (.slice A1 n1 c1) (.slice A2 n2 c2) s wo.heap.size (padTo 64 l2 0) :=
          ⟨⟨hF.out.bel.alloc hF.out.bel.size _, (World.cell?_alloc_lt _ _ _ (by have := hF.out.st.lt; simp; omega)).trans hF.out.box0, (World.cell?_alloc_lt _ _ _ (by have := hF.out.st.lt; simp; omega)).trans hF.out.box1, hF.out.st.alloc _⟩, heap_alloc_new wo _, hF.out.st.lt⟩
        have hC0' := Lib.hid hC0
        generalize (wo.alloc (.cells (u8row (zeros 64)) 28)) = w3 at hC0' ⊢
        generalize wo.heap.size = gb at hC0' ⊢
        clear hF hC0 b0 b1
        go_loopw [6] (fun i wr => ∃ k : Nat, k ≤ 64 ∧ k ≤ n2 ∧ i = .int .i64 k ∧ Hid (FC w wr (.slice A1 n1 c1) (.slice A2 n2 c2) s gb (padTo 64 l2 k))) (fun i _ => 64 - (intOf i).toNat)
        case atStart => exact ⟨0, by omega, by omega, rfl, hC0'⟩
        case round =>
          clear hC0'
          obtain ⟨m, hk8, hkn, rfl, hF⟩ := hrel
          have b1 := hF.out.fb.box1
          by_cases hmt : m < n2 ∧ m < 64
          · obtain ⟨hmt, hmt8⟩ := hmt
            obtain ⟨b, off, rfl, hb, q⟩ := (h2'.out.below hF.out.fb.bel).get (k := m) (by rw [hn2'.out]; exact hmt)
            have hset := padTo_set (n := 64) (l := l2) hmt8 (by rw [hn2'.out]; exact hmt)
            have qf := u8row_frozen hF.out.blk m
            have q2 := u8row_cell hF.out.blk (k := m) (by rw [padTo_len hk8 (by rw [hn2'.out]; exact hkn)]; exact hmt8)
            have hx : ∃ x, Hid (∀ _ : Unit, l2[m]?.getD 0 = x) := ⟨_, Lib.hid fun _ => rfl⟩
            obtain ⟨x, hx⟩ := hx
            rw [hx.out ()] at q hset
            have hF2 := hF.out.set m x
            rw [hset] at hF2
            have hF2' := Lib.hid hF2
            clear hF hset hF2
            go_wp2_with fail
            go_roundw
            case rel => exact ⟨m + 1, by omega, by omega, by go_num, hF2'⟩
            case measure => simp [intOf]; omega
          · have hbn := padTo_len (n := 64) (l := l2) hk8 (by rw [hn2'.out]; exact hkn)
            have hbl := padTo_lt (n := 64) (k := m) (by decide) hl2'.out
            generalize padTo 64 l2 m = bl at hF hbn hbl
            have hbn' := Lib.hid hbn
            have hbl' := Lib.hid hbl
            have hex : (m < n2 ∧ ¬ m < 64) ∨ ¬ m < n2 := by omega
            clear hbn hbl hmt h2' hl2' hz hzb
            obtain ⟨wq, rfl⟩ : ∃ wq : World, wq = wr := ⟨_, rfl⟩
            rcases hex with ⟨hmt, hmt8⟩ | hmt
            all_goals (
              go_upto_region 11 with fail
              have hLn : (Sha.blockL ks s bl).length = 8 := by rw [Sha.blockL]; simp
              have hL : ∃ L, Hid (∀ _ : Unit, Sha.blockL ks s bl = L) := ⟨_, Lib.hid fun _ => rfl⟩
              obtain ⟨L, hL⟩ := hL
              rw [hL.out ()] at hLn
              go_cut [7] from 45 to 47 (fun p wc => ∃ g, p = .pointer (some ⟨g, 0, none⟩) ∧ Hid (FC w wc (.slice A1 n1 c1) (.slice A2 n2 c2) s gb bl) ∧ Hid (Blk32 wc g 27 L))
              case first =>
                have hz := zero8
                have hd0 := Lib.hid hF.out.drew
                have hd1 : Hid (FC w (wq.drew.alloc (.cells (u32s (zeros 8)).toArray 27)) (.slice A1 n1 c1) (.slice A2 n2 c2) s gb bl) := Lib.hid (hd0.out.keep ((Below.refl _ _).alloc (Nat.le_refl _) _))
                have hcall : Hid (∀ W : World, Hid (FC w W (.slice A1 n1 c1) (.slice A2 n2 c2) s gb bl) → Calls Tryd.prog 8 #[.agg (u32s s).toArray, .slice (some ⟨gb, 0, none⟩) 64 64] W fun e w' => e = .returned (.agg (u32s L).toArray) ∧ Below W.heap.size W w') :=
                  Lib.hid fun W h => by rw [← hL.out ()]; exact refBlock_any s bl ks _ _ W hsn'.out hsl'.out hbl'.out hbn'.out h.out.byt hk'.out hkl'.out (fun wr hb => hT1'.out wr (h.out.fb.bel.trans (hb.mono h.out.fb.bel.size)))
                have hi8 : (Tryd.prog.info? 27).map (·.size) = some 8 := by kernel_rfl
                have hi8' := Lib.hid hi8
                have hsz : (u32s s).toArray.size = 8 := by simp [u32s, hsn'.out]
                have hszL : (u32s L).toArray.size = 8 := by simp [u32s, hLn]
                have hszz : (u32s (zeros 8)).toArray.size = 8 := by simp [u32s, zeros]
                clear hi8 hLn
                refine wp_region_any (by kernel_rfl) ?_
                change wpAny _ _ _ _ _ _ _ (World.drew _)
                refine wpAny_take (i := 1) (v := .slice (some ⟨gb, 0, none⟩) 64 64) rfl (by kernel_rfl) (by kernel_rfl) (by kernel_rfl) (fun _ _ _ h => h) (Or.inl ⟨by rfl, by intro w; go_simp⟩) ?_
                refine wpAny_ready (rs := [0, 3]) (by kernel_rfl) (by simp) ?_
                refine AllReady.cons rfl (fun K hK => ?_) (AllReady.cons rfl (fun K hK => ?_) AllReady.nil)
                · refine step_load_row rfl 27 _ rfl (w.heap.size + 1) rfl 27 (u32s s).toArray (0, 0) _ hd0.out.fb.st Tryd.underlying27 rfl (by rw [hsz]; exact hi8'.out) ?_
                  refine hK _ _ ?_
                  clear hK K
                  refine wpAny_ready (rs := [2, 3]) (by kernel_rfl) (by simp) ?_
                  refine AllReady.cons rfl (fun K hK => ?_) (AllReady.cons rfl (fun K hK => ?_) AllReady.nil)
                  · go_simp
                    go_wp2_with (go_at_call 8; refine (hcall.out _ hd0).mono ?_; rintro e w' ⟨rfl, hb⟩; skip)
                    refine wpAny_ready (rs := [3]) (by kernel_rfl) (by simp) ?_
                    refine AllReady.cons rfl (fun K hK => ?_) AllReady.nil
                    go_simp
                    refine hK _ _ ?_
                    clear hK K
                    refine wpAny_ready (rs := [4]) (by kernel_rfl) (by simp) ?_
                    refine AllReady.cons rfl (fun K hK => ?_) AllReady.nil
                    refine step_store_row rfl 27 _ _ rfl (w'.heap.size) (u32s L).toArray rfl rfl 27 (u32s (zeros 8)).toArray (heap_alloc_new w' _) (by rw [hszL]; exact hi8'.out) (by rw [hszL, hszz]) (by simp [u32s, Value.oneCell']) ?_
                    refine hK _ _ ?_
                    clear hK K
                    refine wpAny_done (by kernel_rfl) ?_ _
                    go_wp2_with fail
                    go_meet
                    exact ⟨w'.heap.size, rfl, Lib.hid (FC.put ((hd0.out.keep hb).keep ((Below.refl _ _).alloc (Nat.le_refl _) _)) ((hd0.out.keep hb).lt) _), Lib.hid (setRow_heap _ (w'.heap.size) _ _ _ _ (heap_alloc_new w' _))⟩
                  · go_simp
                    refine hK _ _ ?_
                    clear hK K
                    refine wpAny_ready (rs := [2]) (by kernel_rfl) (by simp) ?_
                    refine AllReady.cons rfl (fun K hK => ?_) AllReady.nil
                    go_simp
                    go_wp2_with (go_at_call 8; refine (hcall.out _ hd1).mono ?_; rintro e w' ⟨rfl, hb⟩; skip)
                    refine wpAny_ready (rs := [4]) (by kernel_rfl) (by simp) ?_
                    refine AllReady.cons rfl (fun K hK => ?_) AllReady.nil
                    refine step_store_row rfl 27 _ _ rfl (wq.heap.size) (u32s L).toArray rfl rfl 27 (u32s (zeros 8)).toArray ((hb.block wq.heap.size (by simp)).trans (heap_alloc_new wq.drew _)) (by rw [hszL]; exact hi8'.out) (by rw [hszL, hszz]) (by simp [u32s, Value.oneCell']) ?_
                    refine hK _ _ ?_
                    clear hK K
                    refine wpAny_done (by kernel_rfl) ?_ _
                    go_wp2_with fail
                    go_meet
                    exact ⟨wq.heap.size, rfl, Lib.hid (FC.put (hd1.out.keep hb) (hd0.out.lt) _), Lib.hid (setRow_heap _ (wq.heap.size) _ _ _ _ ((hb.block wq.heap.size (by simp)).trans (heap_alloc_new wq.drew _)))⟩
                · go_simp
                  refine hK _ _ ?_
                  clear hK K
                  refine wpAny_ready (rs := [0]) (by kernel_rfl) (by simp) ?_
                  refine AllReady.cons rfl (fun K hK => ?_) AllReady.nil
                  refine step_load_row rfl 27 _ rfl (w.heap.size + 1) rfl 27 (u32s s).toArray (0, 0) _ hd1.out.fb.st Tryd.underlying27 rfl (by rw [hsz]; exact hi8'.out) ?_
                  refine hK _ _ ?_
                  clear hK K
                  refine wpAny_ready (rs := [2]) (by kernel_rfl) (by simp) ?_
                  refine AllReady.cons rfl (fun K hK => ?_) AllReady.nil
                  go_simp
                  go_wp2_with (go_at_call 8; refine (hcall.out _ hd1).mono ?_; rintro e w' ⟨rfl, hb⟩; skip)
                  refine wpAny_ready (rs := [4]) (by kernel_rfl) (by simp) ?_
                  refine AllReady.cons rfl (fun K hK => ?_) AllReady.nil
                  refine step_store_row rfl 27 _ _ rfl (wq.heap.size) (u32s L).toArray rfl rfl 27 (u32s (zeros 8)).toArray ((hb.block wq.heap.size (by simp)).trans (heap_alloc_new wq.drew _)) (by rw [hszL]; exact hi8'.out) (by rw [hszL, hszz]) (by simp [u32s, Value.oneCell']) ?_
                  refine hK _ _ ?_
                  clear hK K
                  refine wpAny_done (by kernel_rfl) ?_ _
                  go_wp2_with fail
                  go_meet
                  exact ⟨wq.heap.size, rfl, Lib.hid (FC.put (hd1.out.keep hb) (hd0.out.lt) _), Lib.hid (setRow_heap _ (wq.heap.size) _ _ _ _ ((hb.block wq.heap.size (by simp)).trans (heap_alloc_new wq.drew _)))⟩
              case rest =>
                obtain ⟨g1, rfl, hF, hk1⟩ := hcut
                have hz := zero8
                have hst : ∃ m, Hid (∀ _ : Unit, startL = m) := ⟨_, Lib.hid fun _ => rfl⟩
                obtain ⟨S0, hst⟩ := hst
                have hS0 : S0.length = 8 := by rw [← hst.out ()]; rfl
                have hS0' := Lib.hid hS0
                have hLn' := Lib.hid hLn
                have hi8 : (Tryd.prog.info? 27).map (·.size) = some 8 := by kernel_rfl
                have hi64 : (Tryd.prog.info? 28).map (·.size) = some 64 := by kernel_rfl
                have hi8' := Lib.hid hi8
                have hi64' := Lib.hid hi64
                have cR : Hid (Calls Tryd.prog 9 #[] wc fun e w' => e = .returned (.agg (u32s S0).toArray) ∧ Below wc.heap.size wc w') := Lib.hid (by
                  rw [← hst.out ()]; exact refStart_any wc (fun wr hb => hT2'.out wr (hF.out.fb.bel.trans (hb.mono hF.out.fb.bel.size))))
                have hszS : (u32s S0).toArray.size = 8 := by simp [u32s, hS0]
                have hszz : (u32s (zeros 8)).toArray.size = 8 := by simp [u32s, zeros]
                clear hi8 hi64 hLn hS0
                go_wp2_with (first
                  | (go_at_call 9; refine cR.out.mono ?_; rintro e w5 ⟨rfl, hb5⟩; skip)
                  | (refine wpList_store_row rfl 27 _ _ rfl w5.heap.size (u32s S0).toArray rfl rfl 27 _ (heap_alloc_new w5 _) (by rw [hszS]; exact hi8'.out) (by rw [hszS, hszz]) (by simp [u32s, Value.oneCell']) ?_))
                have h5 := hF.out.keep hb5
                have h6 : FC w (w5.alloc (.cells (u32s (zeros 8)).toArray 27)) (.slice A1 n1 c1) (.slice A2 n2 c2) s gb bl := h5.keep ((Below.refl _ _).alloc (Nat.le_refl _) _)
                have hg1 : g1 < w5.heap.size := Nat.lt_of_lt_of_le hk1.out.lt hb5.size
                have h7 : HB w ((w5.alloc (.cells (u32s (zeros 8)).toArray 27)).setRow w5.heap.size (u32s S0).toArray) (.slice A1 n1 c1) (.slice A2 n2 c2) s bl gb g1 w5.heap.size L S0 :=
                  ⟨h6.put h5.lt _, (setRow_other _ _ _ _ (by omega)).trans ((hk1.out.below hb5 hk1.out.lt).alloc _), setRow_heap _ _ _ _ _ _ (heap_alloc_new w5 _)⟩
                generalize ((w5.alloc (.cells (u32s (zeros 8)).toArray 27)).setRow w5.heap.size (u32s S0).toArray) = w7 at h7 ⊢
                generalize w5.heap.size = g2 at h7 ⊢
                have h7' := Lib.hid h7
                clear h5 h6 hg1 hF hk1 h7 hb5 hz
                have hszs : (u32s s).toArray.size = 8 := by simp [u32s, hsn'.out]
                have hszL : (u32s L).length = 8 := by simp [u32s, hLn'.out]
                have hszS2 : (u32s S0).length = 8 := by simp [u32s, hS0'.out]
                have hszs2 : (u32s s).length = 8 := by simp [u32s, hsn'.out]
                have hszb2 : (u8s bl).length = 64 := by simp [u8s, hbn'.out]
                have q1 : ∀ W, (binOp .eql 27 (.agg (u32s L).toArray) (.agg (u32s L).toArray)).run Tryd.prog W = .ok (.bool true) W := fun W => by rw [eql8 hLn'.out hLn'.out]; simp
                have q2 : ∀ W, (binOp .eql 27 (.agg (u32s S0).toArray) (.agg (u32s S0).toArray)).run Tryd.prog W = .ok (.bool true) W := fun W => by rw [eql8 hS0'.out hS0'.out]; simp
                have cB : Hid (∀ W : World, HB w W (.slice A1 n1 c1) (.slice A2 n2 c2) s bl gb g1 g2 L S0 → Calls Tryd.prog 10 #[.agg (u32s s).toArray, .agg (u8s bl).toArray] W fun e w' => e = .returned (.agg (u32s L).toArray) ∧ HB w w' (.slice A1 n1 c1) (.slice A2 n2 c2) s bl gb g1 g2 L S0) := Lib.hid fun W h => by
                  rw [← hL.out ()]
                  have hh := h
                  rw [← hL.out ()] at hh
                  exact (block_any s bl ks W hsn'.out hsl'.out hbl'.out hbn'.out hk'.out hkl'.out (fun wr hb => hT3'.out wr (h.fc.fb.bel.trans (hb.mono h.fc.fb.bel.size)))).mono fun e w' ⟨he, hb⟩ => ⟨he, hh.keep hb⟩
                have cS : Hid (∀ W : World, HB w W (.slice A1 n1 c1) (.slice A2 n2 c2) s bl gb g1 g2 L S0 → Calls Tryd.prog 11 #[] W fun e w' => e = .returned (.agg (u32s S0).toArray) ∧ HB w w' (.slice A1 n1 c1) (.slice A2 n2 c2) s bl gb g1 g2 L S0) := Lib.hid fun W h => by
                  rw [← hst.out ()]
                  have hh := h
                  rw [← hst.out ()] at hh
                  exact (start_any W).mono fun e w' ⟨he, hb⟩ => ⟨he, hh.keep hb⟩
                go_wp2_with fail
                refine wp_region_held (S := fun W => HB w W (.slice A1 n1 c1) (.slice A2 n2 c2) s bl gb g1 g2 L S0) (by kernel_rfl) ?_
                change wpAnyH _ _ _ _ _ _ _ _ (World.drew _)
                have hd : HB w w7.drew (.slice A1 n1 c1) (.slice A2 n2 c2) s bl gb g1 g2 L S0 := ⟨h7'.out.fc.drew, h7'.out.k1, h7'.out.k2⟩
                refine wpAnyH_take (i := 0) rfl (by kernel_rfl) (by kernel_rfl) (by kernel_rfl) (fun _ _ _ h => h) (yieldsIf_load_mid (by rfl) 27 _ rfl (w.heap.size + 1) 0 rfl (u32s s) _ (fun _ h => h.fc.fb.st.range) Tryd.underlying27 rfl (by rw [hszs2]; exact hi8'.out)) hd ?_
                refine wpAnyH_take (i := 1) rfl (by kernel_rfl) (by kernel_rfl) (by kernel_rfl) (fun _ _ _ h => h) (yieldsIf_load_mid (by rfl) 28 _ rfl gb 0 rfl (u8s bl) _ (fun _ h => u8row_range h.fc.blk) Tryd.underlying28 rfl (by rw [hszb2]; exact hi64'.out)) hd ?_
                refine wpAnyH_take (i := 3) rfl (by kernel_rfl) (by kernel_rfl) (by kernel_rfl) (fun _ _ _ h => h) (yieldsIf_load_mid (by rfl) 27 _ rfl g1 0 rfl (u32s L) _ (fun _ h => h.k1.range) Tryd.underlying27 rfl (by rw [hszL]; exact hi8'.out)) hd ?_
                simp only [Act.put, List.setIfInBounds_toArray, List.set_cons_zero, List.set_cons_succ]
                refine wpAnyH_ready (rs := [2]) (by kernel_rfl) (by simp) ?_
                refine AllReadyH.cons rfl (fun K hK => ?_) AllReadyH.nil
                go_simp
                go_wp2_with (go_at_call 10; refine (cB.out _ hd).mono ?_; rintro e w8 ⟨rfl, h8⟩; skip)
                refine hK.out _ _ h8 (fun _ => ?_)
                clear hK K
                refine wpAnyH_ready (rs := [4]) (by kernel_rfl) (by simp) ?_
                refine AllReadyH.cons rfl (fun K hK => ?_) AllReadyH.nil
                go_simp
                refine hK.out _ _ h8 (fun _ => ?_)
                clear hK K
                refine wpAnyH_ready (rs := [5]) (by kernel_rfl) (by simp) ?_
                refine AllReadyH.cons rfl (fun K hK => ?_) AllReadyH.nil
                go_simp
                refine hK.out _ _ h8 (fun _ => ?_)
                clear hK K
                refine wpAnyH_take (i := 7) rfl (by kernel_rfl) (by kernel_rfl) (by kernel_rfl) (fun _ _ _ h => h) (yieldsIf_load_mid (by rfl) 27 _ rfl g2 0 rfl (u32s S0) _ (fun _ h => h.k2.range) Tryd.underlying27 rfl (by rw [hszS2]; exact hi8'.out)) h8 ?_
                simp only [Act.put, List.setIfInBounds_toArray, List.set_cons_zero, List.set_cons_succ]
                refine wpAnyH_ready (rs := [6]) (by kernel_rfl) (by simp) ?_
                refine AllReadyH.cons rfl (fun K hK => ?_) AllReadyH.nil
                go_simp
                go_wp2_with (go_at_call 11; refine (cS.out _ h8).mono ?_; rintro e w9 ⟨rfl, h9⟩; skip)
                refine hK.out _ _ h9 (fun _ => ?_)
                clear hK K
                refine wpAnyH_ready (rs := [8]) (by kernel_rfl) (by simp) ?_
                refine AllReadyH.cons rfl (fun K hK => ?_) AllReadyH.nil
                go_simp
                refine hK.out _ _ h9 (fun _ => ?_)
                clear hK K
                refine wpAnyH_ready (rs := [9]) (by kernel_rfl) (by simp) ?_
                refine AllReadyH.cons rfl (fun K hK => ?_) AllReadyH.nil
                go_simp
                refine hK.out _ _ h9 (fun _ => ?_)
                clear hK K
                refine wpAnyH_ready (rs := [10]) (by kernel_rfl) (by simp) ?_
                refine AllReadyH.cons rfl (fun K hK => ?_) AllReadyH.nil
                go_simp
                refine hK.out _ _ h9 (fun _ => ?_)
                clear hK K
                refine wpAnyH_done (by kernel_rfl) ?_ _
                go_wp2_with fail
                go_ret
                exact ⟨rfl, h9.fc.fb.bel⟩))
end Go.Proofs.YtfibfaablpoilaaDoor

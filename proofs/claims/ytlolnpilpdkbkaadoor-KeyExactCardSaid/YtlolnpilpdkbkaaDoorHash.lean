/- A Hasher: what its cells hold; now, take. -/
import Derived.Test.YtlolnpilpdkbkaaDoorChg
import Derived.Test.YtlolnpilpdkbkaaDoorDig
import Derived.Deep.RegionHeld3
namespace Go.Proofs.YtlolnpilpdkbkaaDoor
open Go.RowKit
set_option linter.unusedSimpArgs false

/-- The cells of a Hasher. -/
structure HR (w : World) (g o : Nat) (st rs : List Nat) (n : Nat) (bg : Bool) : Prop where
  cst : w.rangeAt g o (u32s st)
  crs : w.rangeAt g (o + 8) (u8s rs)
  cn : w.cell? ⟨g, o + 72, none⟩ = some (.int .u64 (n : Int))
  cb : w.cell? ⟨g, o + 73, none⟩ = some (.bool bg)
  fr : ∀ k, w.frozen? ⟨g, k, none⟩ = false
  l1 : st.length = 8
  l2 : rs.length = 64
section
variable {w w' : World} {g o n : Nat} {st rs : List Nat} {bg : Bool}
theorem HR.lt (h : HR w g o st rs n bg) : g < w.heap.size := World.block_lt_of_cell? w _ h.cn
theorem HR.keep (h : HR w g o st rs n bg) (hc : ∀ k, w'.cell? ⟨g, k, none⟩ = w.cell? ⟨g, k, none⟩) (hf : ∀ k, w'.frozen? ⟨g, k, none⟩ = w.frozen? ⟨g, k, none⟩) : HR w' g o st rs n bg :=
  ⟨fun j v hv => (hc _).trans (h.cst j v hv), fun j v hv => (hc _).trans (h.crs j v hv), (hc _).trans h.cn, (hc _).trans h.cb, fun k => (hf k).trans (h.fr k), h.l1, h.l2⟩
theorem HR.block (h : HR w g o st rs n bg) (hb : w'.heap[g]? = w.heap[g]?) : HR w' g o st rs n bg := h.keep (fun _ => World.cell?_of_block hb) (fun _ => World.frozen?_of_block hb)
theorem HR.below (h : HR w g o st rs n bg) (hb : Below w.heap.size w w') : HR w' g o st rs n bg := h.block (hb.block g h.lt)
theorem HR.drew (h : HR w g o st rs n bg) : HR w.drew g o st rs n bg := ⟨h.cst, h.crs, h.cn, h.cb, h.fr, h.l1, h.l2⟩
theorem HR.there1 (h : HR w g o st rs n bg) : w.there g o 8 := fun j hj => ⟨World.rangeAt.isSome h.cst j (by simp [u32s, h.l1]; exact hj), h.fr _⟩
theorem HR.there2 (h : HR w g o st rs n bg) {p k : Nat} (hp : p + k ≤ 64) : w.there g (o + 8 + p) k := fun j hj => ⟨by
  have := World.rangeAt.isSome h.crs (p + j) (by simp [u8s, h.l2]; omega)
  rwa [← Nat.add_assoc] at this, h.fr _⟩
theorem HR.setSt (h : HR w g o st rs n bg) {s' : List Nat} (hs : s'.length = 8) : HR (w.setCells g o (u32s s')) g o s' rs n bg where
  cst := World.rangeAt_setCells_same w g o _ (by rw [u32s_length, hs]; exact h.there1)
  crs := World.rangeAt_setCells_apart h.crs g o _ (.inr (.inr (by rw [u32s_length, hs]; exact Nat.le_refl _)))
  cn := (World.cell?_setCells_out g _ o w ⟨g, o + 72, none⟩ (fun _ _ => by rw [u32s_length, hs]; show o + 72 < o ∨ o + 8 ≤ o + 72; omega)).trans h.cn
  cb := (World.cell?_setCells_out g _ o w ⟨g, o + 73, none⟩ (fun _ _ => by rw [u32s_length, hs]; show o + 73 < o ∨ o + 8 ≤ o + 73; omega)).trans h.cb
  fr := fun k => (World.frozen?_setCells g _ o w _).trans (h.fr k)
  l1 := hs
  l2 := h.l2
theorem HR.setBg (h : HR w g o st rs n bg) (c : Bool) : HR (w.setCell ⟨g, o + 73, none⟩ (.bool c)) g o st rs n c where
  cst := World.rangeAt_setCells_apart h.cst g (o + 73) [.bool c] (.inr (.inl (by rw [u32s_length, h.l1]; omega)))
  crs := World.rangeAt_setCells_apart h.crs g (o + 73) [.bool c] (.inr (.inl (by simp [u8s, h.l2])))
  cn := (World.cell?_setCell_other w _ _ _ (by simp)).trans h.cn
  cb := World.cell?_setCell_same w _ _ h.cb
  fr := fun k => (World.frozen?_setCells g [.bool c] (o + 73) w _).trans (h.fr k)
  l1 := h.l1
  l2 := h.l2
theorem HR.setN (h : HR w g o st rs n bg) (c : Nat) : HR (w.setCell ⟨g, o + 72, none⟩ (.int .u64 (c : Int))) g o st rs c bg where
  cst := World.rangeAt_setCells_apart h.cst g (o + 72) [.int .u64 (c : Int)] (.inr (.inl (by rw [u32s_length, h.l1]; omega)))
  crs := World.rangeAt_setCells_apart h.crs g (o + 72) [.int .u64 (c : Int)] (.inr (.inl (by simp [u8s, h.l2])))
  cn := World.cell?_setCell_same w _ _ h.cn
  cb := (World.cell?_setCell_other w _ _ _ (by simp)).trans h.cb
  fr := fun k => (World.frozen?_setCells g [.int .u64 (c : Int)] (o + 72) w _).trans (h.fr k)
  l1 := h.l1
  l2 := h.l2
/-- Some bytes laid over others. -/
def laid (rs : List Nat) (p : Nat) (b : List Nat) : List Nat := rs.take p ++ (b ++ rs.drop (p + b.length))
theorem laid_length {rs b : List Nat} {p : Nat} (h : p + b.length ≤ rs.length) : (laid rs p b).length = rs.length := by simp [laid]; omega
theorem HR.setRs (h : HR w g o st rs n bg) {p : Nat} {b : List Nat} (hp : p + b.length ≤ 64) : HR (w.setCells g (o + 8 + p) (u8s b)) g o st (laid rs p b) n bg where
  cst := World.rangeAt_setCells_apart h.cst g _ _ (.inr (.inl (by rw [u32s_length, h.l1]; omega)))
  crs := by
    have hu : (u8s b).length = b.length := by simp [u8s]
    have hth := h.there2 hp
    intro j v hv
    have hj : j < 64 := by
      have := (List.getElem?_eq_some_iff.1 hv).1
      have e := laid_length (rs := rs) (b := b) (p := p) (by rw [h.l2]; exact hp)
      simpa [u8s, e, h.l2] using this
    by_cases h1 : p ≤ j ∧ j < p + b.length
    · obtain ⟨i, rfl⟩ : ∃ i, j = p + i := ⟨j - p, by omega⟩
      have := World.rangeAt_setCells_same w g (o + 8 + p) (u8s b) (by rw [hu]; exact hth) i v (by
        rw [← hv]
        have e : (laid rs p b)[p + i]? = b[i]? := by
          unfold laid
          rw [List.getElem?_append_right (by simp; omega), List.length_take, h.l2, Nat.min_eq_left (by omega), Nat.add_sub_cancel_left, List.getElem?_append_left (by omega)]
        simp only [u8s, List.getElem?_map, e])
      rwa [Nat.add_assoc (o + 8) p i] at this
    · rw [World.cell?_setCells_out g _ _ w ⟨g, o + 8 + j, none⟩ (fun _ _ => by rw [hu]; show o + 8 + j < o + 8 + p ∨ o + 8 + p + b.length ≤ o + 8 + j; omega)]
      refine h.crs j v ?_
      rw [← hv]
      have e : (laid rs p b)[j]? = rs[j]? := by
        unfold laid
        by_cases h2 : j < p
        · rw [List.getElem?_append_left (by simp [h.l2]; omega), List.getElem?_take, if_pos h2]
        · rw [List.getElem?_append_right (by simp [h.l2]; omega), List.length_take, h.l2, Nat.min_eq_left (by omega), List.getElem?_append_right (by omega), List.getElem?_drop]
          congr 1
          omega
      simp only [u8s, List.getElem?_map, e]
  cn := (World.cell?_setCells_out g _ _ w ⟨g, o + 72, none⟩ (fun _ _ => by simp only [u8s, List.length_map]; omega)).trans h.cn
  cb := (World.cell?_setCells_out g _ _ w ⟨g, o + 73, none⟩ (fun _ _ => by simp only [u8s, List.length_map]; omega)).trans h.cb
  fr := fun k => (World.frozen?_setCells g _ _ w _).trans (h.fr k)
  l1 := h.l1
  l2 := by rw [laid_length (by rw [h.l2]; exact hp), h.l2]
end

/-- The program's table. -/
def Tab (w : World) (ks : List Nat) : Prop := ∀ t, t < 64 → w.cell? ⟨3, t, none⟩ = some (.int .u32 ((ks[t]?.getD 0 : Nat) : Int))
theorem Tab.lt {w : World} {ks : List Nat} (h : Tab w ks) : 3 < w.heap.size := World.block_lt_of_cell? w _ (h 0 (by decide))
theorem Tab.below {w w' : World} {ks : List Nat} (h : Tab w ks) (hb : Below w.heap.size w w') : Tab w' ks := fun t ht => (hb.cell (p := ⟨3, t, none⟩) h.lt).trans (h t ht)
theorem Tab.chg {w w' : World} {ks : List Nat} {g o m : Nat} (h : Tab w ks) (hc : Chg w w' g o m) (hg : 3 ≠ g) : Tab w' ks := fun t ht => hc.far (p := ⟨3, t, none⟩) hg (h t ht)
theorem Tab.all {w : World} {ks : List Nat} (h : Tab w ks) : ∀ wr : World, Below w.heap.size w wr → ∀ t, t < 64 → wr.cell? ⟨3, t, none⟩ = some (.int .u32 ((ks[t]?.getD 0 : Nat) : Int)) := fun _ hb => h.below hb

set_option maxRecDepth 100000 in
theorem now_any (w : World) {g o n : Nat} {st rs : List Nat} {bg : Bool} (h : HR w g o st rs n bg) :
    Calls Tryd.prog 40 #[.pointer (some ⟨g, o, none⟩)] w fun e w' => e = .returned (.agg (u32s (if bg = true then st else startL)).toArray) ∧ Below w.heap.size w w' := by
  have hz := zero8
  have hi8 : (Tryd.prog.info? 61).map (·.size) = some 8 := by kernel_rfl
  have hi8' := Lib.hid hi8
  have h1 := h.below ((Below.refl _ _).alloc (Nat.le_refl _) (.cells (u32s (zerW 8)).toArray 61))
  have h1' := Lib.hid h1
  have hb := h1.cb
  have hszs : (u32s st).length = 8 := by rw [u32s_length]; exact h.l1
  have hszz : (u32s (zerW 8)).toArray.size = 8 := by simp [u32s, zerW]
  have hszs2 : (u32s st).toArray.size = 8 := by simpa using hszs
  have hszt : (u32s startL).toArray.size = 8 := rfl
  have hn := Lib.hid (heap_alloc_new w (.cells (u32s (zerW 8)).toArray 61))
  clear hi8 h1 h
  cases bg
  · go_enter Tryd.func40, Tryd.ntmps40
    go_wp2_with fail
    refine (start_any _).mono ?_
    rintro e w' ⟨rfl, hb'⟩
    have hn' := Lib.hid ((hb'.block w.heap.size (by simp)).trans hn.out)
    have hB : Below w.heap.size w w' := ((Below.refl w.heap.size w).alloc (Nat.le_refl _) _).trans (hb'.mono (by simp))
    have hB' := Lib.hid hB
    clear hB hb' hb
    go_wp2_with (first
      | (refine wpList_store_row rfl 61 _ _ rfl w.heap.size (u32s startL).toArray rfl rfl 61 _ hn'.out (by rw [hszt]; exact hi8'.out) (by rw [hszt, hszz]) (by simp [u32s, Value.oneCell']) ?_))
    have hset := setRow_heap _ w.heap.size _ (u32s startL).toArray 61 _ hn'.out
    exact bodyPost_ret (results_cell_row rfl _ _ w.heap.size 61 (u32s startL).toArray (0, 0) _ rfl hset Tryd.underlying61 rfl (by rw [hszt]; exact hi8'.out)) rfl ⟨rfl, setRow_belS hB'.out (Nat.le_refl _) _⟩
  · go_enter Tryd.func40, Tryd.ntmps40
    go_wp2_with (first
      | (refine wpList_load_mid rfl 61 _ rfl g o rfl (u32s st) _ h1'.out.cst Tryd.underlying61 rfl (by rw [hszs]; exact hi8'.out) ?_)
      | (refine wpList_store_row rfl 61 _ _ rfl w.heap.size (u32s st).toArray rfl rfl 61 _ hn.out (by rw [hszs2]; exact hi8'.out) (by rw [hszs2, hszz]) (by simp [u32s, Value.oneCell']) ?_))
    have hset := setRow_heap _ w.heap.size _ (u32s st).toArray 61 _ hn.out
    exact bodyPost_ret (results_cell_row rfl _ _ w.heap.size 61 (u32s st).toArray (0, 0) _ rfl hset Tryd.underlying61 rfl (by rw [hszs2]; exact hi8'.out)) rfl ⟨rfl, setRow_belS ((Below.refl _ _).alloc (Nat.le_refl _) _) (Nat.le_refl _) _⟩
end Go.Proofs.YtlolnpilpdkbkaaDoor

/- A Hasher's digest; the digest of some bytes. -/
import Derived.Test.YtlolnpilpdkbkaaDoorWrite
import Derived.DeepKeys2
namespace Go.Proofs.YtlolnpilpdkbkaaDoor
open Go.RowKit

/-- All cells of a Hasher. -/
def hcells (st rs : List Nat) (n : Nat) (bg : Bool) : List Value := u32s st ++ (u8s rs ++ [.int .u64 (n : Int), .bool bg])
theorem hcells_length {st rs : List Nat} {n : Nat} {bg : Bool} (h1 : st.length = 8) (h2 : rs.length = 64) : (hcells st rs n bg).length = 74 := by simp [hcells, u32s, u8s, h1, h2]
theorem HR.range {w : World} {g o n : Nat} {st rs : List Nat} {bg : Bool} (h : HR w g o st rs n bg) : w.rangeAt g o (hcells st rs n bg) := fun j v hv => by
  have hl1 := h.l1
  have hl2 := h.l2
  have hu1 : (u32s st).length = 8 := by simp [u32s, hl1]
  have hu2 : (u8s rs).length = 64 := by simp [u8s, hl2]
  unfold hcells at hv
  by_cases h1 : j < 8
  · rw [List.getElem?_append_left (by omega)] at hv
    exact h.cst j v hv
  · rw [List.getElem?_append_right (by omega), hu1] at hv
    by_cases h2 : j < 72
    · rw [List.getElem?_append_left (by omega)] at hv
      have := h.crs _ v hv
      rwa [show o + 8 + (j - 8) = o + j by omega] at this
    · rw [List.getElem?_append_right (by omega), hu2] at hv
      have hj := (List.getElem?_eq_some_iff.1 hv).1
      simp at hj
      rcases (show j = 72 ∨ j = 73 by omega) with rfl | rfl
      · simp at hv
        rw [← hv]
        exact h.cn
      · simp at hv
        rw [← hv]
        exact h.cb
theorem HR.of_row {w : World} {g n : Nat} {st rs : List Nat} {bg : Bool} {t : TypeId} (h : w.heap[g]? = some (.cells (hcells st rs n bg).toArray t (0, 0))) (h1 : st.length = 8) (h2 : rs.length = 64) : HR w g 0 st rs n bg := by
  have hu1 : (u32s st).length = 8 := by simp [u32s, h1]
  have hu2 : (u8s rs).length = 64 := by simp [u8s, h2]
  have hc : ∀ k, w.cell? ⟨g, k, none⟩ = (hcells st rs n bg)[k]? := fun k => by rw [cell_of_row _ _ _ _ _ _ h]; simp
  refine ⟨fun j v hv => ?_, fun j v hv => ?_, ?_, ?_, fun k => frozen_of_row _ _ _ _ _ h, h1, h2⟩
  · have hj := (List.getElem?_eq_some_iff.1 hv).1
    rw [Nat.zero_add, hc, hcells, List.getElem?_append_left (by omega)]
    exact hv
  · have hj := (List.getElem?_eq_some_iff.1 hv).1
    rw [hc, hcells, List.getElem?_append_right (by omega), hu1, List.getElem?_append_left (by omega)]
    rw [show 0 + 8 + j - 8 = j by omega]
    exact hv
  · rw [hc, hcells, List.getElem?_append_right (by omega), hu1, List.getElem?_append_right (by omega), hu2]
    rfl
  · rw [hc, hcells, List.getElem?_append_right (by omega), hu1, List.getElem?_append_right (by omega), hu2]
    rfl
theorem zeroH (w : World) : (zeroValue 65).run Tryd.prog w = .ok (.agg (hcells (zerW 8) (zerW 64) 0 false).toArray) w :=
  (zero_of_info (P := Tryd.prog) (t := 65) (v := .agg (hcells (zerW 8) (zerW 64) 0 false).toArray) (n := 74) (by kernel_rfl)).1 w
theorem zeroK (w : World) : (zeroValue 24).run Tryd.prog w = .ok (.agg (u8s (zerW 32)).toArray) w :=
  (zero_of_info (P := Tryd.prog) (t := 24) (v := .agg (u8s (zerW 32)).toArray) (n := 32) (by kernel_rfl)).1 w
theorem has_zero {w : World} {g o : Nat} {ks : List Nat} {st rs : List Nat} (h : HR w g o st rs 0 false) : Has w g o ks [] :=
  ⟨rs, ⟨st, false, h, by simp [foldB]⟩, by simp⟩
theorem Has.keep {w w' : World} {g o : Nat} {ks m : List Nat} (h : Has w g o ks m) (hb : Below w.heap.size w w') : Has w' g o ks m := by
  obtain ⟨rs, ⟨st, bg, hH, hs⟩, hr⟩ := h
  exact ⟨rs, ⟨st, bg, hH.below hb, hs⟩, hr⟩
theorem Has.lt {w : World} {g o : Nat} {ks m : List Nat} (h : Has w g o ks m) : g < w.heap.size := by
  obtain ⟨rs, h, _⟩ := h
  exact h.lt
/-- A block that holds a key's bytes. -/
def Blk8 (w : World) (g : Nat) (l : List Nat) : Prop := w.heap[g]? = some (.cells (u8s l).toArray 24 (0, 0))
theorem Blk8.cell {w : World} {g : Nat} {l : List Nat} (h : Blk8 w g l) {k : Nat} (hk : k < l.length) : w.cell? ⟨g, k, none⟩ = some (.int .u8 ((l[k]?.getD 0 : Nat) : Int)) := by
  rw [cell_of_row _ _ _ _ _ _ h, List.getElem?_toArray]
  exact u8s_get l k hk
theorem Blk8.frozen {w : World} {g : Nat} {l : List Nat} (h : Blk8 w g l) (k : Nat) : w.frozen? ⟨g, k, none⟩ = false := frozen_of_row _ _ _ _ _ h
theorem Blk8.lt {w : World} {g : Nat} {l : List Nat} (h : Blk8 w g l) : g < w.heap.size := (Array.getElem?_eq_some_iff.1 h).1
theorem Blk8.below {w w' : World} {g : Nat} {l : List Nat} (h : Blk8 w g l) (hb : Below w.heap.size w w') : Blk8 w' g l := (hb.block g h.lt).trans h
theorem Blk8.set {w : World} {g : Nat} {l : List Nat} (h : Blk8 w g l) (k x : Nat) : Blk8 (w.setCell ⟨g, k, none⟩ (.int .u8 (x : Int))) g (l.set k x) := by
  have := heap_setCell_same w g k _ _ (.int .u8 (x : Int)) h
  unfold Blk8
  rw [this]
  simp [u8s, List.map_set]
theorem Blk8.far {w : World} {g : Nat} {l : List Nat} (h : Blk8 w g l) {p : Addr} (hp : g ≠ p.block) (u : Value) : Blk8 (w.setCell p u) g l := (heap_setCell_other w p g u hp).trans h
theorem Blk8.new (w : World) (l : List Nat) : Blk8 (w.alloc (.cells (u8s l).toArray 24)) w.heap.size l := heap_alloc_new w _
theorem Blk8.alloc {w : World} {g : Nat} {l : List Nat} (h : Blk8 w g l) (o : Obj) : Blk8 (w.alloc o) g l := (Below.heap_alloc w o g h.lt).trans h

/-- What stands while the digest's bytes are laid. -/
structure DK (w wr : World) (F : List Nat) (i : Nat) : Prop where
  bel : Below w.heap.size w wr
  k0 : Blk8 wr w.heap.size (zerW 32)
  k1 : Blk8 wr (w.heap.size + 1) (bytesTo F i)
theorem DK.set {w wr : World} {F : List Nat} {i : Nat} (h : DK w wr F i) (hi : i < 32) {x : Nat} (hx : x = F[i / 4]?.getD 0 / 256 ^ (3 - i % 4) % 256) : DK w (wr.setCell ⟨w.heap.size + 1, i, none⟩ (.int .u8 (x : Int))) F (i + 1) where
  bel := h.bel.setCell (p := ⟨w.heap.size + 1, i, none⟩) (by simp) _
  k0 := h.k0.far (p := ⟨w.heap.size + 1, i, none⟩) (by simp) _
  k1 := by
    have := h.k1.set i x
    rw [hx, bytesTo_set F hi, ← hx] at this
    exact this
theorem byte_shr (x j : Nat) (hj : j < 4) : (x : Int) / 2 ^ (24 - 8 * j) % 256 = ((x / 256 ^ (3 - j) % 256 : Nat) : Int) := by
  rcases (show j = 0 ∨ j = 1 ∨ j = 2 ∨ j = 3 by omega) with rfl | rfl | rfl | rfl <;> simp only [Nat.reduceMul, Nat.reduceSub, Nat.reducePow, Int.reducePow] <;> omega

theorem index8 {F : List Nat} {k x : Nat} (hk : k < 8) (hx : (u32s F)[k]? = some (.int .u32 (x : Int))) (w : World) : (Instr.index 61 (.agg (u32s F).toArray) (.int .i64 (k : Int))).run Tryd.prog w = .ok (.int .u32 (x : Int)) w := by
  have hs : (sizeOf 60).run Tryd.prog w = .ok 1 w := by kernel_rfl
  have hp : Tryd.prog.plainKey 60 = true := by simp [Program.plainKey, Tryd.underlying60]
  have hpart : (part 60 (u32s F).toArray k).run Tryd.prog w = .ok (.int .u32 (x : Int)) w := run_part_plain w hp (by rw [List.getElem?_toArray]; exact hx)
  have h1 : (0 : Int) ≤ (k : Int) ∧ (k : Int) < 8 := by omega
  simp [Instr.index, run_underlying Tryd.underlying61, asIntOf, h1, hs, hpart]
  intro h
  omega

set_option maxRecDepth 100000 in
set_option maxHeartbeats 2000000 in
theorem sum_any (w : World) {g o : Nat} (ks m : List Nat) (h : Has w g o ks m) (hT : Tab w ks) (hk : ks.length = 64) (hkl : ∀ x ∈ ks, x < 4294967296) (hm : ∀ x ∈ m, x < 256) (hn : m.length + 128 < 18446744073709551616) :
    Calls Tryd.prog 30 #[.pointer (some ⟨g, o, none⟩)] w fun e w' => e = .returned (.agg (u8s (digest ks m)).toArray) ∧ Below w.heap.size w w' := by
  have hz := zeroK
  have hzh := zeroH
  obtain ⟨rs, ⟨st, bg, hH, hst⟩, hrs⟩ := h
  have hi74 : (Tryd.prog.info? 65).map (·.size) = some 74 := by kernel_rfl
  have hi32 : (Tryd.prog.info? 24).map (·.size) = some 32 := by kernel_rfl
  have hi74' := Lib.hid hi74
  have hi32' := Lib.hid hi32
  have hl74 : (hcells st rs m.length bg).length = 74 := hcells_length hH.l1 hH.l2
  have hs74 : (hcells st rs m.length bg).toArray.size = 74 := by rw [List.size_toArray]; exact hl74
  have hz74 : (hcells (zerW 8) (zerW 64) 0 false).toArray.size = 74 := by rw [List.size_toArray]; exact hcells_length (by simp [zerW]) (by simp [zerW])
  have hone : (hcells st rs m.length bg).toArray.all (·.oneCell') = true := all_oneCell_toArray (by
    intro v hv
    simp only [hcells, u32s, u8s, List.mem_append, List.mem_map, List.mem_cons, List.not_mem_nil, or_false] at hv
    rcases hv with ⟨x, _, rfl⟩ | ⟨x, _, rfl⟩ | rfl | rfl <;> rfl)
  have hB2 : Below w.heap.size w ((w.alloc (.cells (u8s (zerW 32)).toArray 24)).alloc (.cells (u8s (zerW 32)).toArray 24)) := ((Below.refl _ _).alloc (Nat.le_refl _) _).alloc (by simp) _
  have hH2 := hH.below hB2
  have hsz2 : ((w.alloc (.cells (u8s (zerW 32)).toArray 24)).alloc (.cells (u8s (zerW 32)).toArray 24)).heap.size = w.heap.size + 2 := by simp
  have k0 : Blk8 ((w.alloc (.cells (u8s (zerW 32)).toArray 24)).alloc (.cells (u8s (zerW 32)).toArray 24)) w.heap.size (zerW 32) := heap_alloc2_old w _ _
  have k1 : Blk8 ((w.alloc (.cells (u8s (zerW 32)).toArray 24)).alloc (.cells (u8s (zerW 32)).toArray 24)) (w.heap.size + 1) (zerW 32) := heap_alloc2_new w _ _
  have hT2 := hT.below hB2
  have hTl := hT.lt
  have hH2' := Lib.hid hH2
  have hB2' := Lib.hid hB2
  have hsz2' := Lib.hid hsz2
  have k0' := Lib.hid k0
  have k1' := Lib.hid k1
  have hT2' := Lib.hid hT2
  have hst' : Hid (∀ _ : Unit, (if bg = true then st else startL) = foldB ks m (m.length / 64)) := Lib.hid fun _ => hst
  have hrs' : Hid (∀ _ : Unit, rs.take (m.length % 64) = m.drop (64 * (m.length / 64))) := Lib.hid fun _ => hrs
  have hk' := Lib.hid hk
  have hkl' := Lib.hid hkl
  have hm' := Lib.hid hm
  have hN : ∃ N, Hid (∀ _ : Unit, m.length = N) := ⟨_, Lib.hid fun _ => rfl⟩
  obtain ⟨N, hN⟩ := hN
  have hcn : ((w.alloc (.cells (u8s (zerW 32)).toArray 24)).alloc (.cells (u8s (zerW 32)).toArray 24)).cell? ⟨g, o + 72, none⟩ = some (.int .u64 (N : Int)) := by rw [← hN.out ()]; exact hH2.cn
  have hhl : HR w g o st rs m.length bg := hH
  have hgl := hhl.lt
  rw [hN.out ()] at hn hl74 hs74 hone hH2'
  clear hH hst hrs hi74 hi32 hB2 hH2 hsz2 k0 k1 hT2 hT hk hkl hm hhl
  go_enter Tryd.func30, Tryd.ntmps30
  generalize hw2 : ((w.alloc (.cells (u8s (zerW 32)).toArray 24)).alloc (.cells (u8s (zerW 32)).toArray 24)) = w2 at *
  have hgw : g < w2.heap.size := hH2'.out.lt
  have oth : ∀ k, k < w2.heap.size → ((w2.alloc (.cells (hcells (zerW 8) (zerW 64) 0 false).toArray 65)).setRow w2.heap.size (hcells st rs N bg).toArray).heap[k]? = w2.heap[k]? := fun k hk => (setRow_other _ w2.heap.size k _ (by omega)).trans (Below.heap_alloc w2 _ k hk)
  have hb24 : Below w2.heap.size w2 ((w2.alloc (.cells (hcells (zerW 8) (zerW 64) 0 false).toArray 65)).setRow w2.heap.size (hcells st rs N bg).toArray) := setRow_belS ((Below.refl _ _).alloc (Nat.le_refl _) _) (Nat.le_refl _) _
  have y0 : ((w2.alloc (.cells (hcells (zerW 8) (zerW 64) 0 false).toArray 65)).setRow w2.heap.size (hcells st rs N bg).toArray).cell? ⟨g, o + 72, none⟩ = some (.int .u64 (N : Int)) := (World.cell?_of_block (oth g hgw)).trans hcn
  have y1 : Hid (Has ((w2.alloc (.cells (hcells (zerW 8) (zerW 64) 0 false).toArray 65)).setRow w2.heap.size (hcells st rs N bg).toArray) w2.heap.size 0 ks m) := Lib.hid ⟨rs, ⟨st, bg, by
    rw [hN.out ()]
    exact HR.of_row (setRow_heap _ w2.heap.size _ _ _ _ (heap_alloc_new w2 _)) hH2'.out.l1 hH2'.out.l2, hst'.out ()⟩, hrs'.out ()⟩
  have y2 : Hid (Blk8 ((w2.alloc (.cells (hcells (zerW 8) (zerW 64) 0 false).toArray 65)).setRow w2.heap.size (hcells st rs N bg).toArray) w.heap.size (zerW 32)) := Lib.hid ((oth _ (by rw [hsz2'.out]; omega)).trans k0'.out)
  have y3 : Hid (Blk8 ((w2.alloc (.cells (hcells (zerW 8) (zerW 64) 0 false).toArray 65)).setRow w2.heap.size (hcells st rs N bg).toArray) (w.heap.size + 1) (zerW 32)) := Lib.hid ((oth _ (by rw [hsz2'.out]; omega)).trans k1'.out)
  have y4 : Hid (Below w.heap.size w ((w2.alloc (.cells (hcells (zerW 8) (zerW 64) 0 false).toArray 65)).setRow w2.heap.size (hcells st rs N bg).toArray)) := Lib.hid (hB2'.out.trans (hb24.mono (by rw [hsz2'.out]; omega)))
  have y5 : Hid (Tab ((w2.alloc (.cells (hcells (zerW 8) (zerW 64) 0 false).toArray 65)).setRow w2.heap.size (hcells st rs N bg).toArray) ks) := Lib.hid (hT2'.out.below hb24)
  have y6 : Hid (((w2.alloc (.cells (hcells (zerW 8) (zerW 64) 0 false).toArray 65)).setRow w2.heap.size (hcells st rs N bg).toArray).heap.size = w.heap.size + 3) := Lib.hid (by rw [Go.size_setRow, World.size_alloc, hsz2'.out])
  have hg2 : w2.heap.size = w.heap.size + 1 + 1 := hsz2'.out
  have hg2' := Lib.hid hg2
  clear hgw oth hb24 hcn hst' hrs' k0' k1' hT2' hB2' hgl hsz2' hg2
  go_wp2_with (first
    | (refine wpList_load_mid rfl 65 _ rfl g o rfl (hcells st rs N bg) _ hH2'.out.range Tryd.underlying65 rfl (by rw [hl74]; exact hi74'.out) ?_)
    | (refine wpList_store_row rfl 65 _ _ rfl w2.heap.size (hcells st rs N bg).toArray rfl rfl 65 _ (heap_alloc_new w2 _) (by rw [hs74]; exact hi74'.out) (by rw [hs74, hz74]) hone ?_; generalize ((w2.alloc (.cells (hcells (zerW 8) (zerW 64) 0 false).toArray 65)).setRow w2.heap.size (hcells st rs N bg).toArray) = w4 at y0 y1 y2 y3 y4 y5 y6 ⊢)
    | (refine (tail_any N w4 (by omega)).mono ?_; rintro e w5 ⟨⟨A, c, rfl, hown⟩, hb5⟩))
  have hg26 : w4.heap.size = w2.heap.size + 1 := by rw [y6.out, hg2'.out]
  have hH5 := y1.out.keep hb5
  have hT5 := y5.out.below hb5
  have hO5 : Off A (tailOf N).length w2.heap.size := fun _ a ha => by
    have := (hown.lt a.block (by rw [ha]; rfl)).1
    omega
  have hbyt := hown.byt
  have hle := hown.le
  have hml : m.length = N := hN.out ()
  have htl := tailOf_length N
  have hnl := noughts_lt N
  have hwr := write_any w5 ks m (tailOf N) A c hH5 hT5 (by rw [hg2'.out]; omega) hk'.out hkl'.out hm'.out (tailOf_lt N) hbyt hO5 (by omega) (by have := hle.2; unfold maxLen at this; omega) (by rw [hml, htl]; omega)
  rw [htl] at hwr
  have hk5a := Lib.hid (y2.out.below hb5)
  have hk5b := Lib.hid (y3.out.below hb5)
  have hB5 := Lib.hid (y4.out.trans (hb5.mono y4.out.size))
  have hg5 : w2.heap.size < w5.heap.size := by have := hb5.size; omega
  refine hwr.mono ?_
  rintro e w6 ⟨⟨v, rfl⟩, hH6, hc6⟩
  have hpad : m ++ tailOf N = padded m := by rw [← hml]; rfl
  rw [hpad] at hH6
  have hk6a : Hid (Blk8 w6 w.heap.size (zerW 32)) := Lib.hid ((hc6.block w.heap.size hk5a.out.lt (by rw [hg2'.out]; omega)).trans hk5a.out)
  have hk6b : Hid (Blk8 w6 (w.heap.size + 1) (zerW 32)) := Lib.hid ((hc6.block (w.heap.size + 1) hk5b.out.lt (by rw [hg2'.out]; omega)).trans hk5b.out)
  have hB6 : Hid (Below w.heap.size w w6) := Lib.hid (hB5.out.trans (hc6.below hB5.out.size (by rw [hg2'.out]; omega)))
  obtain ⟨rs6, ⟨st6, bg6, hR6, hs6⟩, -⟩ := hH6
  obtain ⟨F, hF⟩ : ∃ F, Hid (∀ _ : Unit, foldB ks (padded m) ((padded m).length / 64) = F) := ⟨_, Lib.hid fun _ => rfl⟩
  rw [hF.out ()] at hs6
  have hFn : F.length = 8 := by rw [← hF.out ()]; exact foldB_length _ _ _
  have hFl : ∀ x ∈ F, x < 4294967296 := by rw [← hF.out ()]; exact foldB_lt _ _ _
  have hFn' := Lib.hid hFn
  have hFl' := Lib.hid hFl
  have hnow := now_any w6 hR6
  rw [hs6] at hnow
  have hnow' := Lib.hid hnow
  have hret : Hid (∀ _ : Unit, wordBytes F = digest ks m) := Lib.hid fun _ => by rw [← hF.out ()]; rfl
  clear hH5 hT5 hO5 hbyt hle hml htl hnl hwr hk5a hk5b hB5 hg5 hc6 hpad hs6 hR6 hFn hFl hnow hown hb5 y0 y1 y2 y3 y4 y5 y6 hg26 hz hzh hH2' hw2 hone hs74 hl74 hz74
  go_wp2_with (first
    | (go_at_call 40; refine hnow'.out.mono ?_; rintro e w7 ⟨rfl, hb7⟩; skip))
  have hS : DK w w7 F 0 := ⟨hB6.out.trans (hb7.mono hB6.out.size), (hb7.block w.heap.size hk6a.out.lt).trans hk6a.out, (hb7.block (w.heap.size + 1) hk6b.out.lt).trans hk6b.out⟩
  have hS' := Lib.hid hS
  clear hS hb7 hk6a hk6b hB6 hnow'
  have hFa : (u32s F).toArray.size = 8 := by simp [u32s, hFn'.out]
  go_loopw [21] (fun i wr => ∃ k : Nat, k ≤ 8 ∧ i = .int .i64 k ∧ Hid (DK w wr F (4 * k))) (fun i _ => 8 - (intOf i).toNat)
  case atStart => exact ⟨0, by omega, rfl, hS'⟩
  case round =>
    clear hS'
    obtain ⟨k, hk8, rfl, hD⟩ := hrel
    by_cases hlt : k < 8
    · have qF : (u32s F)[k]? = some (.int .u32 ((F[k]?.getD 0 : Nat) : Int)) := u32s_get F k (by rw [hFn'.out]; exact hlt)
      have hx : ∃ x, Hid (∀ _ : Unit, F[k]?.getD 0 = x) := ⟨_, Lib.hid fun _ => rfl⟩
      obtain ⟨x, hx⟩ := hx
      have hxl : x < 4294967296 := by rw [← hx.out ()]; exact getD_lt (by decide) hFl'.out k
      rw [hx.out ()] at qF
      have k0 : (0 : Int) ≤ (k : Int) := by omega
      have k1 : (k : Int) < 8 := by omega
      have hix := index8 hlt qF
      go_wp2_with fail
      obtain ⟨wo, rfl⟩ : ∃ wo : World, wo = wr := ⟨_, rfl⟩
      clear qF hix
      go_loopw [25] (fun j wr => ∃ i : Nat, i ≤ 4 ∧ j = .int .i64 i ∧ Hid (DK w wr F (4 * k + i))) (fun j _ => 4 - (intOf j).toNat)
      case atStart => exact ⟨0, by omega, rfl, hD⟩
      case round =>
        clear hD
        obtain ⟨i, hi4, rfl, hD⟩ := hrel
        by_cases hi : i < 4
        · have e1 := byte_shr x i hi
          have hy : ∃ y, Hid (∀ _ : Unit, x / 256 ^ (3 - i) % 256 = y) := ⟨_, Lib.hid fun _ => rfl⟩
          obtain ⟨y, hy⟩ := hy
          rw [hy.out ()] at e1
          have q1 := hD.out.k1.cell (k := 4 * k + i) (by rw [bytesTo_length F (by omega)]; omega)
          have qf := hD.out.k1.frozen (4 * k + i)
          have i0 : (0 : Int) ≤ (k : Int) * 4 + (i : Int) := by omega
          have i1 : (k : Int) * 4 + (i : Int) < 32 := by omega
          have i2 : (0 : Int) ≤ 24 - 8 * (i : Int) := by omega
          have i3 : ((k : Int) * 4 + (i : Int)).toNat = 4 * k + i := by omega
          have hD2 := hD.out.set (x := y) (by omega) (by rw [show (4 * k + i) / 4 = k by omega, show (4 * k + i) % 4 = i by omega, hx.out (), hy.out ()])
          have hD2' := Lib.hid hD2
          clear hD hD2
          go_wp2_with fail
          go_roundw
          case rel => exact ⟨i + 1, by omega, by go_num, hD2'⟩
          case measure => simp [intOf]; omega
        · rw [show i = 4 by omega] at hD
          rw [show (i : Int) = (4 : Int) by omega]
          go_wp2_with fail
          go_roundw
          case rel => exact ⟨k + 1, by omega, by go_num, hD⟩
          case measure => simp [intOf]; omega
    · rw [show k = 8 by omega, show 4 * 8 = 32 from rfl] at hD
      rw [show (k : Int) = (8 : Int) by omega]
      have hk0 := hD.out.k0
      have hk1 := hD.out.k1
      rw [bytesTo_all] at hk1
      have hk0' := Lib.hid hk0
      have hk1' := Lib.hid hk1
      have hs32 : (u8s (wordBytes F)).toArray.size = 32 := by simp [u8s, wordBytes_length]
      have hz32 : (u8s (zerW 32)).toArray.size = 32 := by simp [u8s, zerW]
      have hone : (u8s (wordBytes F)).toArray.all (·.oneCell') = true := all_oneCell_toArray u8s_one
      clear hk0 hk1
      go_wp2_with (first
        | (refine wpList_load_row rfl 24 _ rfl (w.heap.size + 1) rfl 24 (u8s (wordBytes F)).toArray (0, 0) _ hk1'.out Tryd.underlying24 rfl (by rw [hs32]; exact hi32'.out) ?_)
        | (refine wpList_store_row rfl 24 _ _ rfl w.heap.size (u8s (wordBytes F)).toArray rfl rfl 24 _ hk0'.out (by rw [hs32]; exact hi32'.out) (by rw [hs32, hz32]) hone ?_))
      have hset := setRow_heap wr w.heap.size _ (u8s (wordBytes F)).toArray 24 _ hk0'.out
      refine bodyPost_ret (results_cell_row rfl _ _ w.heap.size 24 (u8s (wordBytes F)).toArray (0, 0) _ rfl hset Tryd.underlying24 rfl (by rw [hs32]; exact hi32'.out)) rfl ⟨?_, setRow_belS hD.out.bel (Nat.le_refl _) _⟩
      rw [hret.out ()]
end Go.Proofs.YtlolnpilpdkbkaaDoor

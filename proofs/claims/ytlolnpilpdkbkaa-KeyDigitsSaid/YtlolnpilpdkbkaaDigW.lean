/- KeyDigits: the law's walk. -/
import Derived.Test.YtlolnpilpdkbkaaParseB
import Derived.Deep.RegionHeld3
namespace Go.Proofs.Ytlolnpilpdkbkaa
open Go.RowKit
set_option linter.unusedSimpArgs false

section
variable {P : Program} {ops : Array Oper} {rest : List Oper} {o : Oper} {a : Act} {w : World} {Q : Exit → Act → World → Prop}
/-- A guarded load of a range of cells. -/
theorem wpList_load_mid_g (hw : Region.wanted o (yielded ops a.tmps) = true) (ty : TypeId) (x : Operand) (ho : o.op = .load ty x)
    (b k : Nat) (hx : a.eval x = .pointer (some ⟨b, k, none⟩)) (cs : List Value) (d : TypeDesc) (hc : w.rangeAt b k cs)
    (hu : P.underlying ty = some d) (hd : d.isRow = true) (hi : (P.info? ty).map (·.size) = some cs.length)
    (h : wpList P ops Q rest (a.put o.dst (.agg cs.toArray)) w) : wpList P ops Q (o :: rest) a w :=
  wpList_step fun K hK => by
    rw [if_pos hw]
    exact wp_load_mid ty x ho b k hx cs d hc hu hd hi (hK _ _ h)
end

/-- The argument where the law has boxed it. -/
structure AB (w : World) (g : Nat) (t : ByteArray) (a b : List Nat) : Prop where
  ca : w.rangeAt g 2 (u8s a)
  cb : w.rangeAt g 34 (u8s b)
  ct : w.cell? ⟨g, 1, none⟩ = some (.string t)
  lt : g < w.heap.size
theorem AB.below {w w' : World} {g : Nat} {t : ByteArray} {a b : List Nat} (h : AB w g t a b) (hb : Below w.heap.size w w') : AB w' g t a b where
  ca := fun j v hv => (hb.cell (p := ⟨g, 2 + j, none⟩) h.lt).trans (h.ca j v hv)
  cb := fun j v hv => (hb.cell (p := ⟨g, 34 + j, none⟩) h.lt).trans (h.cb j v hv)
  ct := (hb.cell (p := ⟨g, 1, none⟩) h.lt).trans h.ct
  lt := Nat.lt_of_lt_of_le h.lt hb.size
def askL (A : Option Addr) (n c : Nat) (t : ByteArray) (a b : List Nat) : List Value := .slice A n c :: .string t :: (u8s a ++ u8s b)
theorem AB.new (w : World) (A : Option Addr) (n c : Nat) (t : ByteArray) (a b : List Nat) (ha : a.length = 32) (T : TypeId) : AB (w.alloc (.cells (askL A n c t a b).toArray T)) w.heap.size t a b where
  ca := fun j v hv => by
    have hj := (List.getElem?_eq_some_iff.1 hv).1
    rw [cell_of_row _ _ _ _ _ _ (heap_alloc_new w _), List.getElem?_toArray, askL, show 2 + j = j + 1 + 1 by omega, List.getElem?_cons_succ, List.getElem?_cons_succ, List.getElem?_append_left (by omega), hv]
  cb := fun j v hv => by
    have hj := (List.getElem?_eq_some_iff.1 hv).1
    have h32 : (u8s a).length = 32 := by rw [u8s_length, ha]
    rw [cell_of_row _ _ _ _ _ _ (heap_alloc_new w _), List.getElem?_toArray, askL, show 34 + j = (32 + j) + 1 + 1 by omega, List.getElem?_cons_succ, List.getElem?_cons_succ, List.getElem?_append_right (by omega), h32, show 32 + j - 32 = j by omega, hv]
  ct := by
    rw [cell_of_row _ _ _ _ _ _ (heap_alloc_new w _)]
    rfl
  lt := by simp

theorem AB.setRow {w : World} {g k : Nat} {t : ByteArray} {a b : List Nat} (h : AB w g t a b) (hk : g < k) (cs : Array Value) : AB (w.setRow k cs) g t a b where
  ca := fun j v hv => (World.cell?_of_block (a := ⟨g, 2 + j, none⟩) (setRow_other w k g cs (by omega))).trans (h.ca j v hv)
  cb := fun j v hv => (World.cell?_of_block (a := ⟨g, 34 + j, none⟩) (setRow_other w k g cs (by omega))).trans (h.cb j v hv)
  ct := (World.cell?_of_block (a := ⟨g, 1, none⟩) (setRow_other w k g cs (by omega))).trans h.ct
  lt := by rw [Go.size_setRow]; exact h.lt
/-- How two keys stand, told by the program and by their texts. -/
theorem three (a b : List Nat) (hl : a.length = b.length) (ha : ∀ x ∈ a, x < 256) (hb : ∀ x ∈ b, x < 256) (sa sb : ByteArray) (hsa : sa.data.toList = hexL a) (hsb : sb.data.toList = hexL b) :
    ∃ (C : Int) (L G E : Bool), Lib.compareBytes (b8 a) (b8 b) = C ∧ Lib.compareBytes (b8 b) (b8 a) = -C ∧ Op.bytesLess sa.toList sb.toList = L ∧ (∀ t, binOp .gtr t (.string sa) (.string sb) = pure (.bool G)) ∧ (sa.toList == sb.toList) = E ∧
      (C = -1 ∧ L = true ∧ G = false ∧ E = false ∨ C = 0 ∧ L = false ∧ G = false ∧ E = true ∨ C = 1 ∧ L = false ∧ G = true ∧ E = false) := by
  have e1 := hex_cmp a b hl ha hb
  refine ⟨_, _, !(Op.bytesLess sa.toList sb.toList || sa.toList == sb.toList), _, rfl, cmp_neg _ _, rfl, fun t => ?_, rfl, ?_⟩
  · simp [binOp, Op.stringOp]
  · rw [Lib.toList_data, Lib.toList_data, hsa, hsb, cmp_less, cmp_zero, e1]
    rcases cmp_three (b8 a) (b8 b) with h | h | h <;> rw [h] <;> simp

set_option maxRecDepth 100000 in
set_option maxHeartbeats 1000000 in
theorem keyDigits_any (A : Option Addr) (n c : Nat) (t : ByteArray) (a b : List Nat) (W : World) (hal : a.length = 32) (hbl : b.length = 32) (ha : ∀ x ∈ a, x < 256) (hb : ∀ x ∈ b, x < 256) (ht : t.size ≤ 9223372036854775807) :
    Calls Try.prog 4 #[.agg (askL A n c t a b).toArray] W fun e w' => e = .returned (.bool true) ∧ Below W.heap.size W w' := by
  have hz := zeroK
  have hi32 : (Try.prog.info? 25).map (·.size) = some 32 := by kernel_rfl
  have hi32' := Lib.hid hi32
  have hla : (u8s a).length = 32 := by rw [u8s_length, hal]
  have hlb : (u8s b).length = 32 := by rw [u8s_length, hbl]
  have h0' := Lib.hid (AB.new W A n c t a b hal 27)
  have hB0 := Lib.hid ((Below.refl W.heap.size W).alloc (Nat.le_refl _) (.cells (askL A n c t a b).toArray 27))
  have hneA : ∀ w, (binOp .neq 25 (.agg (u8s a).toArray) (.agg (u8s a).toArray)).run Try.prog w = .ok (.bool false) w := fun w => by
    have := neK hal hal w
    simpa using this
  have hneA' := Lib.hid hneA
  obtain ⟨sa, hsa⟩ : ∃ s : ByteArray, Hid (s = ⟨(hexL a).toArray⟩) := ⟨_, Lib.hid rfl⟩
  obtain ⟨sb, hsb⟩ : ∃ s : ByteArray, Hid (s = ⟨(hexL b).toArray⟩) := ⟨_, Lib.hid rfl⟩
  have hsz : sa.size = 64 := by rw [hsa.out, Lib.size_eq, List.toList_toArray, hexL_length, hal]
  have hsl : sa.data.toList = hexL a := by rw [hsa.out]
  have hsl2 : sb.data.toList = hexL b := by rw [hsb.out]
  have hx1 : Hid (∀ w, Calls Try.prog 7 #[.agg (u8s a).toArray] w fun e w' => e = .returned (.string sa) ∧ Below w.heap.size w w') := Lib.hid fun w => by
    rw [hsa.out]; exact hex_any a w hal ha
  have hx2 : Hid (∀ w, Calls Try.prog 7 #[.agg (u8s b).toArray] w fun e w' => e = .returned (.string sb) ∧ Below w.heap.size w w') := Lib.hid fun w => by
    rw [hsb.out]; exact hex_any b w hbl hb
  have hp1 : Hid (∀ w, Calls Try.prog 8 #[.string sa] w fun e w' => e = .returned (.tuple #[.agg (u8s a).toArray, .int .i64 0]) ∧ Below w.heap.size w w') := Lib.hid fun w => by
    have := parse_good sa w hsz (by rw [hsl]; exact hexL_dig a ha)
    rwa [hsl, parsed_hex a ha] at this
  obtain ⟨C, L, G, E, e1, e2, e3, e4, e5, hcase⟩ := three a b (by omega) ha hb sa sb hsl hsl2
  have hc1 : Hid (∀ w, Calls Try.prog 9 #[.agg (u8s a).toArray, .agg (u8s b).toArray] w fun e w' => e = .returned (.int .i64 C) ∧ Below w.heap.size w w') := Lib.hid fun w => by
    rw [← e1]; exact compare_any w a b hal hbl ha hb
  have hc2 : Hid (∀ w, Calls Try.prog 9 #[.agg (u8s b).toArray, .agg (u8s a).toArray] w fun e w' => e = .returned (.int .i64 (-C)) ∧ Below w.heap.size w w') := Lib.hid fun w => by
    rw [← e2]; exact compare_any w b a hbl hal hb ha
  have hal' := Lib.hid hal
  have hls : (u8s a).toArray.size = 32 := by simpa using hla
  have hzs : (u8s (zeros 32)).toArray.size = 32 := by simp [u8s, zeros]
  have hone : (u8s a).toArray.all (·.oneCell') = true := all_oneCell_toArray u8s_one
  have hla' := Lib.hid hla
  have hlb' := Lib.hid hlb
  have e3' := Lib.hid e3
  have e4' := Lib.hid e4
  have e5' := Lib.hid e5
  have ht' := Lib.hid ht
  have hsz' := Lib.hid hsz
  clear hi32 hneA e1 e2 ha hb hal hbl hsl hsl2 hla hlb e3 e4 e5 hsa hsb ht hsz
  go_enter Try.func4, Try.ntmps4
  go_wp2_with (first
    | (refine wpList_load_mid rfl 25 _ rfl W.heap.size 2 rfl (u8s a) _ h0'.out.ca Try.underlying25 rfl (by rw [hla'.out]; exact hi32'.out) ?_))
  refine (hx1.out _).mono ?_
  rintro e w1 ⟨rfl, hb1⟩
  have h1' := Lib.hid (h0'.out.below hb1)
  have hB1 := Lib.hid (hB0.out.trans (hb1.mono hB0.out.size))
  clear h0' hB0 hb1
  go_wp2_with (first
    | (refine wpList_load_mid rfl 25 _ rfl W.heap.size 34 rfl (u8s b) _ h1'.out.cb Try.underlying25 rfl (by rw [hlb'.out]; exact hi32'.out) ?_))
  refine (hx2.out _).mono ?_
  rintro e w2 ⟨rfl, hb2⟩
  have h2' := Lib.hid (h1'.out.below hb2)
  have hB2 := Lib.hid (hB1.out.trans (hb2.mono hB1.out.size))
  clear h1' hB1 hb2 hx2
  go_wp2_with fail
  refine (hp1.out _).mono ?_
  rintro e w3 ⟨rfl, hb3⟩
  have h3' := Lib.hid (h2'.out.below hb3)
  have hB3 := Lib.hid (hB2.out.trans (hb3.mono hB2.out.size))
  clear h2' hB2 hb3 hp1
  have hkn := key_new w3 a
  have h4' := Lib.hid (h3'.out.below hkn.2)
  have hB4 := Lib.hid (hB3.out.trans (hkn.2.mono hB3.out.size))
  have hk4 := Lib.hid hkn.1
  have hB3' := Lib.hid h3'.out.lt
  clear hkn h3'
  go_wp2_with (first
    | (refine wpList_store_row rfl 25 _ _ rfl w3.heap.size (u8s a).toArray rfl rfl 25 _ (heap_alloc_new w3 _) (by rw [hls]; exact hi32'.out) (by rw [hls, hzs]) hone ?_; generalize ((w3.alloc (.cells (u8s (zeros 32)).toArray 25)).setRow w3.heap.size (u8s a).toArray) = w4 at h4' hB4 hk4 ⊢)
    | (refine wpList_load_row_g rfl 25 _ rfl w3.heap.size rfl 25 (u8s a).toArray (0, 0) _ hk4.out Try.underlying25 rfl (by rw [hls]; exact hi32'.out) ?_)
    | (refine wpList_load_mid_g rfl 25 _ rfl W.heap.size 2 rfl (u8s a) _ h4'.out.ca Try.underlying25 rfl (by rw [hla'.out]; exact hi32'.out) ?_; have hneA := hneA'.out; have hsz := hsz'.out)
    | (refine wpList_load_mid rfl 25 _ rfl W.heap.size 2 rfl (u8s a) _ h4'.out.ca Try.underlying25 rfl (by rw [hla'.out]; exact hi32'.out) ?_)
    | (refine wpList_load_mid rfl 25 _ rfl W.heap.size 34 rfl (u8s b) _ h4'.out.cb Try.underlying25 rfl (by rw [hlb'.out]; exact hi32'.out) ?_))
  refine (hc1.out w4).mono ?_
  rintro e w5 ⟨rfl, hb5⟩
  have h5' := Lib.hid (h4'.out.below hb5)
  have hB5 := Lib.hid (hB4.out.trans (hb5.mono hB4.out.size))
  have hk5 := Lib.hid (hk4.out.below hb5)
  clear h4' hB4 hk4 hb5 hc1 hneA
  have e3 := e3'.out
  have e4 := e4'.out
  have e5 := e5'.out
  have hc2' := hc2.out w5
  have hc2'' := Lib.hid hc2'
  have hks : w3.heap.size < w5.heap.size := hk5.out.lt
  clear e3' e4' e5' hc2 hc2' hsz'
  have rg := Lib.hid fun (W : World) (F : List Nat) (g : Nat) (h : Blk8 W g F) => show W.rangeAt g 0 (u8s F) from fun j v hv => by
    rw [Nat.zero_add, cell_of_row _ _ _ _ _ _ h]
    simpa using hv
  have hKW : W.heap.size < w3.heap.size := by have := hB3'.out; omega
  rcases hcase with ⟨rfl, rfl, rfl, rfl⟩ | ⟨rfl, rfl, rfl, rfl⟩ | ⟨rfl, rfl, rfl, rfl⟩
  all_goals
    go_wp2_with (first
      | (refine wpList_load_mid_g rfl 25 _ rfl W.heap.size 34 rfl (u8s b) _ h5'.out.cb Try.underlying25 rfl (by rw [hlb'.out]; exact hi32'.out) ?_)
      | (refine wpList_load_mid_g rfl 25 _ rfl W.heap.size 2 rfl (u8s a) _ h5'.out.ca Try.underlying25 rfl (by rw [hla'.out]; exact hi32'.out) ?_))
    refine hc2''.out.mono ?_
    rintro e w6 ⟨rfl, hb6⟩
    have h6' := Lib.hid (h5'.out.below hb6)
    have hB6 := Lib.hid (hB5.out.trans (hb6.mono hB5.out.size))
    have hk6 := Lib.hid (hk5.out.below hb6)
    have ct := h6'.out.ct
    clear h5' hB5 hk5 hb6 hc2'' hks e3 e4 e5
    go_wp2_with fail
    by_cases hg : good t.data.toList = true
    · have hg2 : t.size = 64 ∧ allDig t.data.toList = true := by
        unfold good at hg
        rw [Bool.and_eq_true, decide_eq_true_iff, ← Lib.size_eq] at hg
        exact hg
      have hpt := parse_good t w6 hg2.1 hg2.2
      have htl : t.data.toList.length = 2 * 32 := by rw [← Lib.size_eq]; exact hg2.1
      obtain ⟨F, hF⟩ : ∃ F, Hid (∀ _ : Unit, parsedL t.data.toList = F) := ⟨_, Lib.hid fun _ => rfl⟩
      have hFl : F.length = 32 := by rw [← hF.out ()]; exact parsedL_length 32 _ htl
      have hFb : ∀ x ∈ F, x < 256 := by rw [← hF.out ()]; exact parsedL_lt 32 _ htl hg2.2
      have hFt : hexL F = t.data.toList := by rw [← hF.out ()]; exact hex_parsed 32 _ htl hg2.2
      have hxF : Hid (∀ w, Calls Try.prog 7 #[.agg (u8s F).toArray] w fun e w' => e = .returned (.string t) ∧ Below w.heap.size w w') := Lib.hid fun w => by
        have := hex_any F w hFl hFb
        rwa [hFt] at this
      rw [hF.out ()] at hpt
      refine hpt.mono ?_
      rintro e w7 ⟨rfl, hb7⟩
      have h7' := Lib.hid (h6'.out.below hb7)
      have hB7 := Lib.hid (hB6.out.trans (hb7.mono hB6.out.size))
      have hk7 := Lib.hid (hk6.out.below hb7)
      have hFs : (u8s F).toArray.size = 32 := by simp [u8s, hFl]
      have hFlen : (u8s F).length = 32 := by simp [u8s, hFl]
      have hFlen' := Lib.hid hFlen
      have honeF : (u8s F).toArray.all (·.oneCell') = true := all_oneCell_toArray u8s_one
      have hk8 : Hid (Blk8 (w7.setRow w3.heap.size (u8s F).toArray) w3.heap.size F) := Lib.hid (setRow_heap w7 w3.heap.size _ (u8s F).toArray 25 _ hk7.out)
      have h8' := Lib.hid (h7'.out.setRow (k := w3.heap.size) (by omega) (u8s F).toArray)
      have hB8 := Lib.hid (setRow_below hB7.out (g := w3.heap.size) (by omega) (u8s F).toArray)
      clear hg hg2 htl hF hFl hFb hFt hpt hb7 ct h6' hB6 hk6 hFlen
      go_wp2_with (first
        | (refine wpList_store_row rfl 25 _ _ rfl w3.heap.size (u8s F).toArray rfl rfl 25 _ hk7.out (by rw [hFs]; exact hi32'.out) (by rw [hFs, hls]) honeF ?_; generalize (w7.setRow w3.heap.size (u8s F).toArray) = w8 at h8' hB8 hk8 ⊢))
      refine wp_region_held (S := fun W' => Blk8 W' w3.heap.size F ∧ AB W' W.heap.size t a b ∧ Below W.heap.size W W') (by kernel_rfl) ?_
      change wpAnyH _ _ _ _ _ _ _ _ (World.drew _)
      have hd := Lib.hid (show Blk8 w8.drew w3.heap.size F ∧ AB w8.drew W.heap.size t a b ∧ Below W.heap.size W w8.drew from ⟨hk8.out, h8'.out.below (below_drewN (Below.refl _ _) 1), hB8.out.drew⟩)
      refine wpAnyH_take (i := 0) rfl (by kernel_rfl) (by kernel_rfl) (by kernel_rfl) (fun _ _ _ h => h) (yieldsIf_load_mid (by rfl) 25 _ rfl w3.heap.size 0 rfl (u8s F) _ (fun _ h => rg.out _ _ _ h.1) Try.underlying25 rfl (by rw [hFlen'.out]; exact hi32'.out)) hd.out ?_
      simp only [Act.put, List.setIfInBounds_toArray, List.set_cons_zero, List.set_cons_succ]
      refine wpAnyH_take (i := 2) (v := .pointer (some ⟨W.heap.size, 1, none⟩)) rfl (by kernel_rfl) (by kernel_rfl) (by kernel_rfl) (fun _ _ _ h => h) (Or.inl ⟨by rfl, by intro W _; go_simp⟩) hd.out ?_
      simp only [Act.put, List.setIfInBounds_toArray, List.set_cons_zero, List.set_cons_succ]
      refine wpAnyH_take (i := 3) (v := .string t) rfl (by kernel_rfl) (by kernel_rfl) (by kernel_rfl) (fun _ _ _ h => h) (Or.inl ⟨by rfl, by intro W hW; have ct := hW.2.1.ct; clear hW; go_simp⟩) hd.out ?_
      simp only [Act.put, List.setIfInBounds_toArray, List.set_cons_zero, List.set_cons_succ]
      refine wpAnyH_ready (rs := [1]) (by kernel_rfl) (by simp) ?_
      refine AllReadyH.cons rfl (fun K hK => ?_) AllReadyH.nil
      go_simp
      go_wp2_with (go_at_call 7; refine (hxF.out _).mono ?_; rintro e w9 ⟨rfl, hb9⟩; skip)
      have hd9 := Lib.hid (show Blk8 w9 w3.heap.size F ∧ AB w9 W.heap.size t a b ∧ Below W.heap.size W w9 from ⟨hd.out.1.below hb9, hd.out.2.1.below hb9, hd.out.2.2.trans (hb9.mono hd.out.2.2.size)⟩)
      clear hb9 hd
      refine hK.out _ _ hd9.out (fun _ => ?_)
      clear hK K
      refine wpAnyH_ready (rs := [4]) (by kernel_rfl) (by simp) ?_
      refine AllReadyH.cons rfl (fun K hK => ?_) AllReadyH.nil
      go_simp
      refine hK.out _ _ hd9.out (fun _ => ?_)
      clear hK K
      refine wpAnyH_ready (rs := [5]) (by kernel_rfl) (by simp) ?_
      refine AllReadyH.cons rfl (fun K hK => ?_) AllReadyH.nil
      go_simp
      refine hK.out _ _ hd9.out (fun _ => ?_)
      clear hK K
      refine wpAnyH_done (by kernel_rfl) ?_ _
      go_wp2_with fail
      go_ret
      exact ⟨rfl, hd9.out.2.2⟩
    · have hpt := parse_bad t w6 ht'.out (by simpa using hg)
      refine hpt.mono ?_
      rintro e w7 ⟨rfl, hb7⟩
      have hB7 := Lib.hid (hB6.out.trans (hb7.mono hB6.out.size))
      have hk7 := Lib.hid (hk6.out.below hb7)
      have honeZ : (u8s (zeros 32)).toArray.all (·.oneCell') = true := all_oneCell_toArray u8s_one
      have hk8 : Hid (Blk8 (w7.setRow w3.heap.size (u8s (zeros 32)).toArray) w3.heap.size (zeros 32)) := Lib.hid (setRow_heap w7 w3.heap.size _ (u8s (zeros 32)).toArray 25 _ hk7.out)
      have hB8 := Lib.hid (setRow_below hB7.out (g := w3.heap.size) (by omega) (u8s (zeros 32)).toArray)
      have hzb := zeroKb
      have heq : ∀ w, (binOp .eql 25 (.agg (u8s (zeros 32)).toArray) (.agg (u8s (zeros 32)).toArray)).run Try.prog w = .ok (.bool true) w := fun w => by
        have := eqK (l := zeros 32) (l' := zeros 32) (by simp [zeros]) (by simp [zeros]) w
        simpa using this
      clear hg hpt hb7 ct h6' hB6 hk6
      go_wp2_with (first
        | (refine wpList_store_row rfl 25 _ _ rfl w3.heap.size (u8s (zeros 32)).toArray rfl rfl 25 _ hk7.out (by rw [hzs]; exact hi32'.out) (by rw [hzs, hls]) honeZ ?_; generalize (w7.setRow w3.heap.size (u8s (zeros 32)).toArray) = w8 at hB8 hk8 ⊢)
        | (refine wpList_load_row rfl 25 _ rfl w3.heap.size rfl 25 (u8s (zeros 32)).toArray (0, 0) _ hk8.out Try.underlying25 rfl (by rw [hzs]; exact hi32'.out) ?_))
      go_ret
      exact ⟨rfl, hB8.out⟩
end Go.Proofs.Ytlolnpilpdkbkaa

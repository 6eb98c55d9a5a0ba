/- KeyExact's walk. (Printed by tools/genkx.py.) -/
import Derived.Test.YtlolnpilpdkbkaaDoorKxRm
import Derived.Test.YtlolnpilpdkbkaaDoorKxW
import Derived.Test.YtlolnpilpdkbkaaDoorKxO
import Derived.Test.YtlolnpilpdkbkaaDoorKxH
import Derived.Test.YtlolnpilpdkbkaaDoorKxA
namespace Go.Proofs.YtlolnpilpdkbkaaDoor
open Go.RowKit
set_option linter.unusedSimpArgs false
set_option linter.unusedVariables false

theorem yieldsIf_bin {P : Program} {ops : Array Oper} {S : World → Prop} {op : Oper} {a : Act} (hw : Region.wanted op (yielded ops a.tmps) = true) (bo : BinOp) (t t2 : TypeId) (x y : Operand) (ho : op.op = .binOp bo t x y t2) (u1 u2 : Value) (hx : a.eval x = u1) (hy : a.eval y = u2) (v : Value)
    (hg : ∀ w, (eqGuard bo t x y u1 u2).run P w = .ok () w) (hr : ∀ w, S w → (binOp bo t u1 u2).run P w = .ok v w) : YieldsIf P ops S op v a :=
  .inl ⟨hw, fun w hw' => by unfold execOp; simp [ho, hx, hy, hg w, hr w hw']⟩
theorem take_byt {w : World} {B e n c g : Nat} {l : List Nat} (h : Own w B e 1 (some ⟨g, 0, none⟩) n c (u8s l)) (k : Nat) (hk : k ≤ n) : Byt w w.heap.size (some ⟨g, 0, none⟩) (l.take k) := by
  have hl : l.length = n := by have := h.len; rw [u8s_length] at this; omega
  have h1 := Rd.take h.byt (m := k) (by omega)
  have h2 : (l.take k).length = k := by rw [List.length_take]; omega
  unfold Byt
  rw [h2]
  exact h1.congr fun j hj => by rw [List.getElem?_take_of_lt hj]
theorem compare_self (l : List UInt8) : Lib.compareBytes l l = 0 := by
  have := cmp_zero l l
  simpa using this
theorem parse_any (s : ByteArray) (w : World) (hm : s.size ≤ 9223372036854775807) :
    Calls Tryd.prog 15 #[.string s] w fun e w' => e = .returned (.tuple #[.agg (u8s (parseR s.data.toList)).toArray, .int .i64 (parseE s.data.toList : Nat)]) ∧ Below w.heap.size w w' := by
  unfold parseR parseE
  by_cases hg : good s.data.toList = true
  · rw [if_pos hg, if_pos hg]
    have hg2 := hg
    unfold good at hg2
    rw [Bool.and_eq_true, decide_eq_true_iff, ← Lib.size_eq] at hg2
    exact parse_good s w hg2.1 hg2.2
  · rw [if_neg hg, if_neg hg]
    exact parse_bad s w hm (by simpa using hg)
theorem parseR_length (s : List UInt8) : (parseR s).length = 32 := by
  unfold parseR
  split
  · rename_i h
    unfold good at h
    rw [Bool.and_eq_true, decide_eq_true_iff] at h
    exact parsedL_length 32 _ (by rw [h.1])
  · simp [zeros]
theorem fromR_length (l : List Nat) : (fromR l).length = 32 := by
  unfold fromR
  split
  · assumption
  · simp [zeros]
set_option maxRecDepth 100000 in
set_option maxHeartbeats 4000000 in
theorem keyExact_any (A : Option Addr) (n c : Nat) (t : ByteArray) (a b bs : List Nat) (W : World) (hal : a.length = 32) (hbl0 : b.length = 32) (ha : ∀ x ∈ a, x < 256) (hb : ∀ x ∈ b, x < 256) (ht : t.size ≤ 9223372036854775807)
    (hn : bs.length = n) (hbs : ∀ x ∈ bs, x < 256) (hA : Byt W W.heap.size A bs) (hnc : n ≤ c) (hL : n ≤ 140737488355328)
    (ks : List Nat) (hk : ks.length = 64) (hkl : ∀ x ∈ ks, x < 4294967296) (hT : ∀ W', Below W.heap.size W W' → Tab W' ks) (hRT : ∀ W', Below W.heap.size W W' → RTab W' ks ∧ BTab W') :
    Calls Tryd.prog 3 #[.agg (askL A n c t a b).toArray] W fun e w' => e = .returned (.bool true) ∧ Below W.heap.size W w' := by
  have hz := zeroKy
  have hi32 : Hid ((Tryd.prog.info? 24).map (·.size) = some 32) := Lib.hid (by kernel_rfl)
  have hla : Hid ((u8s a).length = 32) := Lib.hid (by rw [u8s_length, hal])
  have hlb : Hid ((u8s b).length = 32) := Lib.hid (by rw [u8s_length, hbl0])
  have hzs : Hid ((u8s (zeros 32)).toArray.size = 32) := Lib.hid (by simp [u8s, zeros])
  obtain ⟨D, hD⟩ : ∃ D, digest ks bs = D := ⟨_, rfl⟩
  obtain ⟨FR, hFR⟩ : ∃ FR, fromR bs = FR := ⟨_, rfl⟩
  obtain ⟨FE, hFE⟩ : ∃ FE, fromE bs = FE := ⟨_, rfl⟩
  obtain ⟨PR, hPR⟩ : ∃ PR, parseR t.data.toList = PR := ⟨_, rfl⟩
  obtain ⟨PE, hPE⟩ : ∃ PE, parseE t.data.toList = PE := ⟨_, rfl⟩
  obtain ⟨C, hC⟩ : ∃ C, Lib.compareBytes (b8 a) (b8 b) = C := ⟨_, rfl⟩
  obtain ⟨sa, hsa⟩ : ∃ s : ByteArray, (⟨(hexL a).toArray⟩ : ByteArray) = s := ⟨_, rfl⟩
  have hDl : D.length = 32 := by rw [← hD]; exact digest_length ks bs
  have hFRl : FR.length = 32 := by rw [← hFR]; exact fromR_length _
  have hPRl : PR.length = 32 := by rw [← hPR]; exact parseR_length _
  have hFRs : Hid ((u8s FR).toArray.size = 32) := Lib.hid (by simp [u8s, hFRl])
  have hPRs : Hid ((u8s PR).toArray.size = 32) := Lib.hid (by simp [u8s, hPRl])
  have hneD : Hid (∀ w, (binOp .neq 24 (.agg (u8s D).toArray) (.agg (u8s D).toArray)).run Tryd.prog w = .ok (.bool false) w) := Lib.hid fun w => by
    have := neK hDl hDl w
    simpa using this
  have hneF : Hid (∀ w, (binOp .neq 24 (.agg (u8s FR).toArray) (.agg (u8s FR).toArray)).run Tryd.prog w = .ok (.bool false) w) := Lib.hid fun w => by
    have := neK hFRl hFRl w
    simpa using this
  have heP : Hid (∀ w, (binOp .eql 24 (.agg (u8s PR).toArray) (.agg (u8s PR).toArray)).run Tryd.prog w = .ok (.bool true) w) := Lib.hid fun w => by
    have := eqK hPRl hPRl w
    simpa using this
  have hAB0 := Lib.hid (AB.new W A n c t a b hal 26)
  have hB0 := Lib.hid ((Below.refl W.heap.size W).alloc (Nat.le_refl _) (.cells (askL A n c t a b).toArray 26))
  have hc00 : Hid ((W.alloc (.cells (askL A n c t a b).toArray 26)).cell? ⟨W.heap.size, 0, none⟩ = some (.slice A n c)) := Lib.hid (by rw [cell_of_row _ _ _ _ _ _ (heap_alloc_new W _)]; rfl)
  have hW0 := Lib.hid (by have := hAB0.out.lt; exact this)
  have h0c := hc00.out
  go_enter Tryd.func3, Tryd.ntmps3
  go_wp2_with fail
  clear h0c
  generalize (W.alloc (.cells (askL A n c t a b).toArray 26)) = w0 at hAB0 hB0 hc00 hW0 ⊢
  have hA0 : Byt w0 w0.heap.size A bs := (hA.below hB0.out).mono hB0.out.size
  refine (roomy_any w0 bs A n c hn hA0 hL).mono ?_
  rintro e w1 ⟨⟨ga, cc, rfl, ho⟩, b1⟩
  rw [hn] at ho ⊢
  have hB1 : Hid (Below W.heap.size W w1) := Lib.hid (hB0.out.trans (b1.mono hB0.out.size))
  have hAB : Hid (AB w1 W.heap.size t a b) := Lib.hid (hAB0.out.below b1)
  have hc0 : Hid (w1.cell? ⟨W.heap.size, 0, none⟩ = some (.slice A n c)) := Lib.hid ((b1.cell (p := ⟨W.heap.size, 0, none⟩) hW0.out).trans hc00.out)
  have hA1 : Byt w1 w1.heap.size A bs := (hA0.below b1).mono b1.size
  have hM1 : Byt w1 w1.heap.size (some ⟨ga, 0, none⟩) (roomL bs) := ho.byt
  have hb1 : Byt w1 w1.heap.size (some ⟨ga, 0, none⟩) bs := by
    have := take_byt ho n (by omega)
    rw [← hn, roomL_take] at this
    exact this
  have hcc := ho.le
  have hbl : ∀ {W' : World} {X : Option Addr} {l : List Nat}, Byt w1 w1.heap.size X l → Below w1.heap.size w1 W' → Byt W' W'.heap.size X l := fun h1 h2 => (h1.below h2).mono h2.size
  have hBW : ∀ {W' : World}, Below w1.heap.size w1 W' → Below W.heap.size W W' := fun h => hB1.out.trans (h.mono hB1.out.size)
  have hWk : Hid (∀ W', Below w1.heap.size w1 W' → Calls Tryd.prog 5 #[] W' fun e w' => e = .returned (.bool true) ∧ Below W'.heap.size W' w') := Lib.hid fun W' h => works_any W'
  have hOf : Hid (∀ W', Below w1.heap.size w1 W' → Calls Tryd.prog 6 #[.slice (some ⟨ga, 0, none⟩) n cc] W' fun e w' => e = .returned (.agg (u8s D).toArray) ∧ Below W'.heap.size W' w') := Lib.hid fun W' h => by
    rw [← hD]
    exact of_any W' ks bs _ n cc hn (fun X hX => hT X (((hBW h).trans (hX.mono (hBW h).size)))) hk hkl hbs (hbl hb1 h) (by omega) (by have := hcc.2; unfold maxLen at this; omega)
  have hRO : Hid (∀ W', Below w1.heap.size w1 W' → Calls Tryd.prog 7 #[.slice A n c] W' fun e w' => e = .returned (.agg (u8s D).toArray) ∧ Below W'.heap.size W' w') := Lib.hid fun W' h => by
    rw [← hD]
    exact refOf_any W' ks bs _ n c hn (fun X hX => hRT X (((hBW h).trans (hX.mono (hBW h).size)))) hk hkl hbs (hbl hA1 h) hL
  have hHx : Hid (∀ W', Below w1.heap.size w1 W' → Calls Tryd.prog 8 #[.agg (u8s a).toArray] W' fun e w' => e = .returned (.string sa) ∧ Below W'.heap.size W' w') := Lib.hid fun W' h => by
    rw [← hsa]; exact hex_any a W' hal ha
  have hRH : Hid (∀ W', Below w1.heap.size w1 W' → Calls Tryd.prog 9 #[.agg (u8s a).toArray] W' fun e w' => e = .returned (.string sa) ∧ Below W'.heap.size W' w') := Lib.hid fun W' h => by
    rw [← hsa]; exact refHex_any a W' hal ha
  have hCm : Hid (∀ W', Below w1.heap.size w1 W' → Calls Tryd.prog 10 #[.agg (u8s a).toArray, .agg (u8s b).toArray] W' fun e w' => e = .returned (.int .i64 C) ∧ Below W'.heap.size W' w') := Lib.hid fun W' h => by
    rw [← hC]; exact compare_any W' a b hal hbl0 ha hb
  have hRC : Hid (∀ W', Below w1.heap.size w1 W' → Calls Tryd.prog 11 #[.agg (u8s a).toArray, .agg (u8s b).toArray] W' fun e w' => e = .returned (.int .i64 C) ∧ Below W'.heap.size W' w') := Lib.hid fun W' h => by
    rw [← hC]; exact refCompare_any W' a b hal hbl0 ha hb
  have hCA : Hid (∀ W', Below w1.heap.size w1 W' → Calls Tryd.prog 10 #[.agg (u8s a).toArray, .agg (u8s a).toArray] W' fun e w' => e = .returned (.int .i64 0) ∧ Below W'.heap.size W' w') := Lib.hid fun W' h => by
    have := compare_any W' a a hal hal ha ha
    rw [compare_self] at this
    exact this
  have hFr : Hid (∀ W', Below w1.heap.size w1 W' → Calls Tryd.prog 12 #[.slice (some ⟨ga, 0, none⟩) n cc] W' fun e w' => e = .returned (.tuple #[.agg (u8s FR).toArray, .int .i64 (FE : Nat)]) ∧ Below W'.heap.size W' w') := Lib.hid fun W' h => by
    have := from_any W' _ bs n cc hn (by omega) (hbl hb1 h)
    unfold FromP at this
    rw [hFR, hFE] at this
    exact this
  have hRF : Hid (∀ W', Below w1.heap.size w1 W' → Calls Tryd.prog 13 #[.slice A n c] W' fun e w' => e = .returned (.tuple #[.agg (u8s FR).toArray, .int .i64 (FE : Nat)]) ∧ Below W'.heap.size W' w') := Lib.hid fun W' h => by
    have := refFrom_any W' A bs n c hn (hbl hA1 h)
    unfold FromP at this
    rw [hFR, hFE] at this
    exact this
  have hLf : Hid (∀ W', Below w1.heap.size w1 W' → Calls Tryd.prog 14 #[.slice (some ⟨ga, 0, none⟩) n cc, .slice A n c] W' fun e w' => e = .returned (.bool true) ∧ ∃ m, w' = W'.drewN m) := Lib.hid fun W' h =>
    left_any W' bs A n c cc ga hn (hbl hA1 h) (hbl hM1 h) hL (by omega)
  have hPa : Hid (∀ W', Below w1.heap.size w1 W' → Calls Tryd.prog 15 #[.string t] W' fun e w' => e = .returned (.tuple #[.agg (u8s PR).toArray, .int .i64 (PE : Nat)]) ∧ Below W'.heap.size W' w') := Lib.hid fun W' h => by
    have := parse_any t W' ht
    rw [hPR, hPE] at this
    exact this
  have hRP : Hid (∀ W', Below w1.heap.size w1 W' → Calls Tryd.prog 16 #[.string t] W' fun e w' => e = .returned (.tuple #[.agg (u8s PR).toArray, .int .i64 (PE : Nat)]) ∧ Below W'.heap.size W' w') := Lib.hid fun W' h => by
    have := refParse_any t W' ht
    rw [hPR, hPE] at this
    exact this
  clear hbl hBW hA hA0 hA1 hM1 hb1 ho b1 hT hRT hD hFR hFE hPR hPE hC hsa hDl hFRl hPRl hcc hAB0 hB0 hc00 hW0 hk hkl hbs ha hb ht hal hbl0 hn
  go_wp2_with fail
  have hd : Hid (Below w1.heap.size w1 w1.drew) := Lib.hid (below_drewN (Below.refl _ _) 1)
  refine wp_region_held (S := fun W' => Below w1.heap.size w1 W') (by kernel_rfl) ?_
  change wpAnyH _ _ _ _ _ _ _ _ (World.drew _)
  refine wpAnyH_ready (rs := [0]) (by kernel_rfl) (by simp) ?_
  refine AllReadyH.cons rfl (fun K hK => ?_) AllReadyH.nil
  go_simp
  refine (hWk.out _ hd.out).mono ?_
  rintro e w15 ⟨rfl, b1⟩
  have hd1 : Hid (Below w1.heap.size w1 w15) := Lib.hid (hd.out.trans (b1.mono hd.out.size))
  clear b1
  refine hK.out _ _ hd1.out (fun _ => ?_)
  clear hK K
  refine tk (i := 1) (d := 12) (v := (.bool false)) rfl rfl (Or.inl ⟨by rfl, by intro W' hW; clear hW; go_simp⟩) hd1.out ?_
  simp only [List.setIfInBounds_toArray, List.set_cons_zero, List.set_cons_succ]
  refine tk (i := 2) (d := 13) (v := (.bool false)) rfl rfl (Or.inl ⟨by rfl, by intro W' hW; clear hW; go_simp⟩) hd1.out ?_
  simp only [List.setIfInBounds_toArray, List.set_cons_zero, List.set_cons_succ]
  refine tk (i := 3) (d := 14) (v := (.slice (some ⟨ga, 0, none⟩) n cc)) rfl rfl (Or.inl ⟨by rfl, by intro W' hW; clear hW; go_simp⟩) hd1.out ?_
  simp only [List.setIfInBounds_toArray, List.set_cons_zero, List.set_cons_succ]
  refine tk (i := 5) (d := 16) (v := (.pointer (some ⟨W.heap.size, 0, none⟩))) rfl rfl (Or.inl ⟨by rfl, by intro W' hW; clear hW; go_simp⟩) hd1.out ?_
  simp only [List.setIfInBounds_toArray, List.set_cons_zero, List.set_cons_succ]
  refine tk (i := 6) (d := 17) (v := (.slice A n c)) rfl rfl (Or.inl ⟨by rfl, by intro W' hW; have c0 := (hW.cell (p := ⟨W.heap.size, 0, none⟩) hAB.out.lt).trans hc0.out; clear hW; go_simp⟩) hd1.out ?_
  simp only [List.setIfInBounds_toArray, List.set_cons_zero, List.set_cons_succ]
  refine wpAnyH_ready (rs := [4]) (by kernel_rfl) (by simp) ?_
  refine AllReadyH.cons rfl (fun K hK => ?_) AllReadyH.nil
  go_simp
  refine (hOf.out _ hd1.out).mono ?_
  rintro e w25 ⟨rfl, b2⟩
  have hd2 : Hid (Below w1.heap.size w1 w25) := Lib.hid (hd1.out.trans (b2.mono hd1.out.size))
  clear b2
  refine hK.out _ _ hd2.out (fun _ => ?_)
  clear hK K
  refine wpAnyH_ready (rs := [7]) (by kernel_rfl) (by simp) ?_
  refine AllReadyH.cons rfl (fun K hK => ?_) AllReadyH.nil
  go_simp
  refine (hRO.out _ hd2.out).mono ?_
  rintro e w35 ⟨rfl, b3⟩
  have hd3 : Hid (Below w1.heap.size w1 w35) := Lib.hid (hd2.out.trans (b3.mono hd2.out.size))
  clear b3
  refine hK.out _ _ hd3.out (fun _ => ?_)
  clear hK K
  refine tk (i := 8) (d := 19) (v := (.bool false)) rfl rfl (yieldsIf_bin (by rfl) .neq 24 _ _ _ rfl (.agg (u8s D).toArray) (.agg (u8s D).toArray) rfl rfl (.bool false) (fun _ => rfl) (fun W' _ => hneD.out W')) hd3.out ?_
  simp only [List.setIfInBounds_toArray, List.set_cons_zero, List.set_cons_succ]
  refine tk (i := 9) (d := 20) (v := (.bool false)) rfl rfl (Or.inl ⟨by rfl, by intro W' hW; clear hW; go_simp⟩) hd3.out ?_
  simp only [List.setIfInBounds_toArray, List.set_cons_zero, List.set_cons_succ]
  refine tk (i := 10) (d := 21) (v := (.bool false)) rfl rfl (Or.inl ⟨by rfl, by intro W' hW; clear hW; go_simp⟩) hd3.out ?_
  simp only [List.setIfInBounds_toArray, List.set_cons_zero, List.set_cons_succ]
  refine tk (i := 11) (d := 22) (v := (.pointer (some ⟨W.heap.size, 2, none⟩))) rfl rfl (Or.inl ⟨by rfl, by intro W' hW; clear hW; go_simp⟩) hd3.out ?_
  simp only [List.setIfInBounds_toArray, List.set_cons_zero, List.set_cons_succ]
  refine tk (i := 12) (d := 23) (v := (.agg (u8s a).toArray)) rfl rfl (yieldsIf_load_mid (by rfl) 24 _ rfl W.heap.size 2 rfl (u8s a) _ (fun W' hW => (hAB.out.below hW).ca) Tryd.underlying24 rfl (by rw [hla.out]; exact hi32.out)) hd3.out ?_
  simp only [List.setIfInBounds_toArray, List.set_cons_zero, List.set_cons_succ]
  refine tk (i := 14) (d := 25) (v := (.pointer (some ⟨W.heap.size, 2, none⟩))) rfl rfl (Or.inl ⟨by rfl, by intro W' hW; clear hW; go_simp⟩) hd3.out ?_
  simp only [List.setIfInBounds_toArray, List.set_cons_zero, List.set_cons_succ]
  refine tk (i := 15) (d := 26) (v := (.agg (u8s a).toArray)) rfl rfl (yieldsIf_load_mid (by rfl) 24 _ rfl W.heap.size 2 rfl (u8s a) _ (fun W' hW => (hAB.out.below hW).ca) Tryd.underlying24 rfl (by rw [hla.out]; exact hi32.out)) hd3.out ?_
  simp only [List.setIfInBounds_toArray, List.set_cons_zero, List.set_cons_succ]
  refine wpAnyH_ready (rs := [13]) (by kernel_rfl) (by simp) ?_
  refine AllReadyH.cons rfl (fun K hK => ?_) AllReadyH.nil
  go_simp
  refine (hHx.out _ hd3.out).mono ?_
  rintro e w45 ⟨rfl, b4⟩
  have hd4 : Hid (Below w1.heap.size w1 w45) := Lib.hid (hd3.out.trans (b4.mono hd3.out.size))
  clear b4
  refine hK.out _ _ hd4.out (fun _ => ?_)
  clear hK K
  refine wpAnyH_ready (rs := [16]) (by kernel_rfl) (by simp) ?_
  refine AllReadyH.cons rfl (fun K hK => ?_) AllReadyH.nil
  go_simp
  refine (hRH.out _ hd4.out).mono ?_
  rintro e w55 ⟨rfl, b5⟩
  have hd5 : Hid (Below w1.heap.size w1 w55) := Lib.hid (hd4.out.trans (b5.mono hd4.out.size))
  clear b5
  refine hK.out _ _ hd5.out (fun _ => ?_)
  clear hK K
  refine tk (i := 17) (d := 28) (v := (.bool false)) rfl rfl (Or.inl ⟨by rfl, by intro W' hW; clear hW; go_simp⟩) hd5.out ?_
  simp only [List.setIfInBounds_toArray, List.set_cons_zero, List.set_cons_succ]
  refine tk (i := 18) (d := 29) (v := (.bool false)) rfl rfl (Or.inl ⟨by rfl, by intro W' hW; clear hW; go_simp⟩) hd5.out ?_
  simp only [List.setIfInBounds_toArray, List.set_cons_zero, List.set_cons_succ]
  refine tk (i := 19) (d := 30) (v := (.bool false)) rfl rfl (Or.inl ⟨by rfl, by intro W' hW; clear hW; go_simp⟩) hd5.out ?_
  simp only [List.setIfInBounds_toArray, List.set_cons_zero, List.set_cons_succ]
  refine tk (i := 20) (d := 31) (v := (.pointer (some ⟨W.heap.size, 2, none⟩))) rfl rfl (Or.inl ⟨by rfl, by intro W' hW; clear hW; go_simp⟩) hd5.out ?_
  simp only [List.setIfInBounds_toArray, List.set_cons_zero, List.set_cons_succ]
  refine tk (i := 21) (d := 32) (v := (.agg (u8s a).toArray)) rfl rfl (yieldsIf_load_mid (by rfl) 24 _ rfl W.heap.size 2 rfl (u8s a) _ (fun W' hW => (hAB.out.below hW).ca) Tryd.underlying24 rfl (by rw [hla.out]; exact hi32.out)) hd5.out ?_
  simp only [List.setIfInBounds_toArray, List.set_cons_zero, List.set_cons_succ]
  refine tk (i := 22) (d := 33) (v := (.pointer (some ⟨W.heap.size, 34, none⟩))) rfl rfl (Or.inl ⟨by rfl, by intro W' hW; clear hW; go_simp⟩) hd5.out ?_
  simp only [List.setIfInBounds_toArray, List.set_cons_zero, List.set_cons_succ]
  refine tk (i := 23) (d := 34) (v := (.agg (u8s b).toArray)) rfl rfl (yieldsIf_load_mid (by rfl) 24 _ rfl W.heap.size 34 rfl (u8s b) _ (fun W' hW => (hAB.out.below hW).cb) Tryd.underlying24 rfl (by rw [hlb.out]; exact hi32.out)) hd5.out ?_
  simp only [List.setIfInBounds_toArray, List.set_cons_zero, List.set_cons_succ]
  refine tk (i := 25) (d := 36) (v := (.pointer (some ⟨W.heap.size, 2, none⟩))) rfl rfl (Or.inl ⟨by rfl, by intro W' hW; clear hW; go_simp⟩) hd5.out ?_
  simp only [List.setIfInBounds_toArray, List.set_cons_zero, List.set_cons_succ]
  refine tk (i := 26) (d := 37) (v := (.agg (u8s a).toArray)) rfl rfl (yieldsIf_load_mid (by rfl) 24 _ rfl W.heap.size 2 rfl (u8s a) _ (fun W' hW => (hAB.out.below hW).ca) Tryd.underlying24 rfl (by rw [hla.out]; exact hi32.out)) hd5.out ?_
  simp only [List.setIfInBounds_toArray, List.set_cons_zero, List.set_cons_succ]
  refine tk (i := 27) (d := 38) (v := (.pointer (some ⟨W.heap.size, 34, none⟩))) rfl rfl (Or.inl ⟨by rfl, by intro W' hW; clear hW; go_simp⟩) hd5.out ?_
  simp only [List.setIfInBounds_toArray, List.set_cons_zero, List.set_cons_succ]
  refine tk (i := 28) (d := 39) (v := (.agg (u8s b).toArray)) rfl rfl (yieldsIf_load_mid (by rfl) 24 _ rfl W.heap.size 34 rfl (u8s b) _ (fun W' hW => (hAB.out.below hW).cb) Tryd.underlying24 rfl (by rw [hlb.out]; exact hi32.out)) hd5.out ?_
  simp only [List.setIfInBounds_toArray, List.set_cons_zero, List.set_cons_succ]
  refine wpAnyH_ready (rs := [24]) (by kernel_rfl) (by simp) ?_
  refine AllReadyH.cons rfl (fun K hK => ?_) AllReadyH.nil
  go_simp
  refine (hCm.out _ hd5.out).mono ?_
  rintro e w65 ⟨rfl, b6⟩
  have hd6 : Hid (Below w1.heap.size w1 w65) := Lib.hid (hd5.out.trans (b6.mono hd5.out.size))
  clear b6
  refine hK.out _ _ hd6.out (fun _ => ?_)
  clear hK K
  refine wpAnyH_ready (rs := [29]) (by kernel_rfl) (by simp) ?_
  refine AllReadyH.cons rfl (fun K hK => ?_) AllReadyH.nil
  go_simp
  refine (hRC.out _ hd6.out).mono ?_
  rintro e w75 ⟨rfl, b7⟩
  have hd7 : Hid (Below w1.heap.size w1 w75) := Lib.hid (hd6.out.trans (b7.mono hd6.out.size))
  clear b7
  refine hK.out _ _ hd7.out (fun _ => ?_)
  clear hK K
  refine tk (i := 30) (d := 41) (v := (.bool false)) rfl rfl (Or.inl ⟨by rfl, by intro W' hW; clear hW; go_simp⟩) hd7.out ?_
  simp only [List.setIfInBounds_toArray, List.set_cons_zero, List.set_cons_succ]
  refine tk (i := 31) (d := 42) (v := (.bool false)) rfl rfl (Or.inl ⟨by rfl, by intro W' hW; clear hW; go_simp⟩) hd7.out ?_
  simp only [List.setIfInBounds_toArray, List.set_cons_zero, List.set_cons_succ]
  refine tk (i := 32) (d := 43) (v := (.bool false)) rfl rfl (Or.inl ⟨by rfl, by intro W' hW; clear hW; go_simp⟩) hd7.out ?_
  simp only [List.setIfInBounds_toArray, List.set_cons_zero, List.set_cons_succ]
  refine tk (i := 33) (d := 44) (v := (.pointer (some ⟨W.heap.size, 2, none⟩))) rfl rfl (Or.inl ⟨by rfl, by intro W' hW; clear hW; go_simp⟩) hd7.out ?_
  simp only [List.setIfInBounds_toArray, List.set_cons_zero, List.set_cons_succ]
  refine tk (i := 34) (d := 45) (v := (.agg (u8s a).toArray)) rfl rfl (yieldsIf_load_mid (by rfl) 24 _ rfl W.heap.size 2 rfl (u8s a) _ (fun W' hW => (hAB.out.below hW).ca) Tryd.underlying24 rfl (by rw [hla.out]; exact hi32.out)) hd7.out ?_
  simp only [List.setIfInBounds_toArray, List.set_cons_zero, List.set_cons_succ]
  refine tk (i := 35) (d := 46) (v := (.pointer (some ⟨W.heap.size, 2, none⟩))) rfl rfl (Or.inl ⟨by rfl, by intro W' hW; clear hW; go_simp⟩) hd7.out ?_
  simp only [List.setIfInBounds_toArray, List.set_cons_zero, List.set_cons_succ]
  refine tk (i := 36) (d := 47) (v := (.agg (u8s a).toArray)) rfl rfl (yieldsIf_load_mid (by rfl) 24 _ rfl W.heap.size 2 rfl (u8s a) _ (fun W' hW => (hAB.out.below hW).ca) Tryd.underlying24 rfl (by rw [hla.out]; exact hi32.out)) hd7.out ?_
  simp only [List.setIfInBounds_toArray, List.set_cons_zero, List.set_cons_succ]
  refine wpAnyH_ready (rs := [37]) (by kernel_rfl) (by simp) ?_
  refine AllReadyH.cons rfl (fun K hK => ?_) AllReadyH.nil
  go_simp
  refine (hCA.out _ hd7.out).mono ?_
  rintro e w85 ⟨rfl, b8⟩
  have hd8 : Hid (Below w1.heap.size w1 w85) := Lib.hid (hd7.out.trans (b8.mono hd7.out.size))
  clear b8
  refine hK.out _ _ hd8.out (fun _ => ?_)
  clear hK K
  refine tk (i := 38) (d := 49) (v := (.bool false)) rfl rfl (Or.inl ⟨by rfl, by intro W' hW; clear hW; go_simp⟩) hd8.out ?_
  simp only [List.setIfInBounds_toArray, List.set_cons_zero, List.set_cons_succ]
  refine tk (i := 39) (d := 50) (v := (.bool false)) rfl rfl (Or.inl ⟨by rfl, by intro W' hW; clear hW; go_simp⟩) hd8.out ?_
  simp only [List.setIfInBounds_toArray, List.set_cons_zero, List.set_cons_succ]
  refine wpAnyH_done (by kernel_rfl) ?_ _
  have hd2 := Lib.hid hd8.out
  go_wp2_with fail
  refine (hFr.out _ hd2.out).mono ?_
  rintro e w2 ⟨rfl, b2⟩
  have hB2 : Hid (Below w1.heap.size w1 w2) := Lib.hid (hd2.out.trans (b2.mono hd2.out.size))
  have hkn := key_new w2 FR
  have hk3 := Lib.hid hkn.1
  have hB3 : Hid (Below w1.heap.size w1 _) := Lib.hid (hB2.out.trans (hkn.2.mono hB2.out.size))
  have hc3 := (hB3.out.cell (p := ⟨W.heap.size, 0, none⟩) hAB.out.lt).trans hc0.out
  clear b2 hkn hd2
  go_wp2_with (first
    | (refine wpList_store_row rfl 24 _ _ rfl w2.heap.size (u8s FR).toArray rfl rfl 24 _ (heap_alloc_new w2 _) (by rw [hFRs.out]; exact hi32.out) (by rw [hFRs.out, hzs.out]) (one_u8s FR) ?_
       generalize ((w2.alloc (.cells (u8s (zeros 32)).toArray 24)).setRow w2.heap.size (u8s FR).toArray) = w3 at hk3 hB3 hc3 ⊢))
  refine (hRF.out _ hB3.out).mono ?_
  rintro e w4 ⟨rfl, b4⟩
  have hB4 : Hid (Below w1.heap.size w1 w4) := Lib.hid (hB3.out.trans (b4.mono hB3.out.size))
  have hk4 : Hid (BlkY w4 w2.heap.size FR) := Lib.hid (hk3.out.below b4)
  have hl4 : Hid (w2.heap.size < w4.heap.size) := Lib.hid hk4.out.lt
  have hkn := key_new w4 FR
  have hk5 := Lib.hid hkn.1
  have hj5 := Lib.hid (hk4.out.below hkn.2)
  have hB5 : Hid (Below w1.heap.size w1 _) := Lib.hid (hB4.out.trans (hkn.2.mono hB4.out.size))
  have hc5 := (hB5.out.cell (p := ⟨W.heap.size, 0, none⟩) hAB.out.lt).trans hc0.out
  have hLf5 := Lib.hid (hLf.out _ hB5.out)
  have hlo : Hid (w1.heap.size ≤ w2.heap.size) := Lib.hid hB2.out.size
  have hneF' := hneF.out
  clear b4 hkn hk4 hk3 hB4 hB3 hc3 hB2
  go_wp2_with (first
    | (refine wpList_store_row rfl 24 _ _ rfl w4.heap.size (u8s FR).toArray rfl rfl 24 _ (heap_alloc_new w4 _) (by rw [hFRs.out]; exact hi32.out) (by rw [hFRs.out, hzs.out]) (one_u8s FR) ?_
       generalize ((w4.alloc (.cells (u8s (zeros 32)).toArray 24)).setRow w4.heap.size (u8s FR).toArray) = w5 at hk5 hj5 hB5 hc5 hLf5 ⊢
       generalize w2.heap.size = g4 at hj5 hlo hl4 ⊢
       generalize w4.heap.size = g6 at hk5 hl4 ⊢)
    | (refine wpList_load_row rfl 24 _ rfl g4 rfl 24 (u8s FR).toArray (0, 0) _ hj5.out Tryd.underlying24 rfl (by rw [hFRs.out]; exact hi32.out) ?_)
    | (refine wpList_load_row rfl 24 _ rfl g6 rfl 24 (u8s FR).toArray (0, 0) _ hk5.out Tryd.underlying24 rfl (by rw [hFRs.out]; exact hi32.out) ?_)
    | (go_at_call 14; refine hLf5.out.mono ?_; rintro e w6 ⟨rfl, m6, h6⟩
       have hB6 : Hid (Below w1.heap.size w1 w6) := Lib.hid (by rw [h6]; exact below_drewN hB5.out m6)
       have hj6 : Hid (BlkY w6 g4 FR) := Lib.hid (by rw [h6]; exact hj5.out)
       have hk6 : Hid (BlkY w6 g6 FR) := Lib.hid (by rw [h6]; exact hk5.out)
       have ct6 := (hAB.out.below hB6.out).ct
       clear h6 hLf5))
  clear hc5 hB5 hj5 hk5 hneF'
  refine (hPa.out _ hB6.out).mono ?_
  rintro e w7 ⟨rfl, b7⟩
  have hB7 : Hid (Below w1.heap.size w1 w7) := Lib.hid (hB6.out.trans (b7.mono hB6.out.size))
  have hj7 := Lib.hid (hj6.out.below b7)
  have hk7 := Lib.hid (hk6.out.below b7)
  have hj8 : Hid (BlkY (w7.setRow g4 (u8s PR).toArray) g4 PR) := Lib.hid (setRow_heap w7 g4 _ (u8s PR).toArray 24 _ hj7.out)
  have hB8 : Hid (Below w1.heap.size w1 (w7.setRow g4 (u8s PR).toArray)) := Lib.hid (setRow_below hB7.out hlo.out _)
  have hk8 : Hid (BlkY (w7.setRow g4 (u8s PR).toArray) g6 FR) := Lib.hid ((setRow_other w7 g4 g6 _ (by have := hl4.out; omega)).trans hk7.out)
  have ct8 := (hAB.out.below hB8.out).ct
  clear b7 hB6 hj6 hk6 hk7 ct6
  go_wp2_with (first
    | (refine wpList_store_row rfl 24 _ _ rfl g4 (u8s PR).toArray rfl rfl 24 _ hj7.out (by rw [hPRs.out]; exact hi32.out) (by rw [hPRs.out, hFRs.out]) (one_u8s PR) ?_
       generalize (w7.setRow g4 (u8s PR).toArray) = w8 at hj8 hB8 hk8 ct8 ⊢))
  refine (hRP.out _ hB8.out).mono ?_
  rintro e w9 ⟨rfl, b9⟩
  have hB9 : Hid (Below w1.heap.size w1 w9) := Lib.hid (hB8.out.trans (b9.mono hB8.out.size))
  have hj9 := Lib.hid (hj8.out.below b9)
  have hk9 := Lib.hid (hk8.out.below b9)
  have hk10 : Hid (BlkY (w9.setRow g6 (u8s PR).toArray) g6 PR) := Lib.hid (setRow_heap w9 g6 _ (u8s PR).toArray 24 _ hk9.out)
  have hB10 : Hid (Below w1.heap.size w1 (w9.setRow g6 (u8s PR).toArray)) := Lib.hid (setRow_below hB9.out (by have := hl4.out; have := hlo.out; omega) _)
  have hj10 : Hid (BlkY (w9.setRow g6 (u8s PR).toArray) g4 PR) := Lib.hid ((setRow_other w9 g6 g4 _ (by have := hl4.out; omega)).trans hj9.out)
  have heP' := heP.out
  clear b9 hB8 hj8 hk8 ct8 hj7
  go_wp2_with (first
    | (refine wpList_store_row rfl 24 _ _ rfl g6 (u8s PR).toArray rfl rfl 24 _ hk9.out (by rw [hPRs.out]; exact hi32.out) (by rw [hPRs.out, hFRs.out]) (one_u8s PR) ?_
       generalize (w9.setRow g6 (u8s PR).toArray) = w10 at hj10 hB10 hk10 ⊢)
    | (refine wpList_load_row rfl 24 _ rfl g4 rfl 24 (u8s PR).toArray (0, 0) _ hj10.out Tryd.underlying24 rfl (by rw [hPRs.out]; exact hi32.out) ?_)
    | (refine wpList_load_row rfl 24 _ rfl g6 rfl 24 (u8s PR).toArray (0, 0) _ hk10.out Tryd.underlying24 rfl (by rw [hPRs.out]; exact hi32.out) ?_))
  go_ret
  exact ⟨rfl, hB1.out.trans (hB10.out.mono hB1.out.size)⟩
end Go.Proofs.YtlolnpilpdkbkaaDoor

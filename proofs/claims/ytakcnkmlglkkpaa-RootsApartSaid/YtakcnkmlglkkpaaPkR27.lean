/- Turns as text. (Printed by tools/gentt.py.) -/
import Derived.Test.YtakcnkmlglkkpaaPkR26

namespace Go.Proofs.Ytakcnkmlglkkpaa
open Go.RowKit
set_option linter.unusedSimpArgs false
set_option linter.unusedVariables false

def bitS (b : Bool) : ByteArray := if b = true then ⟨#[43]⟩ else ⟨#[45]⟩
theorem bitS_size (b : Bool) : (bitS b).size = 1 := by cases b <;> rfl
/-- A turn as text, behind what stands already. -/
def turnS (s : ByteArray) (t : TurnT) : ByteArray := s ++ bitS t.had ++ bitS t.has ++ rootS (t.name, t.old) ++ strB t.new.1
def turnsS (l : List TurnT) : ByteArray := l.foldl turnS ⟨#[]⟩
def totT (l : List TurnT) : Nat := (l.map fun t => t.name.size + 67).sum
theorem turnS_size (s : ByteArray) (t : TurnT) : (turnS s t).size = s.size + (t.name.size + 67) := by
  unfold turnS
  simp only [ByteArray.size_append, bitS_size, rootS_size, strB_size, t.new.2]
  omega
theorem turnsS_size : ∀ l : List TurnT, (turnsS l).size = totT l := fun l => by
  have h : ∀ (l : List TurnT) (s : ByteArray), (l.foldl turnS s).size = s.size + totT l := by
    intro l
    induction l with
    | nil => intro s; simp [totT]
    | cons x l ih =>
      intro s
      rw [List.foldl_cons, ih, turnS_size]
      simp [totT]
      omega
  have := h l ⟨#[]⟩
  rw [show (⟨#[]⟩ : ByteArray).size = 0 from rfl, Nat.zero_add] at this
  exact this
theorem totT_app (a b : List TurnT) : totT (a ++ b) = totT a + totT b := by simp [totT]
theorem totT_take (l : List TurnT) (k : Nat) : totT (l.take k) ≤ totT l := by
  have := totT_app (l.take k) (l.drop k)
  rw [List.take_append_drop] at this
  omega
theorem takeT_one {l : List TurnT} {k : Nat} {x : TurnT} (hx : l[k]? = some x) : l.take (k + 1) = l.take k ++ [x] := by
  rw [List.take_add_one, hx]
  rfl
abbrev RowT (w : World) (B : Nat) (A : Option Addr) (l : List TurnT) : Prop := Row encT 67 w B A l
theorem RowT.range {w : World} {B : Nat} {A : Option Addr} {l : List TurnT} (h : RowT w B A l) {j : Nat} {x : TurnT} (hj : l[j]? = some x) : ∃ b off, A = some ⟨b, off, none⟩ ∧ b < B ∧ w.rangeAt b (off + j * 67) (encT x) := by
  obtain ⟨hl, rfl⟩ := List.getElem?_eq_some_iff.1 hj
  obtain ⟨b, off, e, hb, hc⟩ := Row.elem h encT_length (by decide) hl
  exact ⟨b, off, e, hb, fun i v hv => hc i v hv⟩
theorem RowT.of_own {w : World} {B c : Nat} {A : Option Addr} {l : List TurnT} (h : Own w B 55 67 A l.length c (rowsT l)) : RowT w w.heap.size A l := h.rd
set_option maxRecDepth 100000 in
set_option maxHeartbeats 8000000 in
theorem turns_txt (w : World) (l : List TurnT) (A : Option Addr) (n c : Nat) (hl : l.length = n) (hn : n ≤ 4611686018427387904) (hR : RowT w w.heap.size A l) (ht : totT l ≤ 4611686018427387904) :
    Calls Try.prog 34 #[.slice A n c] w fun e w' => e = .returned (.string (turnsS l)) ∧ Below w.heap.size w w' := by
  have l32 : Hid (∀ k : RKey, (encKy k).length = 32) := Lib.hid encKy_length
  have hi32 : Hid ((Try.prog.info? 35).map (·.size) = some 32) := Lib.hid (by kernel_rfl)
  have hR' := Lib.hid hR
  have hl' := Lib.hid hl
  have ht' := Lib.hid ht
  clear hR hl ht
  go_enter Try.func34, Try.ntmps34
  go_wp2_with fail
  go_loopw [3, 4] (fun sv i wr => ∃ (k : Nat) (S : ByteArray), k ≤ n ∧ i = .int .i64 k ∧ sv = .string S ∧ Hid (S = turnsS (l.take k)) ∧ Hid (Below w.heap.size w wr)) (fun _ i _ => n - (intOf i).toNat)
  case atStart => exact ⟨0, ⟨#[]⟩, by omega, rfl, rfl, Lib.hid (by simp [turnsS]), Lib.hid (Below.refl _ _)⟩
  case round =>
    obtain ⟨k, S, hk, rfl, rfl, hS, hb⟩ := hrel
    by_cases hlt : k < n
    · obtain ⟨t, hx⟩ : ∃ x, l[k]? = some x := ⟨_, List.getElem?_eq_getElem (by have := hl'.out; omega)⟩
      obtain ⟨b, off, hA, hbb, hrg⟩ := RowT.range hR'.out hx
      subst hA
      have hr0 : ∀ W, Below w.heap.size w W → W.rangeAt b (off + k * 67) (encT t) := fun W hW => by
        obtain ⟨b2, o2, e2, _, hr⟩ := RowT.range (Rd.below hR'.out hW) hx
        cases e2
        exact hr
      have F0 : Hid (∀ W, Below w.heap.size w W → W.cell? ⟨b, off + k * 67, none⟩ = some (.string t.name)) := Lib.hid fun W hW => by simpa using hr0 W hW 0 _ (show (encT t)[0]? = some (.string t.name) from rfl)
      have F1 : Hid (∀ W, Below w.heap.size w W → W.cell? ⟨b, off + k * 67 + 1, none⟩ = some (.bool t.had)) := Lib.hid fun W hW => hr0 W hW 1 _ rfl
      have F2 : Hid (∀ W, Below w.heap.size w W → W.cell? ⟨b, off + k * 67 + 2, none⟩ = some (.bool t.has)) := Lib.hid fun W hW => hr0 W hW 2 _ rfl
      have F3 : Hid (∀ W, Below w.heap.size w W → W.rangeAt b (off + k * 67 + 3) (encKy t.old)) := Lib.hid fun W hW j v hj => by
        have hjl := (List.getElem?_eq_some_iff.1 hj).1
        have := hr0 W hW (3 + j) v (by
          unfold encT
          rw [List.append_assoc, List.getElem?_append_right (by simp), List.getElem?_append_left (by simp; exact hjl)]
          simpa using hj)
        rw [← Nat.add_assoc] at this
        exact this
      obtain ⟨N4, hN4⟩ : ∃ N, Hid (∀ _ : Unit, strB t.new.1 = N) := ⟨_, Lib.hid fun _ => rfl⟩
      have F4 : Hid (∀ W, Below w.heap.size w W → (convert 93 9 (.slice (some ⟨b, off + k * 67 + 35, none⟩) 32 32)).run Try.prog W = .ok (.string N4) W) := Lib.hid fun W hW => by
        rw [← hN4.out ()]
        refine conv_any W t.new.1 _ 32 (b + 1) 32 t.new.2 fun _ => ⟨b, off + k * 67 + 35, rfl, by omega, fun j hj => ?_⟩
        have := hr0 W hW (35 + j) (.int .u8 ((t.new.1[j]?.getD 0 : Nat) : Int)) (by
          unfold encT
          rw [List.getElem?_append_right (by simp [encKy_length])]
          rw [show 35 + j - ([Value.string t.name, .bool t.had, .bool t.has] ++ encKy t.old).length = j by simp only [List.length_append, encKy_length, List.length_cons, List.length_nil]; omega]
          simp [encKy, u8s, List.getElem?_eq_getElem hj])
        rw [← Nat.add_assoc] at this
        exact this
      have hb1 : Hid (∀ W, Calls Try.prog 52 #[.bool t.had] W fun e w' => e = .returned (.string (bitS t.had)) ∧ W = w') := Lib.hid fun W => bit_any W t.had
      have hb2 : Hid (∀ W, Calls Try.prog 52 #[.bool t.has] W fun e w' => e = .returned (.string (bitS t.has)) ∧ W = w') := Lib.hid fun W => bit_any W t.has
      have hsum : S.size + (t.name.size + 67) ≤ 4611686018427387904 := by
        have h1 := totT_take l (k + 1)
        rw [takeT_one hx, totT_app] at h1
        have h2 := ht'.out
        have h3 : totT [t] = t.name.size + 67 := by simp [totT]
        rw [hS.out, turnsS_size]
        omega
      have hrt : Hid (∀ W, Calls Try.prog 27 #[.agg (encR (t.name, t.old)).toArray] W fun e w' => e = .returned (.string (rootS (t.name, t.old))) ∧ Below W.heap.size W w') := Lib.hid fun W => root_any W (t.name, t.old) (by simp only; omega)
      have hnx : Hid (turnsS (l.take (k + 1)) = turnS S t) := Lib.hid (by rw [takeT_one hx, hS.out]; simp [turnsS])
      obtain ⟨T1, hT1⟩ : ∃ T, Hid (∀ _ : Unit, bitS t.had = T) := ⟨_, Lib.hid fun _ => rfl⟩
      obtain ⟨T2, hT2⟩ : ∃ T, Hid (∀ _ : Unit, bitS t.has = T) := ⟨_, Lib.hid fun _ => rfl⟩
      obtain ⟨T3, hT3⟩ : ∃ T, Hid (∀ _ : Unit, rootS (t.name, t.old) = T) := ⟨_, Lib.hid fun _ => rfl⟩
      have y1 : T1.size = 1 := by rw [← hT1.out ()]; exact bitS_size _
      have y2 : T2.size = 1 := by rw [← hT2.out ()]; exact bitS_size _
      have y3 : T3.size = t.name.size + 33 := by rw [← hT3.out ()]; exact rootS_size _
      have y4 : N4.size = 32 := by rw [← hN4.out (), strB_size, t.new.2]
      rw [hT1.out ()] at hb1
      rw [hT2.out ()] at hb2
      rw [hT3.out ()] at hrt
      obtain ⟨P1, hP1⟩ : ∃ P, S ++ T1 = P := ⟨_, rfl⟩
      obtain ⟨P2, hP2⟩ : ∃ P, P1 ++ T2 = P := ⟨_, rfl⟩
      obtain ⟨P3, hP3⟩ : ∃ P, P2 ++ T3 = P := ⟨_, rfl⟩
      obtain ⟨P4, hP4⟩ : ∃ P, P3 ++ N4 = P := ⟨_, rfl⟩
      have u1 : P1.size = S.size + 1 := by rw [← hP1, ByteArray.size_append, y1]
      have u2 : P2.size = S.size + 2 := by rw [← hP2, ByteArray.size_append, y2, u1]
      have u3 : P3.size = S.size + 2 + (t.name.size + 33) := by rw [← hP3, ByteArray.size_append, y3, u2]
      have z1 : ¬ 9223372036854775807 < S.size + T1.size := by omega
      have z2 : ¬ 9223372036854775807 < P1.size + T2.size := by omega
      have z3 : ¬ 9223372036854775807 < P2.size + T3.size := by omega
      have z4 : ¬ 9223372036854775807 < P3.size + N4.size := by omega
      have hP : Hid (P4 = turnsS (l.take (k + 1))) := Lib.hid (by
        rw [hnx.out, ← hP4, ← hP3, ← hP2, ← hP1, ← hT1.out (), ← hT2.out (), ← hT3.out (), ← hN4.out ()]
        rfl)
      have b1 : (0 : Int) ≤ (k : Int) := by omega
      have b2 : (k : Int) < (n : Int) := by omega
      clear hr0 hrg hx hsum y1 y2 y3 y4 u1 u2 u3 hT1 hT2 hT3 hN4 hnx hbb
      go_wp2_with fail
      refine wp_region_held (S := fun W => Below w.heap.size w W) (by kernel_rfl) ?_
      change wpAnyH _ _ _ _ _ _ _ _ (World.drew _)
      have hd : Hid (Below w.heap.size w (World.drew _)) := Lib.hid (below_drewN hb.out 1)
      refine takeD (i := 0) (d := 11) (v := .string S) rfl rfl (by kernel_rfl) (by kernel_rfl) (by kernel_rfl) (fun _ _ _ h => h) (Or.inl ⟨by rfl, by intro W hW; clear hW; go_simp⟩) hd.out ?_
      simp only [List.setIfInBounds_toArray, List.set_cons_zero, List.set_cons_succ]
      refine takeD (i := 1) (d := 12) (v := .slice (some ⟨b, off, none⟩) n c) rfl rfl (by kernel_rfl) (by kernel_rfl) (by kernel_rfl) (fun _ _ _ h => h) (Or.inl ⟨by rfl, by intro W hW; clear hW; go_simp⟩) hd.out ?_
      simp only [List.setIfInBounds_toArray, List.set_cons_zero, List.set_cons_succ]
      refine takeD (i := 2) (d := 13) (v := .int .i64 (k : Int)) rfl rfl (by kernel_rfl) (by kernel_rfl) (by kernel_rfl) (fun _ _ _ h => h) (Or.inl ⟨by rfl, by intro W hW; clear hW; go_simp⟩) hd.out ?_
      simp only [List.setIfInBounds_toArray, List.set_cons_zero, List.set_cons_succ]
      refine takeD (i := 3) (d := 14) (v := .pointer (some ⟨b, off + k * 67, none⟩)) rfl rfl (by kernel_rfl) (by kernel_rfl) (by kernel_rfl) (fun _ _ _ h => h) (Or.inl ⟨by rfl, by intro W hW; clear hW; go_simp⟩) hd.out ?_
      simp only [List.setIfInBounds_toArray, List.set_cons_zero, List.set_cons_succ]
      refine takeD (i := 4) (d := 15) (v := .pointer (some ⟨b, off + k * 67 + 1, none⟩)) rfl rfl (by kernel_rfl) (by kernel_rfl) (by kernel_rfl) (fun _ _ _ h => h) (Or.inl ⟨by rfl, by intro W hW; clear hW; go_simp⟩) hd.out ?_
      simp only [List.setIfInBounds_toArray, List.set_cons_zero, List.set_cons_succ]
      refine takeD (i := 5) (d := 16) (v := .bool t.had) rfl rfl (by kernel_rfl) (by kernel_rfl) (by kernel_rfl) (fun _ _ _ h => h) (Or.inl ⟨by rfl, by intro W hW; have cc := F1.out W hW; clear hW; go_simp⟩) hd.out ?_
      simp only [List.setIfInBounds_toArray, List.set_cons_zero, List.set_cons_succ]
      refine takeD (i := 8) (d := 19) (v := .slice (some ⟨b, off, none⟩) n c) rfl rfl (by kernel_rfl) (by kernel_rfl) (by kernel_rfl) (fun _ _ _ h => h) (Or.inl ⟨by rfl, by intro W hW; clear hW; go_simp⟩) hd.out ?_
      simp only [List.setIfInBounds_toArray, List.set_cons_zero, List.set_cons_succ]
      refine takeD (i := 9) (d := 20) (v := .int .i64 (k : Int)) rfl rfl (by kernel_rfl) (by kernel_rfl) (by kernel_rfl) (fun _ _ _ h => h) (Or.inl ⟨by rfl, by intro W hW; clear hW; go_simp⟩) hd.out ?_
      simp only [List.setIfInBounds_toArray, List.set_cons_zero, List.set_cons_succ]
      refine takeD (i := 10) (d := 21) (v := .pointer (some ⟨b, off + k * 67, none⟩)) rfl rfl (by kernel_rfl) (by kernel_rfl) (by kernel_rfl) (fun _ _ _ h => h) (Or.inl ⟨by rfl, by intro W hW; clear hW; go_simp⟩) hd.out ?_
      simp only [List.setIfInBounds_toArray, List.set_cons_zero, List.set_cons_succ]
      refine takeD (i := 11) (d := 22) (v := .pointer (some ⟨b, off + k * 67 + 2, none⟩)) rfl rfl (by kernel_rfl) (by kernel_rfl) (by kernel_rfl) (fun _ _ _ h => h) (Or.inl ⟨by rfl, by intro W hW; clear hW; go_simp⟩) hd.out ?_
      simp only [List.setIfInBounds_toArray, List.set_cons_zero, List.set_cons_succ]
      refine takeD (i := 12) (d := 23) (v := .bool t.has) rfl rfl (by kernel_rfl) (by kernel_rfl) (by kernel_rfl) (fun _ _ _ h => h) (Or.inl ⟨by rfl, by intro W hW; have cc := F2.out W hW; clear hW; go_simp⟩) hd.out ?_
      simp only [List.setIfInBounds_toArray, List.set_cons_zero, List.set_cons_succ]
      refine takeD (i := 15) (d := 26) (v := .slice (some ⟨b, off, none⟩) n c) rfl rfl (by kernel_rfl) (by kernel_rfl) (by kernel_rfl) (fun _ _ _ h => h) (Or.inl ⟨by rfl, by intro W hW; clear hW; go_simp⟩) hd.out ?_
      simp only [List.setIfInBounds_toArray, List.set_cons_zero, List.set_cons_succ]
      refine takeD (i := 16) (d := 27) (v := .int .i64 (k : Int)) rfl rfl (by kernel_rfl) (by kernel_rfl) (by kernel_rfl) (fun _ _ _ h => h) (Or.inl ⟨by rfl, by intro W hW; clear hW; go_simp⟩) hd.out ?_
      simp only [List.setIfInBounds_toArray, List.set_cons_zero, List.set_cons_succ]
      refine takeD (i := 17) (d := 28) (v := .pointer (some ⟨b, off + k * 67, none⟩)) rfl rfl (by kernel_rfl) (by kernel_rfl) (by kernel_rfl) (fun _ _ _ h => h) (Or.inl ⟨by rfl, by intro W hW; clear hW; go_simp⟩) hd.out ?_
      simp only [List.setIfInBounds_toArray, List.set_cons_zero, List.set_cons_succ]
      refine takeD (i := 18) (d := 29) (v := .pointer (some ⟨b, off + k * 67, none⟩)) rfl rfl (by kernel_rfl) (by kernel_rfl) (by kernel_rfl) (fun _ _ _ h => h) (Or.inl ⟨by rfl, by intro W hW; clear hW; go_simp⟩) hd.out ?_
      simp only [List.setIfInBounds_toArray, List.set_cons_zero, List.set_cons_succ]
      refine takeD (i := 19) (d := 30) (v := .string t.name) rfl rfl (by kernel_rfl) (by kernel_rfl) (by kernel_rfl) (fun _ _ _ h => h) (Or.inl ⟨by rfl, by intro W hW; have cc := F0.out W hW; clear hW; go_simp⟩) hd.out ?_
      simp only [List.setIfInBounds_toArray, List.set_cons_zero, List.set_cons_succ]
      refine takeD (i := 20) (d := 31) (v := .slice (some ⟨b, off, none⟩) n c) rfl rfl (by kernel_rfl) (by kernel_rfl) (by kernel_rfl) (fun _ _ _ h => h) (Or.inl ⟨by rfl, by intro W hW; clear hW; go_simp⟩) hd.out ?_
      simp only [List.setIfInBounds_toArray, List.set_cons_zero, List.set_cons_succ]
      refine takeD (i := 21) (d := 32) (v := .int .i64 (k : Int)) rfl rfl (by kernel_rfl) (by kernel_rfl) (by kernel_rfl) (fun _ _ _ h => h) (Or.inl ⟨by rfl, by intro W hW; clear hW; go_simp⟩) hd.out ?_
      simp only [List.setIfInBounds_toArray, List.set_cons_zero, List.set_cons_succ]
      refine takeD (i := 22) (d := 33) (v := .pointer (some ⟨b, off + k * 67, none⟩)) rfl rfl (by kernel_rfl) (by kernel_rfl) (by kernel_rfl) (fun _ _ _ h => h) (Or.inl ⟨by rfl, by intro W hW; clear hW; go_simp⟩) hd.out ?_
      simp only [List.setIfInBounds_toArray, List.set_cons_zero, List.set_cons_succ]
      refine takeD (i := 23) (d := 34) (v := .pointer (some ⟨b, off + k * 67 + 3, none⟩)) rfl rfl (by kernel_rfl) (by kernel_rfl) (by kernel_rfl) (fun _ _ _ h => h) (Or.inl ⟨by rfl, by intro W hW; clear hW; go_simp⟩) hd.out ?_
      simp only [List.setIfInBounds_toArray, List.set_cons_zero, List.set_cons_succ]
      refine takeD (i := 24) (d := 35) rfl rfl (by kernel_rfl) (by kernel_rfl) (by kernel_rfl) (fun _ _ _ h => h) (yieldsIf_load_mid (by rfl) 35 _ rfl b (off + k * 67 + 3) rfl (encKy t.old) _ F3.out Try.underlying35 rfl (by rw [l32.out]; exact hi32.out)) hd.out ?_
      simp only [List.setIfInBounds_toArray, List.set_cons_zero, List.set_cons_succ]
      refine takeD (i := 25) (d := 36) rfl rfl (by kernel_rfl) (by kernel_rfl) (by kernel_rfl) (fun _ _ _ h => h) (yieldsIf_build (by rfl) 61 _ rfl #[(0, .string t.name), (1, .agg (encKy t.old).toArray)] (by rw [List.map_toArray]; rfl) _ (fun W _ => buildRt t.name t.old W)) hd.out ?_
      simp only [List.setIfInBounds_toArray, List.set_cons_zero, List.set_cons_succ]
      refine takeD (i := 28) (d := 39) (v := .slice (some ⟨b, off, none⟩) n c) rfl rfl (by kernel_rfl) (by kernel_rfl) (by kernel_rfl) (fun _ _ _ h => h) (Or.inl ⟨by rfl, by intro W hW; clear hW; go_simp⟩) hd.out ?_
      simp only [List.setIfInBounds_toArray, List.set_cons_zero, List.set_cons_succ]
      refine takeD (i := 29) (d := 40) (v := .int .i64 (k : Int)) rfl rfl (by kernel_rfl) (by kernel_rfl) (by kernel_rfl) (fun _ _ _ h => h) (Or.inl ⟨by rfl, by intro W hW; clear hW; go_simp⟩) hd.out ?_
      simp only [List.setIfInBounds_toArray, List.set_cons_zero, List.set_cons_succ]
      refine takeD (i := 30) (d := 41) (v := .pointer (some ⟨b, off + k * 67, none⟩)) rfl rfl (by kernel_rfl) (by kernel_rfl) (by kernel_rfl) (fun _ _ _ h => h) (Or.inl ⟨by rfl, by intro W hW; clear hW; go_simp⟩) hd.out ?_
      simp only [List.setIfInBounds_toArray, List.set_cons_zero, List.set_cons_succ]
      refine takeD (i := 31) (d := 42) (v := .pointer (some ⟨b, off + k * 67 + 35, none⟩)) rfl rfl (by kernel_rfl) (by kernel_rfl) (by kernel_rfl) (fun _ _ _ h => h) (Or.inl ⟨by rfl, by intro W hW; clear hW; go_simp⟩) hd.out ?_
      simp only [List.setIfInBounds_toArray, List.set_cons_zero, List.set_cons_succ]
      refine takeD (i := 32) (d := 43) (v := .slice (some ⟨b, off + k * 67 + 35, none⟩) 32 32) rfl rfl (by kernel_rfl) (by kernel_rfl) (by kernel_rfl) (fun _ _ _ h => h) (Or.inl ⟨by rfl, by intro W hW; clear hW; go_simp⟩) hd.out ?_
      simp only [List.setIfInBounds_toArray, List.set_cons_zero, List.set_cons_succ]
      refine takeD (i := 33) (d := 44) (v := .string N4) rfl rfl (by kernel_rfl) (by kernel_rfl) (by kernel_rfl) (fun _ _ _ h => h) (Or.inl ⟨by rfl, by intro W hW; have cc := F4.out W hW; clear hW; go_simp⟩) hd.out ?_
      simp only [List.setIfInBounds_toArray, List.set_cons_zero, List.set_cons_succ]
      refine wpAnyH_ready (rs := [6]) (by kernel_rfl) (by simp) ?_
      refine AllReadyH.cons rfl (fun K hK => ?_) AllReadyH.nil
      go_simp
      go_wp2_with (go_at_call 52; refine (hb1.out _).mono ?_; rintro e w9 ⟨rfl, rfl⟩; skip)
      refine hK.out _ _ hd.out (fun _ => ?_)
      clear hK K
      refine takeD (i := 7) (d := 18) (v := .string P1) rfl rfl (by kernel_rfl) (by kernel_rfl) (by kernel_rfl) (fun _ _ _ h => h) (Or.inl ⟨by rfl, by intro W hW; clear hW; go_simp⟩) hd.out ?_
      simp only [List.setIfInBounds_toArray, List.set_cons_zero, List.set_cons_succ]
      refine wpAnyH_ready (rs := [13]) (by kernel_rfl) (by simp) ?_
      refine AllReadyH.cons rfl (fun K hK => ?_) AllReadyH.nil
      go_simp
      go_wp2_with (go_at_call 52; refine (hb2.out _).mono ?_; rintro e w9 ⟨rfl, rfl⟩; skip)
      refine hK.out _ _ hd.out (fun _ => ?_)
      clear hK K
      refine takeD (i := 14) (d := 25) (v := .string P2) rfl rfl (by kernel_rfl) (by kernel_rfl) (by kernel_rfl) (fun _ _ _ h => h) (Or.inl ⟨by rfl, by intro W hW; clear hW; go_simp⟩) hd.out ?_
      simp only [List.setIfInBounds_toArray, List.set_cons_zero, List.set_cons_succ]
      refine wpAnyH_ready (rs := [26]) (by kernel_rfl) (by simp) ?_
      refine AllReadyH.cons rfl (fun K hK => ?_) AllReadyH.nil
      go_simp
      go_wp2_with (go_at_call 27; refine (hrt.out _).mono ?_; rintro e w4 ⟨rfl, b4⟩; skip)
      have hd4 : Hid (Below w.heap.size w w4) := Lib.hid (hd.out.trans (b4.mono hd.out.size))
      clear b4
      refine hK.out _ _ hd4.out (fun _ => ?_)
      clear hK K
      refine takeD (i := 27) (d := 38) (v := .string P3) rfl rfl (by kernel_rfl) (by kernel_rfl) (by kernel_rfl) (fun _ _ _ h => h) (Or.inl ⟨by rfl, by intro W hW; clear hW; go_simp⟩) hd4.out ?_
      simp only [List.setIfInBounds_toArray, List.set_cons_zero, List.set_cons_succ]
      refine takeD (i := 34) (d := 45) (v := .string P4) rfl rfl (by kernel_rfl) (by kernel_rfl) (by kernel_rfl) (fun _ _ _ h => h) (Or.inl ⟨by rfl, by intro W hW; clear hW; go_simp⟩) hd4.out ?_
      simp only [List.setIfInBounds_toArray, List.set_cons_zero, List.set_cons_succ]
      refine wpAnyH_ready (rs := [35]) (by kernel_rfl) (by simp) ?_
      refine AllReadyH.cons rfl (fun K hK => ?_) AllReadyH.nil
      go_simp
      refine hK.out _ _ hd4.out (fun _ => ?_)
      clear hK K
      refine wpAnyH_done (by kernel_rfl) ?_ _
      go_wp2_with fail
      go_roundw
      case rel => exact ⟨k + 1, P4, by omega, by go_num, rfl, hP, hd4⟩
      case measure => simp [intOf]; omega
    · obtain rfl : k = n := by omega
      have hfull : l.take k = l := List.take_of_length_le (by rw [hl'.out]; exact Nat.le_refl _)
      rw [hfull] at hS
      go_wp2_with fail
      go_ret
      exact ⟨by rw [hS.out]; rfl, hb.out⟩
end Go.Proofs.Ytakcnkmlglkkpaa

/- laid, walked. (Printed by tools/gentlaid.py.) -/
import Derived.Test.YtakcnkmlglkkpaaPkV1

namespace Go.Proofs.Ytakcnkmlglkkpaa
open Go.RowKit
set_option linter.unusedSimpArgs false
set_option linter.unusedVariables false
open Classical

theorem merge_all {Q : ByteArray → Prop} : ∀ (n : Nat) (a b : List RootT), a.length + b.length ≤ n → (∀ r ∈ a, Q r.1) → (∀ r ∈ b, Q r.1) → ∀ t ∈ mergeQ a b, Q t.name
  | _, [], [], _, _, _, t, ht => by rw [mergeQ_nn] at ht; cases ht
  | 0, _ :: _, _, h, _, _, _, _ => by simp at h
  | 0, [], _ :: _, h, _, _, _, _ => by simp at h
  | n + 1, x :: a, [], h, ha, hb, t, ht => by
    rw [mergeQ_xn] at ht
    rcases List.mem_cons.1 ht with rfl | ht
    · exact ha x (by simp)
    · exact merge_all n a [] (by simp at h ⊢; omega) (fun r hr => ha r (by simp [hr])) hb t ht
  | n + 1, [], y :: b, h, ha, hb, t, ht => by
    rw [mergeQ_ny] at ht
    rcases List.mem_cons.1 ht with rfl | ht
    · exact hb y (by simp)
    · exact merge_all n [] b (by simp at h ⊢; omega) ha (fun r hr => hb r (by simp [hr])) t ht
  | n + 1, x :: a, y :: b, h, ha, hb, t, ht => by
    rw [mergeQ_xy] at ht
    simp only [List.length_cons] at h
    split at ht
    · rcases List.mem_cons.1 ht with rfl | ht
      · exact ha x (by simp)
      · exact merge_all n a (y :: b) (by simp; omega) (fun r hr => ha r (by simp [hr])) hb t ht
    · split at ht
      · rcases List.mem_cons.1 ht with rfl | ht
        · exact hb y (by simp)
        · exact merge_all n (x :: a) b (by simp; omega) ha (fun r hr => hb r (by simp [hr])) t ht
      · split at ht
        · exact merge_all n a b (by omega) (fun r hr => ha r (by simp [hr])) (fun r hr => hb r (by simp [hr])) t ht
        · rcases List.mem_cons.1 ht with rfl | ht
          · exact ha x (by simp)
          · exact merge_all n a b (by omega) (fun r hr => ha r (by simp [hr])) (fun r hr => hb r (by simp [hr])) t ht
theorem bytes_ext {a b : ByteArray} (h : a.toList = b.toList) : a = b := by
  have := bytes_eq a b
  simp only [h, beq_self_eq_true] at this
  exact of_decide_eq_true this.symm
/-- The first thing that a merge does. -/
theorem merge_cases (a b : List RootT) (ha : Rise a) (hb : Rise b) :
    (a = [] ∧ b = []) ∨
    (∃ x a2 b2, a = x :: a2 ∧ b = x :: b2 ∧ mergeQ a b = mergeQ a2 b2 ∧ ∀ t ∈ mergeQ a2 b2, ltS x.1 t.name = true) ∨
    (∃ x a2, a = x :: a2 ∧ mergeQ a b = tOff x :: mergeQ a2 b) ∨
    (∃ y b2, b = y :: b2 ∧ mergeQ a b = tOn y :: mergeQ a b2 ∧ (a = [] ∨ ∃ x a2, a = x :: a2 ∧ ltS y.1 x.1 = true)) ∨
    (∃ x y a2 b2, a = x :: a2 ∧ b = y :: b2 ∧ x.1 = y.1 ∧ x.2 ≠ y.2 ∧ mergeQ a b = tBoth x y :: mergeQ a2 b2) := by
  cases a with
  | nil =>
    cases b with
    | nil => exact .inl ⟨rfl, rfl⟩
    | cons y b2 => exact .inr (.inr (.inr (.inl ⟨y, b2, rfl, mergeQ_ny y b2, .inl rfl⟩)))
  | cons x a2 =>
    cases b with
    | nil => exact .inr (.inr (.inl ⟨x, a2, rfl, mergeQ_xn x a2⟩))
    | cons y b2 =>
      have h := mergeQ_xy x y a2 b2
      by_cases h1 : ltS x.1 y.1 = true
      · rw [if_pos h1] at h
        exact .inr (.inr (.inl ⟨x, a2, rfl, h⟩))
      · rw [if_neg h1] at h
        by_cases h2 : ltS y.1 x.1 = true
        · rw [if_pos h2] at h
          exact .inr (.inr (.inr (.inl ⟨y, b2, rfl, h, .inr ⟨x, a2, rfl, h2⟩⟩)))
        · rw [if_neg h2] at h
          have hn : x.1 = y.1 := bytes_ext (ltS_three (by simpa using h1) (by simpa using h2))
          by_cases h3 : x.2 = y.2
          · rw [if_pos h3] at h
            have hxy : x = y := Prod.ext hn h3
            subst hxy
            exact .inr (.inl ⟨x, a2, b2, rfl, rfl, h, merge_all (Q := fun s => ltS x.1 s = true) (a2.length + b2.length) a2 b2 (Nat.le_refl _) ha.1 hb.1⟩)
          · rw [if_neg h3] at h
            exact .inr (.inr (.inr (.inr ⟨x, y, a2, b2, rfl, rfl, hn, h3, h⟩)))
theorem rise_drop {l : List RootT} (h : Rise l) (k : Nat) : Rise (l.drop k) := by
  rw [← List.take_append_drop k l] at h
  exact ((rise_app _ _).1 h).2.1
theorem drop_cons {α : Type} {l : List α} {k : Nat} {x : α} {r : List α} (h : l.drop k = x :: r) : l[k]? = some x ∧ l.drop (k + 1) = r ∧ k < l.length := by
  have h1 : l[k]? = some x := by
    have := congrArg (·[0]?) h
    simpa using this
  refine ⟨h1, ?_, (List.getElem?_eq_some_iff.1 h1).1⟩
  have := congrArg (List.drop 1) h
  simpa [List.drop_drop] using this
set_option maxRecDepth 100000 in
set_option maxHeartbeats 16000000 in
theorem laid_any (w : World) (a b : List RootT) (ha : okL a) (hb : okL b) (h64a : a.length ≤ 64) (h64b : b.length ≤ 64) (d : List TurnT) (hd0 : mergeQ a b = d) (A1 A2 : Option Addr) (n1 c1 n2 c2 : Nat) (hn1 : a.length = n1) (hn2 : d.length = n2) (hRa : RowR w w.heap.size A1 a) (hRd : RowT w w.heap.size A2 d) :
    Calls Try.prog 23 #[.slice A1 n1 c1, .slice A2 n2 c2] w fun e w' => e = .returned (.tuple #[.string (listS b), .bool true]) ∧ Below w.heap.size w w' := by
  have hzt := zeroTn
  have l33 : Hid (∀ r : RootT, (encR r).length = 33) := Lib.hid encR_length
  have hi33 : Hid ((Try.prog.info? 61).map (·.size) = some 33) := Lib.hid (by kernel_rfl)
  have l32 : Hid (∀ k : RKey, (encKy k).length = 32) := Lib.hid encKy_length
  have hi32 : Hid ((Try.prog.info? 35).map (·.size) = some 32) := Lib.hid (by kernel_rfl)
  have l67 : Hid (∀ t : TurnT, (encT t).length = 67) := Lib.hid encT_length
  have a67 : Hid (∀ t : TurnT, (encT t).toArray.size = 67) := Lib.hid fun k => by simp [encT_length]
  have hi67 : Hid ((Try.prog.info? 55).map (·.size) = some 67) := Lib.hid (by kernel_rfl)
  have oneT := Lib.hid encT_all
  have hbr : ∀ (s : ByteArray) (k : RKey) (w : World), (Instr.build 61 #[(0, .string s), (1, .agg (encKy k).toArray)]).run Try.prog w = .ok (.agg (encR (s, k)).toArray) w := buildRt
  have hmd : n2 ≤ 128 := by
    have := mergeQ_len _ a b (Nat.le_refl _)
    rw [hd0] at this
    omega
  have htb : Hid (totS b ≤ 4160) := Lib.hid (by
    have h1 := totS_named hb.2
    have h2 : b.length * 65 ≤ 64 * 65 := Nat.mul_le_mul_right _ h64b
    omega)
  have hok1 := Lib.hid ha
  have hok2 := Lib.hid hb
  have hl1 := Lib.hid hn1
  have hl2 := Lib.hid hn2
  have hRa' := Lib.hid hRa
  have hRd' := Lib.hid hRd
  have hd0' := Lib.hid hd0
  have hn64 : n1 ≤ 64 := by omega
  clear hRa hRd hd0 ha hb hn1 hn2 h64a h64b
  go_enter Try.func23, Try.ntmps23
  go_wp2_with fail
  go_loopw [6, 7, 8] (fun sv jv iv wr => ∃ (i j : Nat) (S : ByteArray) (b2 : List RootT), i ≤ n1 ∧ j ≤ n2 ∧ sv = .string S ∧ jv = .int .i64 (j : Int) ∧ iv = .int .i64 (i : Int) ∧ Hid (∃ bp, bp ++ b2 = b ∧ S = listS bp) ∧ Hid (mergeQ (a.drop i) b2 = d.drop j) ∧ Hid (Below w.heap.size w wr)) (fun _ jv iv _ => (n1 - (intOf iv).toNat) + (n2 - (intOf jv).toNat))
  case atStart => exact ⟨0, 0, ⟨#[]⟩, b, by omega, by omega, rfl, rfl, rfl, Lib.hid ⟨[], rfl, rfl⟩, Lib.hid (by simpa using hd0'.out), Lib.hid (Below.refl _ _)⟩
  case round =>
    obtain ⟨i, j, S, b2, hi, hj, rfl, rfl, rfl, hS, hM, hB⟩ := hrel
    have hrb : Rise b2 := by
      obtain ⟨bp, e, _⟩ := hS.out
      have := hok2.out.1
      rw [← e] at this
      exact ((rise_app _ _).1 this).2.1
    have hNa : Hid (∀ (k : Nat) (x : RootT), a[k]? = some x → x.1.size ≤ 32) := Lib.hid fun k x hx => (hok1.out.2 x (List.mem_of_getElem? hx)).2.1
    have hsS : Hid (∀ y b3, b2 = y :: b3 → S.size + (y.1.size + 33) ≤ 4160) := Lib.hid fun y b3 e => by
      obtain ⟨bp, e1, e2⟩ := hS.out
      have h1 := htb.out
      rw [← e1, totS_app, e] at h1
      rw [e2, listS_size]
      simp only [totS, List.map_cons, List.sum_cons] at h1 ⊢
      omega
    have hSn : Hid (∀ y b3, b2 = y :: b3 → ∃ bp, bp ++ b3 = b ∧ S ++ rootS y = listS bp) := Lib.hid fun y b3 e => by
      obtain ⟨bp, e1, e2⟩ := hS.out
      exact ⟨bp ++ [y], by rw [← e1, e]; simp, by rw [listS_snoc, e2]⟩
    rcases merge_cases (a.drop i) b2 (rise_drop hok1.out.1 i) hrb with ⟨e1, e2⟩ | ⟨x, a2, b3, e1, e2, em, hgt⟩ | ⟨x, a2, e1, em⟩ | ⟨y, b3, e2, em, hab⟩ | ⟨x, y, a2, b3, e1, e2, en, ek, em⟩
    · have hin : i = n1 := by have := List.drop_eq_nil_iff.1 e1; have := hl1.out; omega
      have hjn : j = n2 := by
        have h := hM.out
        rw [e1, e2, mergeQ_nn] at h
        have := List.drop_eq_nil_iff.1 h.symm
        have := hl2.out
        omega
      have gi : ¬ ((i : Int) < (n1 : Int)) := by omega
      have gj : ¬ ((j : Int) < (n2 : Int)) := by omega
      have hSb : Hid (S = listS b) := Lib.hid (by
        obtain ⟨bp, e3, e4⟩ := hS.out
        rw [e2, List.append_nil] at e3
        rw [e4, e3])
      clear hin hjn e1 e2 hrb
      go_wp2_with fail
      go_ret2
      exact ⟨by rw [hSb.out]; rfl, hB.out⟩
    · obtain ⟨hx, hdr, hilt0⟩ := drop_cons e1
      have hilt : i < n1 := by have := hl1.out; omega
      obtain ⟨ba, oa, rfl, hba, hrga⟩ := RowR.range (Rd.below hRa'.out hB.out) hx
      have hx32 := hNa.out i x hx
      have hrX : Hid (∀ W, Below wr.heap.size wr W → W.rangeAt ba (oa + i * 33) (encR x)) := Lib.hid fun W hW => range_below (Nat.lt_of_lt_of_le hba hB.out.size) hrga hW
      have hcX : Hid (∀ W, Below wr.heap.size wr W → W.cell? ⟨ba, oa + i * 33, none⟩ = some (.string x.1)) := Lib.hid fun W hW => by simpa using hrX.out W hW 0 _ (show (encR x)[0]? = some (.string x.1) from rfl)
      have gi : (i : Int) < (n1 : Int) := by omega
      have hig := Lib.hid (show i < n1 by omega)
      have g0i : (0 : Int) ≤ (i : Int) := by omega
      clear hrga hba
      have hSn2 := Lib.hid (hSn.out _ _ e2)
      have hM2 : Hid (mergeQ (a.drop (i + 1)) b3 = d.drop j) := Lib.hid (by rw [hdr, ← em, hM.out])
      have hgt2 := Lib.hid hgt
      have hsz : x.1.size ≤ 4611686018427387904 := by omega
      have hrt := Lib.hid fun W => root_any W x hsz
      have hsb : ¬ 9223372036854775807 < S.size + (rootS x).size := by
        have h1 := hsS.out _ _ e2
        rw [rootS_size]
        omega
      obtain ⟨T, hT⟩ : ∃ T, Hid (∀ _ : Unit, rootS x = T) := ⟨_, Lib.hid fun _ => rfl⟩
      rw [hT.out ()] at hrt hsb hSn2
      have hM3 : Hid (mergeQ a2 b3 = d.drop j) := Lib.hid (by rw [← em, hM.out])
      clear e1 e2 em hgt hsz hx hdr hilt0 hrb
      by_cases hjn : j = n2
      · have hje := Lib.hid hjn
        have gje : ((j : Int) == (n2 : Int)) = true := by rw [hjn]; simp
        clear hjn
        go_wp2_with fail
        have hd : Hid (Below wr.heap.size wr (World.drew wr)) := Lib.hid (below_drewN (Below.refl _ _) 1)
        refine wp_region_held (S := fun W => Below wr.heap.size wr W) (by kernel_rfl) ?_
        change wpAnyH _ _ _ _ _ _ _ _ (World.drew _)
        refine takeD (i := 0) (d := 21) (v := .int .i64 (j : Int)) rfl rfl (by kernel_rfl) (by kernel_rfl) (by kernel_rfl) (fun _ _ _ h => h) (Or.inl ⟨by rfl, by intro W hW; clear hW; go_simp⟩) hd.out ?_
        simp only [List.setIfInBounds_toArray, List.set_cons_zero, List.set_cons_succ]
        refine takeD (i := 1) (d := 22) (v := .slice A2 n2 c2) rfl rfl (by kernel_rfl) (by kernel_rfl) (by kernel_rfl) (fun _ _ _ h => h) (Or.inl ⟨by rfl, by intro W hW; clear hW; go_simp⟩) hd.out ?_
        simp only [List.setIfInBounds_toArray, List.set_cons_zero, List.set_cons_succ]
        refine takeD (i := 2) (d := 23) (v := .int .i64 (n2 : Int)) rfl rfl (by kernel_rfl) (by kernel_rfl) (by kernel_rfl) (fun _ _ _ h => h) (Or.inl ⟨by rfl, by intro W hW; clear hW; go_simp⟩) hd.out ?_
        simp only [List.setIfInBounds_toArray, List.set_cons_zero, List.set_cons_succ]
        refine takeD (i := 3) (d := 24) (v := .bool true) rfl rfl (by kernel_rfl) (by kernel_rfl) (by kernel_rfl) (fun _ _ _ h => h) (Or.inl ⟨by rfl, by intro W hW; have hh := hje.out; clear hW; go_simp⟩) hd.out ?_
        simp only [List.setIfInBounds_toArray, List.set_cons_zero, List.set_cons_succ]
        refine takeD (i := 4) (d := 25) (v := .bool true) rfl rfl (by kernel_rfl) (by kernel_rfl) (by kernel_rfl) (fun _ _ _ h => h) (Or.inl ⟨by rfl, by intro W hW; clear hW; go_simp⟩) hd.out ?_
        simp only [List.setIfInBounds_toArray, List.set_cons_zero, List.set_cons_succ]
        refine takeD (i := 5) (d := 26) (v := undef) rfl rfl (by kernel_rfl) (by kernel_rfl) (by kernel_rfl) (fun _ _ _ h => h) (Or.inr ⟨by rfl, rfl⟩) hd.out ?_
        simp only [List.setIfInBounds_toArray, List.set_cons_zero, List.set_cons_succ]
        refine takeD (i := 6) (d := 27) (v := undef) rfl rfl (by kernel_rfl) (by kernel_rfl) (by kernel_rfl) (fun _ _ _ h => h) (Or.inr ⟨by rfl, rfl⟩) hd.out ?_
        simp only [List.setIfInBounds_toArray, List.set_cons_zero, List.set_cons_succ]
        refine takeD (i := 7) (d := 28) (v := undef) rfl rfl (by kernel_rfl) (by kernel_rfl) (by kernel_rfl) (fun _ _ _ h => h) (Or.inr ⟨by rfl, rfl⟩) hd.out ?_
        simp only [List.setIfInBounds_toArray, List.set_cons_zero, List.set_cons_succ]
        refine takeD (i := 8) (d := 29) (v := undef) rfl rfl (by kernel_rfl) (by kernel_rfl) (by kernel_rfl) (fun _ _ _ h => h) (Or.inr ⟨by rfl, rfl⟩) hd.out ?_
        simp only [List.setIfInBounds_toArray, List.set_cons_zero, List.set_cons_succ]
        refine takeD (i := 9) (d := 30) (v := undef) rfl rfl (by kernel_rfl) (by kernel_rfl) (by kernel_rfl) (fun _ _ _ h => h) (Or.inr ⟨by rfl, rfl⟩) hd.out ?_
        simp only [List.setIfInBounds_toArray, List.set_cons_zero, List.set_cons_succ]
        refine takeD (i := 10) (d := 31) (v := undef) rfl rfl (by kernel_rfl) (by kernel_rfl) (by kernel_rfl) (fun _ _ _ h => h) (Or.inr ⟨by rfl, rfl⟩) hd.out ?_
        simp only [List.setIfInBounds_toArray, List.set_cons_zero, List.set_cons_succ]
        refine takeD (i := 11) (d := 32) (v := undef) rfl rfl (by kernel_rfl) (by kernel_rfl) (by kernel_rfl) (fun _ _ _ h => h) (Or.inr ⟨by rfl, rfl⟩) hd.out ?_
        simp only [List.setIfInBounds_toArray, List.set_cons_zero, List.set_cons_succ]
        refine takeD (i := 12) (d := 33) (v := undef) rfl rfl (by kernel_rfl) (by kernel_rfl) (by kernel_rfl) (fun _ _ _ h => h) (Or.inr ⟨by rfl, rfl⟩) hd.out ?_
        simp only [List.setIfInBounds_toArray, List.set_cons_zero, List.set_cons_succ]
        refine takeD (i := 13) (d := 34) (v := undef) rfl rfl (by kernel_rfl) (by kernel_rfl) (by kernel_rfl) (fun _ _ _ h => h) (Or.inr ⟨by rfl, rfl⟩) hd.out ?_
        simp only [List.setIfInBounds_toArray, List.set_cons_zero, List.set_cons_succ]
        refine takeD (i := 14) (d := 35) (v := undef) rfl rfl (by kernel_rfl) (by kernel_rfl) (by kernel_rfl) (fun _ _ _ h => h) (Or.inr ⟨by rfl, rfl⟩) hd.out ?_
        simp only [List.setIfInBounds_toArray, List.set_cons_zero, List.set_cons_succ]
        refine takeD (i := 15) (d := 36) (v := undef) rfl rfl (by kernel_rfl) (by kernel_rfl) (by kernel_rfl) (fun _ _ _ h => h) (Or.inr ⟨by rfl, rfl⟩) hd.out ?_
        simp only [List.setIfInBounds_toArray, List.set_cons_zero, List.set_cons_succ]
        refine takeD (i := 16) (d := 37) (v := undef) rfl rfl (by kernel_rfl) (by kernel_rfl) (by kernel_rfl) (fun _ _ _ h => h) (Or.inr ⟨by rfl, rfl⟩) hd.out ?_
        simp only [List.setIfInBounds_toArray, List.set_cons_zero, List.set_cons_succ]
        refine takeD (i := 17) (d := 38) (v := undef) rfl rfl (by kernel_rfl) (by kernel_rfl) (by kernel_rfl) (fun _ _ _ h => h) (Or.inr ⟨by rfl, rfl⟩) hd.out ?_
        simp only [List.setIfInBounds_toArray, List.set_cons_zero, List.set_cons_succ]
        refine takeD (i := 18) (d := 39) (v := undef) rfl rfl (by kernel_rfl) (by kernel_rfl) (by kernel_rfl) (fun _ _ _ h => h) (Or.inr ⟨by rfl, rfl⟩) hd.out ?_
        simp only [List.setIfInBounds_toArray, List.set_cons_zero, List.set_cons_succ]
        refine takeD (i := 19) (d := 40) (v := undef) rfl rfl (by kernel_rfl) (by kernel_rfl) (by kernel_rfl) (fun _ _ _ h => h) (Or.inr ⟨by rfl, rfl⟩) hd.out ?_
        simp only [List.setIfInBounds_toArray, List.set_cons_zero, List.set_cons_succ]
        refine takeD (i := 20) (d := 41) (v := undef) rfl rfl (by kernel_rfl) (by kernel_rfl) (by kernel_rfl) (fun _ _ _ h => h) (Or.inr ⟨by rfl, rfl⟩) hd.out ?_
        simp only [List.setIfInBounds_toArray, List.set_cons_zero, List.set_cons_succ]
        refine takeD (i := 21) (d := 42) (v := undef) rfl rfl (by kernel_rfl) (by kernel_rfl) (by kernel_rfl) (fun _ _ _ h => h) (Or.inr ⟨by rfl, rfl⟩) hd.out ?_
        simp only [List.setIfInBounds_toArray, List.set_cons_zero, List.set_cons_succ]
        refine takeD (i := 22) (d := 43) (v := .bool true) rfl rfl (by kernel_rfl) (by kernel_rfl) (by kernel_rfl) (fun _ _ _ h => h) (Or.inl ⟨by rfl, by intro W hW; clear hW; go_simp⟩) hd.out ?_
        simp only [List.setIfInBounds_toArray, List.set_cons_zero, List.set_cons_succ]
        refine wpAnyH_done (by kernel_rfl) ?_ _
        obtain ⟨w5, hw5⟩ : ∃ w5, World.drew wr = w5 := ⟨_, rfl⟩
        have hb5 : Hid (Below wr.heap.size wr w5) := Lib.hid (by rw [← hw5]; exact below_drewN (Below.refl _ _) 1)
        rw [hw5]
        clear hw5
        go_wp2_with (first
          | (refine wpList_load_mid rfl 61 _ rfl ba (oa + i * 33) rfl (encR x) _ (hrX.out _ hb5.out) Try.underlying61 rfl (by rw [l33.out]; exact hi33.out) ?_)
          | (go_at_call 27; refine (hrt.out _).mono ?_; rintro e w6 ⟨rfl, b6⟩; have hb6 := Lib.hid (hb5.out.trans (b6.mono hb5.out.size)); clear b6))
        go_roundw
        case rel => exact ⟨i + 1, j, S ++ T, b3, by omega, hj, rfl, rfl, by go_num, hSn2, hM2, Lib.hid (hB.out.trans (hb6.out.mono hB.out.size))⟩
        case measure => simp [intOf]; omega
      · obtain ⟨t, d2, ed⟩ : ∃ t d2, d.drop j = t :: d2 := by
          cases hdd : d.drop j with
          | nil => exact absurd (List.drop_eq_nil_iff.1 hdd) (by have := hl2.out; omega)
          | cons t d2 => exact ⟨t, d2, rfl⟩
        obtain ⟨ht, hdt, hjlt0⟩ := drop_cons ed
        have hjlt : j < n2 := by have := hl2.out; omega
        obtain ⟨bd, od, rfl, hbd, hrgd⟩ := RowT.range (Rd.below hRd'.out hB.out) ht
        have hrT : Hid (∀ W, Below wr.heap.size wr W → W.rangeAt bd (od + j * 67) (encT t)) := Lib.hid fun W hW => range_below (Nat.lt_of_lt_of_le hbd hB.out.size) hrgd hW
        have hcT : Hid (∀ W, Below wr.heap.size wr W → W.cell? ⟨bd, od + j * 67, none⟩ = some (.string t.name)) := Lib.hid fun W hW => by simpa using hrT.out W hW 0 _ (show (encT t)[0]? = some (.string t.name) from rfl)
        have gj : (j : Int) < (n2 : Int) := by omega
        have g0j : (0 : Int) ≤ (j : Int) := by omega
        have gje : ((j : Int) == (n2 : Int)) = false := by simp; omega
        have hje := Lib.hid (show ¬ j = n2 by omega)
        clear hrgd hbd
        have hless : Hid (Op.bytesLess x.1.toList t.name.toList = true) := Lib.hid (hgt2.out t (by rw [hM3.out, ed]; simp))
        clear ed ht hdt hjlt0 hjn
        go_wp2_with fail
        have hd : Hid (Below wr.heap.size wr (World.drew wr)) := Lib.hid (below_drewN (Below.refl _ _) 1)
        refine wp_region_held (S := fun W => Below wr.heap.size wr W) (by kernel_rfl) ?_
        change wpAnyH _ _ _ _ _ _ _ _ (World.drew _)
        refine takeD (i := 0) (d := 21) (v := .int .i64 (j : Int)) rfl rfl (by kernel_rfl) (by kernel_rfl) (by kernel_rfl) (fun _ _ _ h => h) (Or.inl ⟨by rfl, by intro W hW; clear hW; go_simp⟩) hd.out ?_
        simp only [List.setIfInBounds_toArray, List.set_cons_zero, List.set_cons_succ]
        refine takeD (i := 1) (d := 22) (v := .slice (some ⟨bd, od, none⟩) n2 c2) rfl rfl (by kernel_rfl) (by kernel_rfl) (by kernel_rfl) (fun _ _ _ h => h) (Or.inl ⟨by rfl, by intro W hW; clear hW; go_simp⟩) hd.out ?_
        simp only [List.setIfInBounds_toArray, List.set_cons_zero, List.set_cons_succ]
        refine takeD (i := 2) (d := 23) (v := .int .i64 (n2 : Int)) rfl rfl (by kernel_rfl) (by kernel_rfl) (by kernel_rfl) (fun _ _ _ h => h) (Or.inl ⟨by rfl, by intro W hW; clear hW; go_simp⟩) hd.out ?_
        simp only [List.setIfInBounds_toArray, List.set_cons_zero, List.set_cons_succ]
        refine takeD (i := 3) (d := 24) (v := .bool false) rfl rfl (by kernel_rfl) (by kernel_rfl) (by kernel_rfl) (fun _ _ _ h => h) (Or.inl ⟨by rfl, by intro W hW; have hh := hje.out; clear hW; go_simp⟩) hd.out ?_
        simp only [List.setIfInBounds_toArray, List.set_cons_zero, List.set_cons_succ]
        refine takeD (i := 4) (d := 25) (v := .bool false) rfl rfl (by kernel_rfl) (by kernel_rfl) (by kernel_rfl) (fun _ _ _ h => h) (Or.inl ⟨by rfl, by intro W hW; clear hW; go_simp⟩) hd.out ?_
        simp only [List.setIfInBounds_toArray, List.set_cons_zero, List.set_cons_succ]
        refine takeD (i := 5) (d := 26) (v := .int .i64 (i : Int)) rfl rfl (by kernel_rfl) (by kernel_rfl) (by kernel_rfl) (fun _ _ _ h => h) (Or.inl ⟨by rfl, by intro W hW; clear hW; go_simp⟩) hd.out ?_
        simp only [List.setIfInBounds_toArray, List.set_cons_zero, List.set_cons_succ]
        refine takeD (i := 6) (d := 27) (v := .slice (some ⟨ba, oa, none⟩) n1 c1) rfl rfl (by kernel_rfl) (by kernel_rfl) (by kernel_rfl) (fun _ _ _ h => h) (Or.inl ⟨by rfl, by intro W hW; clear hW; go_simp⟩) hd.out ?_
        simp only [List.setIfInBounds_toArray, List.set_cons_zero, List.set_cons_succ]
        refine takeD (i := 7) (d := 28) (v := .int .i64 (n1 : Int)) rfl rfl (by kernel_rfl) (by kernel_rfl) (by kernel_rfl) (fun _ _ _ h => h) (Or.inl ⟨by rfl, by intro W hW; clear hW; go_simp⟩) hd.out ?_
        simp only [List.setIfInBounds_toArray, List.set_cons_zero, List.set_cons_succ]
        refine takeD (i := 8) (d := 29) (v := .bool true) rfl rfl (by kernel_rfl) (by kernel_rfl) (by kernel_rfl) (fun _ _ _ h => h) (Or.inl ⟨by rfl, by intro W hW; have hh := hig.out; clear hW; go_simp⟩) hd.out ?_
        simp only [List.setIfInBounds_toArray, List.set_cons_zero, List.set_cons_succ]
        refine takeD (i := 9) (d := 30) (v := .bool true) rfl rfl (by kernel_rfl) (by kernel_rfl) (by kernel_rfl) (fun _ _ _ h => h) (Or.inl ⟨by rfl, by intro W hW; clear hW; go_simp⟩) hd.out ?_
        simp only [List.setIfInBounds_toArray, List.set_cons_zero, List.set_cons_succ]
        refine takeD (i := 10) (d := 31) (v := .slice (some ⟨ba, oa, none⟩) n1 c1) rfl rfl (by kernel_rfl) (by kernel_rfl) (by kernel_rfl) (fun _ _ _ h => h) (Or.inl ⟨by rfl, by intro W hW; clear hW; go_simp⟩) hd.out ?_
        simp only [List.setIfInBounds_toArray, List.set_cons_zero, List.set_cons_succ]
        refine takeD (i := 11) (d := 32) (v := .int .i64 (i : Int)) rfl rfl (by kernel_rfl) (by kernel_rfl) (by kernel_rfl) (fun _ _ _ h => h) (Or.inl ⟨by rfl, by intro W hW; clear hW; go_simp⟩) hd.out ?_
        simp only [List.setIfInBounds_toArray, List.set_cons_zero, List.set_cons_succ]
        refine takeD (i := 12) (d := 33) (v := .pointer (some ⟨ba, oa + i * 33, none⟩)) rfl rfl (by kernel_rfl) (by kernel_rfl) (by kernel_rfl) (fun _ _ _ h => h) (Or.inl ⟨by rfl, by intro W hW; clear hW; go_simp⟩) hd.out ?_
        simp only [List.setIfInBounds_toArray, List.set_cons_zero, List.set_cons_succ]
        refine takeD (i := 13) (d := 34) (v := .pointer (some ⟨ba, oa + i * 33, none⟩)) rfl rfl (by kernel_rfl) (by kernel_rfl) (by kernel_rfl) (fun _ _ _ h => h) (Or.inl ⟨by rfl, by intro W hW; clear hW; go_simp⟩) hd.out ?_
        simp only [List.setIfInBounds_toArray, List.set_cons_zero, List.set_cons_succ]
        refine takeD (i := 14) (d := 35) (v := .string x.1) rfl rfl (by kernel_rfl) (by kernel_rfl) (by kernel_rfl) (fun _ _ _ h => h) (Or.inl ⟨by rfl, by intro W hW; have cc := hcX.out W hW; clear hW; go_simp⟩) hd.out ?_
        simp only [List.setIfInBounds_toArray, List.set_cons_zero, List.set_cons_succ]
        refine takeD (i := 15) (d := 36) (v := .slice (some ⟨bd, od, none⟩) n2 c2) rfl rfl (by kernel_rfl) (by kernel_rfl) (by kernel_rfl) (fun _ _ _ h => h) (Or.inl ⟨by rfl, by intro W hW; clear hW; go_simp⟩) hd.out ?_
        simp only [List.setIfInBounds_toArray, List.set_cons_zero, List.set_cons_succ]
        refine takeD (i := 16) (d := 37) (v := .int .i64 (j : Int)) rfl rfl (by kernel_rfl) (by kernel_rfl) (by kernel_rfl) (fun _ _ _ h => h) (Or.inl ⟨by rfl, by intro W hW; clear hW; go_simp⟩) hd.out ?_
        simp only [List.setIfInBounds_toArray, List.set_cons_zero, List.set_cons_succ]
        refine takeD (i := 17) (d := 38) (v := .pointer (some ⟨bd, od + j * 67, none⟩)) rfl rfl (by kernel_rfl) (by kernel_rfl) (by kernel_rfl) (fun _ _ _ h => h) (Or.inl ⟨by rfl, by intro W hW; clear hW; go_simp⟩) hd.out ?_
        simp only [List.setIfInBounds_toArray, List.set_cons_zero, List.set_cons_succ]
        refine takeD (i := 18) (d := 39) (v := .pointer (some ⟨bd, od + j * 67, none⟩)) rfl rfl (by kernel_rfl) (by kernel_rfl) (by kernel_rfl) (fun _ _ _ h => h) (Or.inl ⟨by rfl, by intro W hW; clear hW; go_simp⟩) hd.out ?_
        simp only [List.setIfInBounds_toArray, List.set_cons_zero, List.set_cons_succ]
        refine takeD (i := 19) (d := 40) (v := .string t.name) rfl rfl (by kernel_rfl) (by kernel_rfl) (by kernel_rfl) (fun _ _ _ h => h) (Or.inl ⟨by rfl, by intro W hW; have cc := hcT.out W hW; clear hW; go_simp⟩) hd.out ?_
        simp only [List.setIfInBounds_toArray, List.set_cons_zero, List.set_cons_succ]
        refine takeD (i := 20) (d := 41) (v := .bool true) rfl rfl (by kernel_rfl) (by kernel_rfl) (by kernel_rfl) (fun _ _ _ h => h) (Or.inl ⟨by rfl, by intro W hW; have hh := hless.out; clear hW; go_simp⟩) hd.out ?_
        simp only [List.setIfInBounds_toArray, List.set_cons_zero, List.set_cons_succ]
        refine takeD (i := 21) (d := 42) (v := .bool true) rfl rfl (by kernel_rfl) (by kernel_rfl) (by kernel_rfl) (fun _ _ _ h => h) (Or.inl ⟨by rfl, by intro W hW; clear hW; go_simp⟩) hd.out ?_
        simp only [List.setIfInBounds_toArray, List.set_cons_zero, List.set_cons_succ]
        refine takeD (i := 22) (d := 43) (v := .bool true) rfl rfl (by kernel_rfl) (by kernel_rfl) (by kernel_rfl) (fun _ _ _ h => h) (Or.inl ⟨by rfl, by intro W hW; clear hW; go_simp⟩) hd.out ?_
        simp only [List.setIfInBounds_toArray, List.set_cons_zero, List.set_cons_succ]
        refine wpAnyH_done (by kernel_rfl) ?_ _
        obtain ⟨w5, hw5⟩ : ∃ w5, World.drew wr = w5 := ⟨_, rfl⟩
        have hb5 : Hid (Below wr.heap.size wr w5) := Lib.hid (by rw [← hw5]; exact below_drewN (Below.refl _ _) 1)
        rw [hw5]
        clear hw5
        go_wp2_with (first
          | (refine wpList_load_mid rfl 61 _ rfl ba (oa + i * 33) rfl (encR x) _ (hrX.out _ hb5.out) Try.underlying61 rfl (by rw [l33.out]; exact hi33.out) ?_)
          | (go_at_call 27; refine (hrt.out _).mono ?_; rintro e w6 ⟨rfl, b6⟩; have hb6 := Lib.hid (hb5.out.trans (b6.mono hb5.out.size)); clear b6))
        go_roundw
        case rel => exact ⟨i + 1, j, S ++ T, b3, by omega, hj, rfl, rfl, by go_num, hSn2, hM2, Lib.hid (hB.out.trans (hb6.out.mono hB.out.size))⟩
        case measure => simp [intOf]; omega
    · obtain ⟨hx, hdr, hilt0⟩ := drop_cons e1
      have hilt : i < n1 := by have := hl1.out; omega
      obtain ⟨ba, oa, rfl, hba, hrga⟩ := RowR.range (Rd.below hRa'.out hB.out) hx
      have hx32 := hNa.out i x hx
      have hrX : Hid (∀ W, Below wr.heap.size wr W → W.rangeAt ba (oa + i * 33) (encR x)) := Lib.hid fun W hW => range_below (Nat.lt_of_lt_of_le hba hB.out.size) hrga hW
      have hcX : Hid (∀ W, Below wr.heap.size wr W → W.cell? ⟨ba, oa + i * 33, none⟩ = some (.string x.1)) := Lib.hid fun W hW => by simpa using hrX.out W hW 0 _ (show (encR x)[0]? = some (.string x.1) from rfl)
      have gi : (i : Int) < (n1 : Int) := by omega
      have hig := Lib.hid (show i < n1 by omega)
      have g0i : (0 : Int) ≤ (i : Int) := by omega
      clear hrga hba
      obtain ⟨t, hteq⟩ : ∃ t, tOff x = t := ⟨_, rfl⟩
      have htN : t.name = x.1 := by rw [← hteq]; rfl
      have htH : Hid (t.had = true) := Lib.hid (by rw [← hteq]; rfl)
      have htS : Hid (t.has = false) := Lib.hid (by rw [← hteq]; rfl)
      have htO : Hid (t.old = x.2) := Lib.hid (by rw [← hteq]; rfl)
      have htW : Hid (t.new = kZ) := Lib.hid (by rw [← hteq]; rfl)
      rw [hteq] at em
      have ed : d.drop j = t :: mergeQ a2 b2 := by rw [← hM.out, em]
      obtain ⟨ht, hdt, hjlt0⟩ := drop_cons ed
      have hjlt : j < n2 := by have := hl2.out; omega
      obtain ⟨bd, od, rfl, hbd, hrgd⟩ := RowT.range (Rd.below hRd'.out hB.out) ht
      have hrT : Hid (∀ W, Below wr.heap.size wr W → W.rangeAt bd (od + j * 67) (encT t)) := Lib.hid fun W hW => range_below (Nat.lt_of_lt_of_le hbd hB.out.size) hrgd hW
      have hcT : Hid (∀ W, Below wr.heap.size wr W → W.cell? ⟨bd, od + j * 67, none⟩ = some (.string t.name)) := Lib.hid fun W hW => by simpa using hrT.out W hW 0 _ (show (encT t)[0]? = some (.string t.name) from rfl)
      have gj : (j : Int) < (n2 : Int) := by omega
      have g0j : (0 : Int) ≤ (j : Int) := by omega
      have gje : ((j : Int) == (n2 : Int)) = false := by simp; omega
      have hje := Lib.hid (show ¬ j = n2 by omega)
      clear hrgd hbd
      have hM2 : Hid (mergeQ (a.drop (i + 1)) b2 = d.drop (j + 1)) := Lib.hid (by rw [hdr, hdt])
      have hless : Hid (Op.bytesLess x.1.toList t.name.toList = false) := Lib.hid (by rw [htN]; exact ltS_irrefl _)
      have heqn : Hid ((x.1.toList == t.name.toList) = true) := Lib.hid (by rw [htN]; simp)
      clear e1 em hteq ed ht hdt hjlt0 hx hdr hilt0 hrb htN
      go_wp2_with fail
      have hd : Hid (Below wr.heap.size wr (World.drew wr)) := Lib.hid (below_drewN (Below.refl _ _) 1)
      refine wp_region_held (S := fun W => Below wr.heap.size wr W) (by kernel_rfl) ?_
      change wpAnyH _ _ _ _ _ _ _ _ (World.drew _)
      refine takeD (i := 0) (d := 21) (v := .int .i64 (j : Int)) rfl rfl (by kernel_rfl) (by kernel_rfl) (by kernel_rfl) (fun _ _ _ h => h) (Or.inl ⟨by rfl, by intro W hW; clear hW; go_simp⟩) hd.out ?_
      simp only [List.setIfInBounds_toArray, List.set_cons_zero, List.set_cons_succ]
      refine takeD (i := 1) (d := 22) (v := .slice (some ⟨bd, od, none⟩) n2 c2) rfl rfl (by kernel_rfl) (by kernel_rfl) (by kernel_rfl) (fun _ _ _ h => h) (Or.inl ⟨by rfl, by intro W hW; clear hW; go_simp⟩) hd.out ?_
      simp only [List.setIfInBounds_toArray, List.set_cons_zero, List.set_cons_succ]
      refine takeD (i := 2) (d := 23) (v := .int .i64 (n2 : Int)) rfl rfl (by kernel_rfl) (by kernel_rfl) (by kernel_rfl) (fun _ _ _ h => h) (Or.inl ⟨by rfl, by intro W hW; clear hW; go_simp⟩) hd.out ?_
      simp only [List.setIfInBounds_toArray, List.set_cons_zero, List.set_cons_succ]
      refine takeD (i := 3) (d := 24) (v := .bool false) rfl rfl (by kernel_rfl) (by kernel_rfl) (by kernel_rfl) (fun _ _ _ h => h) (Or.inl ⟨by rfl, by intro W hW; have hh := hje.out; clear hW; go_simp⟩) hd.out ?_
      simp only [List.setIfInBounds_toArray, List.set_cons_zero, List.set_cons_succ]
      refine takeD (i := 4) (d := 25) (v := .bool false) rfl rfl (by kernel_rfl) (by kernel_rfl) (by kernel_rfl) (fun _ _ _ h => h) (Or.inl ⟨by rfl, by intro W hW; clear hW; go_simp⟩) hd.out ?_
      simp only [List.setIfInBounds_toArray, List.set_cons_zero, List.set_cons_succ]
      refine takeD (i := 5) (d := 26) (v := .int .i64 (i : Int)) rfl rfl (by kernel_rfl) (by kernel_rfl) (by kernel_rfl) (fun _ _ _ h => h) (Or.inl ⟨by rfl, by intro W hW; clear hW; go_simp⟩) hd.out ?_
      simp only [List.setIfInBounds_toArray, List.set_cons_zero, List.set_cons_succ]
      refine takeD (i := 6) (d := 27) (v := .slice (some ⟨ba, oa, none⟩) n1 c1) rfl rfl (by kernel_rfl) (by kernel_rfl) (by kernel_rfl) (fun _ _ _ h => h) (Or.inl ⟨by rfl, by intro W hW; clear hW; go_simp⟩) hd.out ?_
      simp only [List.setIfInBounds_toArray, List.set_cons_zero, List.set_cons_succ]
      refine takeD (i := 7) (d := 28) (v := .int .i64 (n1 : Int)) rfl rfl (by kernel_rfl) (by kernel_rfl) (by kernel_rfl) (fun _ _ _ h => h) (Or.inl ⟨by rfl, by intro W hW; clear hW; go_simp⟩) hd.out ?_
      simp only [List.setIfInBounds_toArray, List.set_cons_zero, List.set_cons_succ]
      refine takeD (i := 8) (d := 29) (v := .bool true) rfl rfl (by kernel_rfl) (by kernel_rfl) (by kernel_rfl) (fun _ _ _ h => h) (Or.inl ⟨by rfl, by intro W hW; have hh := hig.out; clear hW; go_simp⟩) hd.out ?_
      simp only [List.setIfInBounds_toArray, List.set_cons_zero, List.set_cons_succ]
      refine takeD (i := 9) (d := 30) (v := .bool true) rfl rfl (by kernel_rfl) (by kernel_rfl) (by kernel_rfl) (fun _ _ _ h => h) (Or.inl ⟨by rfl, by intro W hW; clear hW; go_simp⟩) hd.out ?_
      simp only [List.setIfInBounds_toArray, List.set_cons_zero, List.set_cons_succ]
      refine takeD (i := 10) (d := 31) (v := .slice (some ⟨ba, oa, none⟩) n1 c1) rfl rfl (by kernel_rfl) (by kernel_rfl) (by kernel_rfl) (fun _ _ _ h => h) (Or.inl ⟨by rfl, by intro W hW; clear hW; go_simp⟩) hd.out ?_
      simp only [List.setIfInBounds_toArray, List.set_cons_zero, List.set_cons_succ]
      refine takeD (i := 11) (d := 32) (v := .int .i64 (i : Int)) rfl rfl (by kernel_rfl) (by kernel_rfl) (by kernel_rfl) (fun _ _ _ h => h) (Or.inl ⟨by rfl, by intro W hW; clear hW; go_simp⟩) hd.out ?_
      simp only [List.setIfInBounds_toArray, List.set_cons_zero, List.set_cons_succ]
      refine takeD (i := 12) (d := 33) (v := .pointer (some ⟨ba, oa + i * 33, none⟩)) rfl rfl (by kernel_rfl) (by kernel_rfl) (by kernel_rfl) (fun _ _ _ h => h) (Or.inl ⟨by rfl, by intro W hW; clear hW; go_simp⟩) hd.out ?_
      simp only [List.setIfInBounds_toArray, List.set_cons_zero, List.set_cons_succ]
      refine takeD (i := 13) (d := 34) (v := .pointer (some ⟨ba, oa + i * 33, none⟩)) rfl rfl (by kernel_rfl) (by kernel_rfl) (by kernel_rfl) (fun _ _ _ h => h) (Or.inl ⟨by rfl, by intro W hW; clear hW; go_simp⟩) hd.out ?_
      simp only [List.setIfInBounds_toArray, List.set_cons_zero, List.set_cons_succ]
      refine takeD (i := 14) (d := 35) (v := .string x.1) rfl rfl (by kernel_rfl) (by kernel_rfl) (by kernel_rfl) (fun _ _ _ h => h) (Or.inl ⟨by rfl, by intro W hW; have cc := hcX.out W hW; clear hW; go_simp⟩) hd.out ?_
      simp only [List.setIfInBounds_toArray, List.set_cons_zero, List.set_cons_succ]
      refine takeD (i := 15) (d := 36) (v := .slice (some ⟨bd, od, none⟩) n2 c2) rfl rfl (by kernel_rfl) (by kernel_rfl) (by kernel_rfl) (fun _ _ _ h => h) (Or.inl ⟨by rfl, by intro W hW; clear hW; go_simp⟩) hd.out ?_
      simp only [List.setIfInBounds_toArray, List.set_cons_zero, List.set_cons_succ]
      refine takeD (i := 16) (d := 37) (v := .int .i64 (j : Int)) rfl rfl (by kernel_rfl) (by kernel_rfl) (by kernel_rfl) (fun _ _ _ h => h) (Or.inl ⟨by rfl, by intro W hW; clear hW; go_simp⟩) hd.out ?_
      simp only [List.setIfInBounds_toArray, List.set_cons_zero, List.set_cons_succ]
      refine takeD (i := 17) (d := 38) (v := .pointer (some ⟨bd, od + j * 67, none⟩)) rfl rfl (by kernel_rfl) (by kernel_rfl) (by kernel_rfl) (fun _ _ _ h => h) (Or.inl ⟨by rfl, by intro W hW; clear hW; go_simp⟩) hd.out ?_
      simp only [List.setIfInBounds_toArray, List.set_cons_zero, List.set_cons_succ]
      refine takeD (i := 18) (d := 39) (v := .pointer (some ⟨bd, od + j * 67, none⟩)) rfl rfl (by kernel_rfl) (by kernel_rfl) (by kernel_rfl) (fun _ _ _ h => h) (Or.inl ⟨by rfl, by intro W hW; clear hW; go_simp⟩) hd.out ?_
      simp only [List.setIfInBounds_toArray, List.set_cons_zero, List.set_cons_succ]
      refine takeD (i := 19) (d := 40) (v := .string t.name) rfl rfl (by kernel_rfl) (by kernel_rfl) (by kernel_rfl) (fun _ _ _ h => h) (Or.inl ⟨by rfl, by intro W hW; have cc := hcT.out W hW; clear hW; go_simp⟩) hd.out ?_
      simp only [List.setIfInBounds_toArray, List.set_cons_zero, List.set_cons_succ]
      refine takeD (i := 20) (d := 41) (v := .bool false) rfl rfl (by kernel_rfl) (by kernel_rfl) (by kernel_rfl) (fun _ _ _ h => h) (Or.inl ⟨by rfl, by intro W hW; have hh := hless.out; clear hW; go_simp⟩) hd.out ?_
      simp only [List.setIfInBounds_toArray, List.set_cons_zero, List.set_cons_succ]
      refine takeD (i := 21) (d := 42) (v := .bool false) rfl rfl (by kernel_rfl) (by kernel_rfl) (by kernel_rfl) (fun _ _ _ h => h) (Or.inl ⟨by rfl, by intro W hW; clear hW; go_simp⟩) hd.out ?_
      simp only [List.setIfInBounds_toArray, List.set_cons_zero, List.set_cons_succ]
      refine takeD (i := 22) (d := 43) (v := .bool false) rfl rfl (by kernel_rfl) (by kernel_rfl) (by kernel_rfl) (fun _ _ _ h => h) (Or.inl ⟨by rfl, by intro W hW; clear hW; go_simp⟩) hd.out ?_
      simp only [List.setIfInBounds_toArray, List.set_cons_zero, List.set_cons_succ]
      refine wpAnyH_done (by kernel_rfl) ?_ _
      obtain ⟨w5, hw5⟩ : ∃ w5, World.drew wr = w5 := ⟨_, rfl⟩
      have hb5 : Hid (Below wr.heap.size wr w5) := Lib.hid (by rw [← hw5]; exact below_drewN (Below.refl _ _) 1)
      rw [hw5]
      clear hw5
      go_wp2_with (first
        | (refine wpList_load_mid rfl 55 _ rfl bd (od + j * 67) rfl (encT t) _ (hrT.out _ hb5.out) Try.underlying55 rfl (by rw [l67.out]; exact hi67.out) ?_)
        | (refine wpList_store_mid rfl 55 _ _ rfl w5.heap.size 0 (encT t).toArray rfl rfl (by rw [a67.out]; exact (TA.new w5 zT).there) (by rw [a67.out]; exact hi67.out) (oneT.out _) ?_
           rw [List.toList_toArray]
           obtain ⟨wq, hwq⟩ : ∃ wq, (w5.alloc (.cells (encT zT).toArray 55)).setCells w5.heap.size 0 (encT t) = wq := ⟨_, rfl⟩
           obtain ⟨M, hM0⟩ : ∃ M, w5.heap.size = M := ⟨_, rfl⟩
           have hbq : Hid (Below wr.heap.size wr wq) := Lib.hid (by rw [← hwq]; exact hb5.out.trans ((belTA (Nat.le_refl _) _ _ _ ((Below.refl _ _).alloc (Nat.le_refl _) _)).mono hb5.out.size))
           have hTA : Hid (TA wq M t) := Lib.hid (by rw [← hwq, ← hM0]; exact (TA.new w5 zT).all t)
           have hMq : Hid (M < wq.heap.size) := Lib.hid (by rw [← hwq, ← hM0, setCells_heap_size]; simp)
           rw [hwq, hM0]
           clear hwq hM0))
      have hd : Hid (Below wq.heap.size wq (World.drew wq)) := Lib.hid (below_drewN (Below.refl _ _) 1)
      refine wp_region_held (S := fun W => Below wq.heap.size wq W) (by kernel_rfl) ?_
      change wpAnyH _ _ _ _ _ _ _ _ (World.drew _)
      refine takeD (i := 0) (d := 59) (v := .int .i64 (i : Int)) rfl rfl (by kernel_rfl) (by kernel_rfl) (by kernel_rfl) (fun _ _ _ h => h) (Or.inl ⟨by rfl, by intro W hW; clear hW; go_simp⟩) hd.out ?_
      simp only [List.setIfInBounds_toArray, List.set_cons_zero, List.set_cons_succ]
      refine takeD (i := 1) (d := 60) (v := .slice (some ⟨ba, oa, none⟩) n1 c1) rfl rfl (by kernel_rfl) (by kernel_rfl) (by kernel_rfl) (fun _ _ _ h => h) (Or.inl ⟨by rfl, by intro W hW; clear hW; go_simp⟩) hd.out ?_
      simp only [List.setIfInBounds_toArray, List.set_cons_zero, List.set_cons_succ]
      refine takeD (i := 2) (d := 61) (v := .int .i64 (n1 : Int)) rfl rfl (by kernel_rfl) (by kernel_rfl) (by kernel_rfl) (fun _ _ _ h => h) (Or.inl ⟨by rfl, by intro W hW; clear hW; go_simp⟩) hd.out ?_
      simp only [List.setIfInBounds_toArray, List.set_cons_zero, List.set_cons_succ]
      refine takeD (i := 3) (d := 62) (v := .bool true) rfl rfl (by kernel_rfl) (by kernel_rfl) (by kernel_rfl) (fun _ _ _ h => h) (Or.inl ⟨by rfl, by intro W hW; have hh := hig.out; clear hW; go_simp⟩) hd.out ?_
      simp only [List.setIfInBounds_toArray, List.set_cons_zero, List.set_cons_succ]
      refine takeD (i := 4) (d := 63) (v := .bool true) rfl rfl (by kernel_rfl) (by kernel_rfl) (by kernel_rfl) (fun _ _ _ h => h) (Or.inl ⟨by rfl, by intro W hW; clear hW; go_simp⟩) hd.out ?_
      simp only [List.setIfInBounds_toArray, List.set_cons_zero, List.set_cons_succ]
      refine takeD (i := 5) (d := 64) (v := .slice (some ⟨ba, oa, none⟩) n1 c1) rfl rfl (by kernel_rfl) (by kernel_rfl) (by kernel_rfl) (fun _ _ _ h => h) (Or.inl ⟨by rfl, by intro W hW; clear hW; go_simp⟩) hd.out ?_
      simp only [List.setIfInBounds_toArray, List.set_cons_zero, List.set_cons_succ]
      refine takeD (i := 6) (d := 65) (v := .int .i64 (i : Int)) rfl rfl (by kernel_rfl) (by kernel_rfl) (by kernel_rfl) (fun _ _ _ h => h) (Or.inl ⟨by rfl, by intro W hW; clear hW; go_simp⟩) hd.out ?_
      simp only [List.setIfInBounds_toArray, List.set_cons_zero, List.set_cons_succ]
      refine takeD (i := 7) (d := 66) (v := .pointer (some ⟨ba, oa + i * 33, none⟩)) rfl rfl (by kernel_rfl) (by kernel_rfl) (by kernel_rfl) (fun _ _ _ h => h) (Or.inl ⟨by rfl, by intro W hW; clear hW; go_simp⟩) hd.out ?_
      simp only [List.setIfInBounds_toArray, List.set_cons_zero, List.set_cons_succ]
      refine takeD (i := 8) (d := 67) (v := .pointer (some ⟨ba, oa + i * 33, none⟩)) rfl rfl (by kernel_rfl) (by kernel_rfl) (by kernel_rfl) (fun _ _ _ h => h) (Or.inl ⟨by rfl, by intro W hW; clear hW; go_simp⟩) hd.out ?_
      simp only [List.setIfInBounds_toArray, List.set_cons_zero, List.set_cons_succ]
      refine takeD (i := 9) (d := 68) (v := .string x.1) rfl rfl (by kernel_rfl) (by kernel_rfl) (by kernel_rfl) (fun _ _ _ h => h) (Or.inl ⟨by rfl, by intro W hW; have cc := hcX.out W (hbq.out.trans (hW.mono hbq.out.size)); clear hW; go_simp⟩) hd.out ?_
      simp only [List.setIfInBounds_toArray, List.set_cons_zero, List.set_cons_succ]
      refine takeD (i := 10) (d := 69) (v := .pointer (some ⟨M, 0, none⟩)) rfl rfl (by kernel_rfl) (by kernel_rfl) (by kernel_rfl) (fun _ _ _ h => h) (Or.inl ⟨by rfl, by intro W hW; clear hW; go_simp⟩) hd.out ?_
      simp only [List.setIfInBounds_toArray, List.set_cons_zero, List.set_cons_succ]
      refine takeD (i := 11) (d := 70) (v := .string t.name) rfl rfl (by kernel_rfl) (by kernel_rfl) (by kernel_rfl) (fun _ _ _ h => h) (Or.inl ⟨by rfl, by intro W hW; have cc := (hTA.out.below hW hMq.out).nm; clear hW; go_simp⟩) hd.out ?_
      simp only [List.setIfInBounds_toArray, List.set_cons_zero, List.set_cons_succ]
      refine takeD (i := 12) (d := 71) (v := .bool true) rfl rfl (by kernel_rfl) (by kernel_rfl) (by kernel_rfl) (fun _ _ _ h => h) (Or.inl ⟨by rfl, by intro W hW; have hh := heqn.out; clear hW; go_simp⟩) hd.out ?_
      simp only [List.setIfInBounds_toArray, List.set_cons_zero, List.set_cons_succ]
      refine takeD (i := 13) (d := 72) (v := .bool true) rfl rfl (by kernel_rfl) (by kernel_rfl) (by kernel_rfl) (fun _ _ _ h => h) (Or.inl ⟨by rfl, by intro W hW; clear hW; go_simp⟩) hd.out ?_
      simp only [List.setIfInBounds_toArray, List.set_cons_zero, List.set_cons_succ]
      refine takeD (i := 14) (d := 10) (v := .bool true) rfl rfl (by kernel_rfl) (by kernel_rfl) (by kernel_rfl) (fun _ _ _ h => h) (Or.inl ⟨by rfl, by intro W hW; clear hW; go_simp⟩) hd.out ?_
      simp only [List.setIfInBounds_toArray, List.set_cons_zero, List.set_cons_succ]
      refine wpAnyH_done (by kernel_rfl) ?_ _
      obtain ⟨w7, hw7⟩ : ∃ w7, World.drew wq = w7 := ⟨_, rfl⟩
      have hb7 : Hid (Below wq.heap.size wq w7) := Lib.hid (by rw [← hw7]; exact below_drewN (Below.refl _ _) 1)
      rw [hw7]
      clear hw7
      go_wp2_with fail
      have hM7 : Hid (M < w7.heap.size) := Lib.hid (Nat.lt_of_lt_of_le hMq.out hb7.out.size)
      have hTA7 := Lib.hid (hTA.out.below hb7.out hMq.out)
      have hb07 := Lib.hid (hbq.out.trans (hb7.out.mono hbq.out.size))
      have hrXk : Hid (∀ W, Below w7.heap.size w7 W → W.rangeAt ba (oa + i * 33 + 1) (encKy x.2)) := Lib.hid fun W hW => key_range (hrX.out W (hb07.out.trans (hW.mono hb07.out.size)))
      have hrO : Hid (∀ W, Below w7.heap.size w7 W → W.rangeAt M 3 (encKy t.old)) := Lib.hid fun W hW => (hTA7.out.below hW hM7.out).old
      have hrN : Hid (∀ W, Below w7.heap.size w7 W → W.rangeAt M 35 (encKy t.new)) := Lib.hid fun W hW => (hTA7.out.below hW hM7.out).new_
      have hcH : Hid (∀ W, Below w7.heap.size w7 W → W.cell? ⟨M, 1, none⟩ = some (.bool true)) := Lib.hid fun W hW => (hTA7.out.below hW hM7.out).hd.trans (by rw [htH.out])
      have hcS : Hid (∀ W, Below w7.heap.size w7 W → W.cell? ⟨M, 2, none⟩ = some (.bool false)) := Lib.hid fun W hW => (hTA7.out.below hW hM7.out).hs.trans (by rw [htS.out])
      have hneK : ∀ W, (binOp .neq 35 (.agg (encKy x.2).toArray) (.agg (encKy t.old).toArray)).run Try.prog W = .ok (.bool false) W := fun W => by rw [neKy, htO.out]; simp
      have hguK := guKy
      have hd : Hid (Below w7.heap.size w7 (World.drew w7)) := Lib.hid (below_drewN (Below.refl _ _) 1)
      refine wp_region_held (S := fun W => Below w7.heap.size w7 W) (by kernel_rfl) ?_
      change wpAnyH _ _ _ _ _ _ _ _ (World.drew _)
      refine takeD (i := 0) (d := 73) (v := .bool true) rfl rfl (by kernel_rfl) (by kernel_rfl) (by kernel_rfl) (fun _ _ _ h => h) (Or.inl ⟨by rfl, by intro W hW; clear hW; go_simp⟩) hd.out ?_
      simp only [List.setIfInBounds_toArray, List.set_cons_zero, List.set_cons_succ]
      refine takeD (i := 1) (d := 74) (v := .pointer (some ⟨M, 1, none⟩)) rfl rfl (by kernel_rfl) (by kernel_rfl) (by kernel_rfl) (fun _ _ _ h => h) (Or.inl ⟨by rfl, by intro W hW; clear hW; go_simp⟩) hd.out ?_
      simp only [List.setIfInBounds_toArray, List.set_cons_zero, List.set_cons_succ]
      refine takeD (i := 2) (d := 75) (v := .bool true) rfl rfl (by kernel_rfl) (by kernel_rfl) (by kernel_rfl) (fun _ _ _ h => h) (Or.inl ⟨by rfl, by intro W hW; have cc := hcH.out W hW; clear hW; go_simp⟩) hd.out ?_
      simp only [List.setIfInBounds_toArray, List.set_cons_zero, List.set_cons_succ]
      refine takeD (i := 3) (d := 76) (v := .bool false) rfl rfl (by kernel_rfl) (by kernel_rfl) (by kernel_rfl) (fun _ _ _ h => h) (Or.inl ⟨by rfl, by intro W hW; clear hW; go_simp⟩) hd.out ?_
      simp only [List.setIfInBounds_toArray, List.set_cons_zero, List.set_cons_succ]
      refine takeD (i := 4) (d := 77) (v := .bool false) rfl rfl (by kernel_rfl) (by kernel_rfl) (by kernel_rfl) (fun _ _ _ h => h) (Or.inl ⟨by rfl, by intro W hW; clear hW; go_simp⟩) hd.out ?_
      simp only [List.setIfInBounds_toArray, List.set_cons_zero, List.set_cons_succ]
      refine takeD (i := 5) (d := 78) (v := .bool true) rfl rfl (by kernel_rfl) (by kernel_rfl) (by kernel_rfl) (fun _ _ _ h => h) (Or.inl ⟨by rfl, by intro W hW; clear hW; go_simp⟩) hd.out ?_
      simp only [List.setIfInBounds_toArray, List.set_cons_zero, List.set_cons_succ]
      refine takeD (i := 6) (d := 79) (v := .bool true) rfl rfl (by kernel_rfl) (by kernel_rfl) (by kernel_rfl) (fun _ _ _ h => h) (Or.inl ⟨by rfl, by intro W hW; clear hW; go_simp⟩) hd.out ?_
      simp only [List.setIfInBounds_toArray, List.set_cons_zero, List.set_cons_succ]
      refine takeD (i := 7) (d := 80) (v := .slice (some ⟨ba, oa, none⟩) n1 c1) rfl rfl (by kernel_rfl) (by kernel_rfl) (by kernel_rfl) (fun _ _ _ h => h) (Or.inl ⟨by rfl, by intro W hW; clear hW; go_simp⟩) hd.out ?_
      simp only [List.setIfInBounds_toArray, List.set_cons_zero, List.set_cons_succ]
      refine takeD (i := 8) (d := 81) (v := .int .i64 (i : Int)) rfl rfl (by kernel_rfl) (by kernel_rfl) (by kernel_rfl) (fun _ _ _ h => h) (Or.inl ⟨by rfl, by intro W hW; clear hW; go_simp⟩) hd.out ?_
      simp only [List.setIfInBounds_toArray, List.set_cons_zero, List.set_cons_succ]
      refine takeD (i := 9) (d := 82) (v := .pointer (some ⟨ba, oa + i * 33, none⟩)) rfl rfl (by kernel_rfl) (by kernel_rfl) (by kernel_rfl) (fun _ _ _ h => h) (Or.inl ⟨by rfl, by intro W hW; clear hW; go_simp⟩) hd.out ?_
      simp only [List.setIfInBounds_toArray, List.set_cons_zero, List.set_cons_succ]
      refine takeD (i := 10) (d := 83) (v := .pointer (some ⟨ba, oa + i * 33 + 1, none⟩)) rfl rfl (by kernel_rfl) (by kernel_rfl) (by kernel_rfl) (fun _ _ _ h => h) (Or.inl ⟨by rfl, by intro W hW; clear hW; go_simp⟩) hd.out ?_
      simp only [List.setIfInBounds_toArray, List.set_cons_zero, List.set_cons_succ]
      refine takeD (i := 11) (d := 84) rfl rfl (by kernel_rfl) (by kernel_rfl) (by kernel_rfl) (fun _ _ _ h => h) (yieldsIf_load_mid (by rfl) 35 _ rfl ba (oa + i * 33 + 1) rfl (encKy x.2) _ hrXk.out Try.underlying35 rfl (by rw [l32.out]; exact hi32.out)) hd.out ?_
      simp only [List.setIfInBounds_toArray, List.set_cons_zero, List.set_cons_succ]
      refine takeD (i := 12) (d := 85) (v := .pointer (some ⟨M, 3, none⟩)) rfl rfl (by kernel_rfl) (by kernel_rfl) (by kernel_rfl) (fun _ _ _ h => h) (Or.inl ⟨by rfl, by intro W hW; clear hW; go_simp⟩) hd.out ?_
      simp only [List.setIfInBounds_toArray, List.set_cons_zero, List.set_cons_succ]
      refine takeD (i := 13) (d := 86) rfl rfl (by kernel_rfl) (by kernel_rfl) (by kernel_rfl) (fun _ _ _ h => h) (yieldsIf_load_mid (by rfl) 35 _ rfl M 3 rfl (encKy t.old) _ hrO.out Try.underlying35 rfl (by rw [l32.out]; exact hi32.out)) hd.out ?_
      simp only [List.setIfInBounds_toArray, List.set_cons_zero, List.set_cons_succ]
      refine takeD (i := 14) (d := 87) (v := .bool false) rfl rfl (by kernel_rfl) (by kernel_rfl) (by kernel_rfl) (fun _ _ _ h => h) (Or.inl ⟨by rfl, by intro W hW; clear hW; go_simp⟩) hd.out ?_
      simp only [List.setIfInBounds_toArray, List.set_cons_zero, List.set_cons_succ]
      refine takeD (i := 15) (d := 88) (v := .bool false) rfl rfl (by kernel_rfl) (by kernel_rfl) (by kernel_rfl) (fun _ _ _ h => h) (Or.inl ⟨by rfl, by intro W hW; clear hW; go_simp⟩) hd.out ?_
      simp only [List.setIfInBounds_toArray, List.set_cons_zero, List.set_cons_succ]
      refine takeD (i := 16) (d := 89) (v := .bool false) rfl rfl (by kernel_rfl) (by kernel_rfl) (by kernel_rfl) (fun _ _ _ h => h) (Or.inl ⟨by rfl, by intro W hW; clear hW; go_simp⟩) hd.out ?_
      simp only [List.setIfInBounds_toArray, List.set_cons_zero, List.set_cons_succ]
      refine takeD (i := 17) (d := 90) (v := .bool false) rfl rfl (by kernel_rfl) (by kernel_rfl) (by kernel_rfl) (fun _ _ _ h => h) (Or.inl ⟨by rfl, by intro W hW; clear hW; go_simp⟩) hd.out ?_
      simp only [List.setIfInBounds_toArray, List.set_cons_zero, List.set_cons_succ]
      refine takeD (i := 18) (d := 91) (v := .pointer (some ⟨M, 1, none⟩)) rfl rfl (by kernel_rfl) (by kernel_rfl) (by kernel_rfl) (fun _ _ _ h => h) (Or.inl ⟨by rfl, by intro W hW; clear hW; go_simp⟩) hd.out ?_
      simp only [List.setIfInBounds_toArray, List.set_cons_zero, List.set_cons_succ]
      refine takeD (i := 19) (d := 92) (v := .bool true) rfl rfl (by kernel_rfl) (by kernel_rfl) (by kernel_rfl) (fun _ _ _ h => h) (Or.inl ⟨by rfl, by intro W hW; have cc := hcH.out W hW; clear hW; go_simp⟩) hd.out ?_
      simp only [List.setIfInBounds_toArray, List.set_cons_zero, List.set_cons_succ]
      refine takeD (i := 20) (d := 93) (v := .bool false) rfl rfl (by kernel_rfl) (by kernel_rfl) (by kernel_rfl) (fun _ _ _ h => h) (Or.inl ⟨by rfl, by intro W hW; clear hW; go_simp⟩) hd.out ?_
      simp only [List.setIfInBounds_toArray, List.set_cons_zero, List.set_cons_succ]
      refine takeD (i := 21) (d := 94) (v := .bool false) rfl rfl (by kernel_rfl) (by kernel_rfl) (by kernel_rfl) (fun _ _ _ h => h) (Or.inl ⟨by rfl, by intro W hW; clear hW; go_simp⟩) hd.out ?_
      simp only [List.setIfInBounds_toArray, List.set_cons_zero, List.set_cons_succ]
      refine takeD (i := 22) (d := 95) (v := undef) rfl rfl (by kernel_rfl) (by kernel_rfl) (by kernel_rfl) (fun _ _ _ h => h) (Or.inr ⟨by rfl, rfl⟩) hd.out ?_
      simp only [List.setIfInBounds_toArray, List.set_cons_zero, List.set_cons_succ]
      refine takeD (i := 23) (d := 96) (v := undef) rfl rfl (by kernel_rfl) (by kernel_rfl) (by kernel_rfl) (fun _ _ _ h => h) (Or.inr ⟨by rfl, rfl⟩) hd.out ?_
      simp only [List.setIfInBounds_toArray, List.set_cons_zero, List.set_cons_succ]
      refine takeD (i := 24) (d := 97) (v := undef) rfl rfl (by kernel_rfl) (by kernel_rfl) (by kernel_rfl) (fun _ _ _ h => h) (Or.inr ⟨by rfl, rfl⟩) hd.out ?_
      simp only [List.setIfInBounds_toArray, List.set_cons_zero, List.set_cons_succ]
      refine takeD (i := 25) (d := 98) (v := .bool false) rfl rfl (by kernel_rfl) (by kernel_rfl) (by kernel_rfl) (fun _ _ _ h => h) (Or.inl ⟨by rfl, by intro W hW; clear hW; go_simp⟩) hd.out ?_
      simp only [List.setIfInBounds_toArray, List.set_cons_zero, List.set_cons_succ]
      refine takeD (i := 26) (d := 99) (v := .bool false) rfl rfl (by kernel_rfl) (by kernel_rfl) (by kernel_rfl) (fun _ _ _ h => h) (Or.inl ⟨by rfl, by intro W hW; clear hW; go_simp⟩) hd.out ?_
      simp only [List.setIfInBounds_toArray, List.set_cons_zero, List.set_cons_succ]
      refine takeD (i := 27) (d := 100) (v := .bool false) rfl rfl (by kernel_rfl) (by kernel_rfl) (by kernel_rfl) (fun _ _ _ h => h) (Or.inl ⟨by rfl, by intro W hW; clear hW; go_simp⟩) hd.out ?_
      simp only [List.setIfInBounds_toArray, List.set_cons_zero, List.set_cons_succ]
      refine takeD (i := 28) (d := 101) (v := .pointer (some ⟨M, 1, none⟩)) rfl rfl (by kernel_rfl) (by kernel_rfl) (by kernel_rfl) (fun _ _ _ h => h) (Or.inl ⟨by rfl, by intro W hW; clear hW; go_simp⟩) hd.out ?_
      simp only [List.setIfInBounds_toArray, List.set_cons_zero, List.set_cons_succ]
      refine takeD (i := 29) (d := 102) (v := .bool true) rfl rfl (by kernel_rfl) (by kernel_rfl) (by kernel_rfl) (fun _ _ _ h => h) (Or.inl ⟨by rfl, by intro W hW; have cc := hcH.out W hW; clear hW; go_simp⟩) hd.out ?_
      simp only [List.setIfInBounds_toArray, List.set_cons_zero, List.set_cons_succ]
      refine takeD (i := 30) (d := 103) (v := .bool true) rfl rfl (by kernel_rfl) (by kernel_rfl) (by kernel_rfl) (fun _ _ _ h => h) (Or.inl ⟨by rfl, by intro W hW; clear hW; go_simp⟩) hd.out ?_
      simp only [List.setIfInBounds_toArray, List.set_cons_zero, List.set_cons_succ]
      refine takeD (i := 31) (d := 104) (v := .pointer (some ⟨M, 2, none⟩)) rfl rfl (by kernel_rfl) (by kernel_rfl) (by kernel_rfl) (fun _ _ _ h => h) (Or.inl ⟨by rfl, by intro W hW; clear hW; go_simp⟩) hd.out ?_
      simp only [List.setIfInBounds_toArray, List.set_cons_zero, List.set_cons_succ]
      refine takeD (i := 32) (d := 105) (v := .bool false) rfl rfl (by kernel_rfl) (by kernel_rfl) (by kernel_rfl) (fun _ _ _ h => h) (Or.inl ⟨by rfl, by intro W hW; have cc := hcS.out W hW; clear hW; go_simp⟩) hd.out ?_
      simp only [List.setIfInBounds_toArray, List.set_cons_zero, List.set_cons_succ]
      refine takeD (i := 33) (d := 106) (v := .bool false) rfl rfl (by kernel_rfl) (by kernel_rfl) (by kernel_rfl) (fun _ _ _ h => h) (Or.inl ⟨by rfl, by intro W hW; clear hW; go_simp⟩) hd.out ?_
      simp only [List.setIfInBounds_toArray, List.set_cons_zero, List.set_cons_succ]
      refine takeD (i := 34) (d := 107) (v := .bool false) rfl rfl (by kernel_rfl) (by kernel_rfl) (by kernel_rfl) (fun _ _ _ h => h) (Or.inl ⟨by rfl, by intro W hW; clear hW; go_simp⟩) hd.out ?_
      simp only [List.setIfInBounds_toArray, List.set_cons_zero, List.set_cons_succ]
      refine takeD (i := 35) (d := 108) (v := undef) rfl rfl (by kernel_rfl) (by kernel_rfl) (by kernel_rfl) (fun _ _ _ h => h) (Or.inr ⟨by rfl, rfl⟩) hd.out ?_
      simp only [List.setIfInBounds_toArray, List.set_cons_zero, List.set_cons_succ]
      refine takeD (i := 36) (d := 109) (v := undef) rfl rfl (by kernel_rfl) (by kernel_rfl) (by kernel_rfl) (fun _ _ _ h => h) (Or.inr ⟨by rfl, rfl⟩) hd.out ?_
      simp only [List.setIfInBounds_toArray, List.set_cons_zero, List.set_cons_succ]
      refine takeD (i := 37) (d := 110) (v := undef) rfl rfl (by kernel_rfl) (by kernel_rfl) (by kernel_rfl) (fun _ _ _ h => h) (Or.inr ⟨by rfl, rfl⟩) hd.out ?_
      simp only [List.setIfInBounds_toArray, List.set_cons_zero, List.set_cons_succ]
      refine takeD (i := 38) (d := 111) (v := undef) rfl rfl (by kernel_rfl) (by kernel_rfl) (by kernel_rfl) (fun _ _ _ h => h) (Or.inr ⟨by rfl, rfl⟩) hd.out ?_
      simp only [List.setIfInBounds_toArray, List.set_cons_zero, List.set_cons_succ]
      refine takeD (i := 39) (d := 112) (v := undef) rfl rfl (by kernel_rfl) (by kernel_rfl) (by kernel_rfl) (fun _ _ _ h => h) (Or.inr ⟨by rfl, rfl⟩) hd.out ?_
      simp only [List.setIfInBounds_toArray, List.set_cons_zero, List.set_cons_succ]
      refine takeD (i := 40) (d := 113) (v := .bool false) rfl rfl (by kernel_rfl) (by kernel_rfl) (by kernel_rfl) (fun _ _ _ h => h) (Or.inl ⟨by rfl, by intro W hW; clear hW; go_simp⟩) hd.out ?_
      simp only [List.setIfInBounds_toArray, List.set_cons_zero, List.set_cons_succ]
      refine takeD (i := 41) (d := 114) (v := .bool false) rfl rfl (by kernel_rfl) (by kernel_rfl) (by kernel_rfl) (fun _ _ _ h => h) (Or.inl ⟨by rfl, by intro W hW; clear hW; go_simp⟩) hd.out ?_
      simp only [List.setIfInBounds_toArray, List.set_cons_zero, List.set_cons_succ]
      refine wpAnyH_done (by kernel_rfl) ?_ _
      obtain ⟨w8, hw8⟩ : ∃ w8, World.drew w7 = w8 := ⟨_, rfl⟩
      have hb8 : Hid (Below w7.heap.size w7 w8) := Lib.hid (by rw [← hw8]; exact below_drewN (Below.refl _ _) 1)
      rw [hw8]
      clear hw8 hneK hguK
      have hTA8 := Lib.hid ((hTA7.out).below hb8.out hM7.out)
      have hbe := Lib.hid (hbq.out.trans ((hb7.out.trans (hb8.out.mono hb7.out.size)).mono hbq.out.size))
      have dH : w8.cell? ⟨M, 1, none⟩ = some (.bool true) := hTA8.out.hd.trans (by rw [htH.out])
      have dS : w8.cell? ⟨M, 2, none⟩ = some (.bool false) := hTA8.out.hs.trans (by rw [htS.out])
      have dN : w8.cell? ⟨M, 0, none⟩ = some (.string t.name) := hTA8.out.nm
      go_wp2_with fail
      go_roundw
      case rel => exact ⟨i + 1, j + 1, S, b2, by omega, by omega, rfl, by go_num, by go_num, hS, hM2, Lib.hid (hB.out.trans (hbe.out.mono hB.out.size))⟩
      case measure => simp [intOf]; omega
    · have hy32 : y.1.size ≤ 32 := by
        obtain ⟨bp, e3, _⟩ := hS.out
        exact (hok2.out.2 y (by rw [← e3, e2]; simp)).2.1
      obtain ⟨t, hteq⟩ : ∃ t, tOn y = t := ⟨_, rfl⟩
      have htN : t.name = y.1 := by rw [← hteq]; rfl
      have htH : Hid (t.had = false) := Lib.hid (by rw [← hteq]; rfl)
      have htS : Hid (t.has = true) := Lib.hid (by rw [← hteq]; rfl)
      have htO : Hid (t.old = kZ) := Lib.hid (by rw [← hteq]; rfl)
      have htW : Hid (t.new = y.2) := Lib.hid (by rw [← hteq]; rfl)
      rw [hteq] at em
      have ed : d.drop j = t :: mergeQ (a.drop i) b3 := by rw [← hM.out, em]
      obtain ⟨ht, hdt, hjlt0⟩ := drop_cons ed
      have hjlt : j < n2 := by have := hl2.out; omega
      obtain ⟨bd, od, rfl, hbd, hrgd⟩ := RowT.range (Rd.below hRd'.out hB.out) ht
      have hrT : Hid (∀ W, Below wr.heap.size wr W → W.rangeAt bd (od + j * 67) (encT t)) := Lib.hid fun W hW => range_below (Nat.lt_of_lt_of_le hbd hB.out.size) hrgd hW
      have hcT : Hid (∀ W, Below wr.heap.size wr W → W.cell? ⟨bd, od + j * 67, none⟩ = some (.string t.name)) := Lib.hid fun W hW => by simpa using hrT.out W hW 0 _ (show (encT t)[0]? = some (.string t.name) from rfl)
      have gj : (j : Int) < (n2 : Int) := by omega
      have g0j : (0 : Int) ≤ (j : Int) := by omega
      have gje : ((j : Int) == (n2 : Int)) = false := by simp; omega
      have hje := Lib.hid (show ¬ j = n2 by omega)
      clear hrgd hbd
      have hM2 : Hid (mergeQ (a.drop i) b3 = d.drop (j + 1)) := Lib.hid (by rw [hdt])
      have hyt : Hid ((t.name, t.new) = y) := Lib.hid (by rw [htN, htW.out])
      have hSn2 := Lib.hid (hSn.out _ _ e2)
      have hsb : ¬ 9223372036854775807 < S.size + (rootS y).size := by
        have h1 := hsS.out _ _ e2
        rw [rootS_size]
        omega
      have hrt : Hid (∀ W, Calls Try.prog 27 #[.agg (encR (t.name, t.new)).toArray] W fun e w' => e = .returned (.string (rootS y)) ∧ Below W.heap.size W w') := Lib.hid fun W => by
        have := root_any W y (by omega)
        rwa [← hyt.out] at this ⊢
      obtain ⟨T, hT⟩ : ∃ T, Hid (∀ _ : Unit, rootS y = T) := ⟨_, Lib.hid fun _ => rfl⟩
      rw [hT.out ()] at hrt hsb hSn2
      rcases hab with e1 | ⟨x, a2, e1, hyx⟩
      · have hin : i = n1 := by have := List.drop_eq_nil_iff.1 e1; have := hl1.out; omega
        have gi : ¬ ((i : Int) < (n1 : Int)) := by omega
        have hig := Lib.hid (show n1 ≤ i by omega)
        clear hin e1 e2 em hteq ed ht hdt hjlt0 hrb htN
        go_wp2_with fail
        have hd : Hid (Below wr.heap.size wr (World.drew wr)) := Lib.hid (below_drewN (Below.refl _ _) 1)
        refine wp_region_held (S := fun W => Below wr.heap.size wr W) (by kernel_rfl) ?_
        change wpAnyH _ _ _ _ _ _ _ _ (World.drew _)
        refine takeD (i := 0) (d := 21) (v := .int .i64 (j : Int)) rfl rfl (by kernel_rfl) (by kernel_rfl) (by kernel_rfl) (fun _ _ _ h => h) (Or.inl ⟨by rfl, by intro W hW; clear hW; go_simp⟩) hd.out ?_
        simp only [List.setIfInBounds_toArray, List.set_cons_zero, List.set_cons_succ]
        refine takeD (i := 1) (d := 22) (v := .slice (some ⟨bd, od, none⟩) n2 c2) rfl rfl (by kernel_rfl) (by kernel_rfl) (by kernel_rfl) (fun _ _ _ h => h) (Or.inl ⟨by rfl, by intro W hW; clear hW; go_simp⟩) hd.out ?_
        simp only [List.setIfInBounds_toArray, List.set_cons_zero, List.set_cons_succ]
        refine takeD (i := 2) (d := 23) (v := .int .i64 (n2 : Int)) rfl rfl (by kernel_rfl) (by kernel_rfl) (by kernel_rfl) (fun _ _ _ h => h) (Or.inl ⟨by rfl, by intro W hW; clear hW; go_simp⟩) hd.out ?_
        simp only [List.setIfInBounds_toArray, List.set_cons_zero, List.set_cons_succ]
        refine takeD (i := 3) (d := 24) (v := .bool false) rfl rfl (by kernel_rfl) (by kernel_rfl) (by kernel_rfl) (fun _ _ _ h => h) (Or.inl ⟨by rfl, by intro W hW; have hh := hje.out; clear hW; go_simp⟩) hd.out ?_
        simp only [List.setIfInBounds_toArray, List.set_cons_zero, List.set_cons_succ]
        refine takeD (i := 4) (d := 25) (v := .bool false) rfl rfl (by kernel_rfl) (by kernel_rfl) (by kernel_rfl) (fun _ _ _ h => h) (Or.inl ⟨by rfl, by intro W hW; clear hW; go_simp⟩) hd.out ?_
        simp only [List.setIfInBounds_toArray, List.set_cons_zero, List.set_cons_succ]
        refine takeD (i := 5) (d := 26) (v := .int .i64 (i : Int)) rfl rfl (by kernel_rfl) (by kernel_rfl) (by kernel_rfl) (fun _ _ _ h => h) (Or.inl ⟨by rfl, by intro W hW; clear hW; go_simp⟩) hd.out ?_
        simp only [List.setIfInBounds_toArray, List.set_cons_zero, List.set_cons_succ]
        refine takeD (i := 6) (d := 27) (v := .slice A1 n1 c1) rfl rfl (by kernel_rfl) (by kernel_rfl) (by kernel_rfl) (fun _ _ _ h => h) (Or.inl ⟨by rfl, by intro W hW; clear hW; go_simp⟩) hd.out ?_
        simp only [List.setIfInBounds_toArray, List.set_cons_zero, List.set_cons_succ]
        refine takeD (i := 7) (d := 28) (v := .int .i64 (n1 : Int)) rfl rfl (by kernel_rfl) (by kernel_rfl) (by kernel_rfl) (fun _ _ _ h => h) (Or.inl ⟨by rfl, by intro W hW; clear hW; go_simp⟩) hd.out ?_
        simp only [List.setIfInBounds_toArray, List.set_cons_zero, List.set_cons_succ]
        refine takeD (i := 8) (d := 29) (v := .bool false) rfl rfl (by kernel_rfl) (by kernel_rfl) (by kernel_rfl) (fun _ _ _ h => h) (Or.inl ⟨by rfl, by intro W hW; have hh := hig.out; clear hW; go_simp⟩) hd.out ?_
        simp only [List.setIfInBounds_toArray, List.set_cons_zero, List.set_cons_succ]
        refine takeD (i := 9) (d := 30) (v := .bool false) rfl rfl (by kernel_rfl) (by kernel_rfl) (by kernel_rfl) (fun _ _ _ h => h) (Or.inl ⟨by rfl, by intro W hW; clear hW; go_simp⟩) hd.out ?_
        simp only [List.setIfInBounds_toArray, List.set_cons_zero, List.set_cons_succ]
        refine takeD (i := 10) (d := 31) (v := undef) rfl rfl (by kernel_rfl) (by kernel_rfl) (by kernel_rfl) (fun _ _ _ h => h) (Or.inr ⟨by rfl, rfl⟩) hd.out ?_
        simp only [List.setIfInBounds_toArray, List.set_cons_zero, List.set_cons_succ]
        refine takeD (i := 11) (d := 32) (v := undef) rfl rfl (by kernel_rfl) (by kernel_rfl) (by kernel_rfl) (fun _ _ _ h => h) (Or.inr ⟨by rfl, rfl⟩) hd.out ?_
        simp only [List.setIfInBounds_toArray, List.set_cons_zero, List.set_cons_succ]
        refine takeD (i := 12) (d := 33) (v := undef) rfl rfl (by kernel_rfl) (by kernel_rfl) (by kernel_rfl) (fun _ _ _ h => h) (Or.inr ⟨by rfl, rfl⟩) hd.out ?_
        simp only [List.setIfInBounds_toArray, List.set_cons_zero, List.set_cons_succ]
        refine takeD (i := 13) (d := 34) (v := undef) rfl rfl (by kernel_rfl) (by kernel_rfl) (by kernel_rfl) (fun _ _ _ h => h) (Or.inr ⟨by rfl, rfl⟩) hd.out ?_
        simp only [List.setIfInBounds_toArray, List.set_cons_zero, List.set_cons_succ]
        refine takeD (i := 14) (d := 35) (v := undef) rfl rfl (by kernel_rfl) (by kernel_rfl) (by kernel_rfl) (fun _ _ _ h => h) (Or.inr ⟨by rfl, rfl⟩) hd.out ?_
        simp only [List.setIfInBounds_toArray, List.set_cons_zero, List.set_cons_succ]
        refine takeD (i := 15) (d := 36) (v := undef) rfl rfl (by kernel_rfl) (by kernel_rfl) (by kernel_rfl) (fun _ _ _ h => h) (Or.inr ⟨by rfl, rfl⟩) hd.out ?_
        simp only [List.setIfInBounds_toArray, List.set_cons_zero, List.set_cons_succ]
        refine takeD (i := 16) (d := 37) (v := undef) rfl rfl (by kernel_rfl) (by kernel_rfl) (by kernel_rfl) (fun _ _ _ h => h) (Or.inr ⟨by rfl, rfl⟩) hd.out ?_
        simp only [List.setIfInBounds_toArray, List.set_cons_zero, List.set_cons_succ]
        refine takeD (i := 17) (d := 38) (v := undef) rfl rfl (by kernel_rfl) (by kernel_rfl) (by kernel_rfl) (fun _ _ _ h => h) (Or.inr ⟨by rfl, rfl⟩) hd.out ?_
        simp only [List.setIfInBounds_toArray, List.set_cons_zero, List.set_cons_succ]
        refine takeD (i := 18) (d := 39) (v := undef) rfl rfl (by kernel_rfl) (by kernel_rfl) (by kernel_rfl) (fun _ _ _ h => h) (Or.inr ⟨by rfl, rfl⟩) hd.out ?_
        simp only [List.setIfInBounds_toArray, List.set_cons_zero, List.set_cons_succ]
        refine takeD (i := 19) (d := 40) (v := undef) rfl rfl (by kernel_rfl) (by kernel_rfl) (by kernel_rfl) (fun _ _ _ h => h) (Or.inr ⟨by rfl, rfl⟩) hd.out ?_
        simp only [List.setIfInBounds_toArray, List.set_cons_zero, List.set_cons_succ]
        refine takeD (i := 20) (d := 41) (v := undef) rfl rfl (by kernel_rfl) (by kernel_rfl) (by kernel_rfl) (fun _ _ _ h => h) (Or.inr ⟨by rfl, rfl⟩) hd.out ?_
        simp only [List.setIfInBounds_toArray, List.set_cons_zero, List.set_cons_succ]
        refine takeD (i := 21) (d := 42) (v := .bool false) rfl rfl (by kernel_rfl) (by kernel_rfl) (by kernel_rfl) (fun _ _ _ h => h) (Or.inl ⟨by rfl, by intro W hW; clear hW; go_simp⟩) hd.out ?_
        simp only [List.setIfInBounds_toArray, List.set_cons_zero, List.set_cons_succ]
        refine takeD (i := 22) (d := 43) (v := .bool false) rfl rfl (by kernel_rfl) (by kernel_rfl) (by kernel_rfl) (fun _ _ _ h => h) (Or.inl ⟨by rfl, by intro W hW; clear hW; go_simp⟩) hd.out ?_
        simp only [List.setIfInBounds_toArray, List.set_cons_zero, List.set_cons_succ]
        refine wpAnyH_done (by kernel_rfl) ?_ _
        obtain ⟨w5, hw5⟩ : ∃ w5, World.drew wr = w5 := ⟨_, rfl⟩
        have hb5 : Hid (Below wr.heap.size wr w5) := Lib.hid (by rw [← hw5]; exact below_drewN (Below.refl _ _) 1)
        rw [hw5]
        clear hw5
        go_wp2_with (first
          | (refine wpList_load_mid rfl 55 _ rfl bd (od + j * 67) rfl (encT t) _ (hrT.out _ hb5.out) Try.underlying55 rfl (by rw [l67.out]; exact hi67.out) ?_)
          | (refine wpList_store_mid rfl 55 _ _ rfl w5.heap.size 0 (encT t).toArray rfl rfl (by rw [a67.out]; exact (TA.new w5 zT).there) (by rw [a67.out]; exact hi67.out) (oneT.out _) ?_
             rw [List.toList_toArray]
             obtain ⟨wq, hwq⟩ : ∃ wq, (w5.alloc (.cells (encT zT).toArray 55)).setCells w5.heap.size 0 (encT t) = wq := ⟨_, rfl⟩
             obtain ⟨M, hM0⟩ : ∃ M, w5.heap.size = M := ⟨_, rfl⟩
             have hbq : Hid (Below wr.heap.size wr wq) := Lib.hid (by rw [← hwq]; exact hb5.out.trans ((belTA (Nat.le_refl _) _ _ _ ((Below.refl _ _).alloc (Nat.le_refl _) _)).mono hb5.out.size))
             have hTA : Hid (TA wq M t) := Lib.hid (by rw [← hwq, ← hM0]; exact (TA.new w5 zT).all t)
             have hMq : Hid (M < wq.heap.size) := Lib.hid (by rw [← hwq, ← hM0, setCells_heap_size]; simp)
             rw [hwq, hM0]
             clear hwq hM0))
        have hd : Hid (Below wq.heap.size wq (World.drew wq)) := Lib.hid (below_drewN (Below.refl _ _) 1)
        refine wp_region_held (S := fun W => Below wq.heap.size wq W) (by kernel_rfl) ?_
        change wpAnyH _ _ _ _ _ _ _ _ (World.drew _)
        refine takeD (i := 0) (d := 59) (v := .int .i64 (i : Int)) rfl rfl (by kernel_rfl) (by kernel_rfl) (by kernel_rfl) (fun _ _ _ h => h) (Or.inl ⟨by rfl, by intro W hW; clear hW; go_simp⟩) hd.out ?_
        simp only [List.setIfInBounds_toArray, List.set_cons_zero, List.set_cons_succ]
        refine takeD (i := 1) (d := 60) (v := .slice A1 n1 c1) rfl rfl (by kernel_rfl) (by kernel_rfl) (by kernel_rfl) (fun _ _ _ h => h) (Or.inl ⟨by rfl, by intro W hW; clear hW; go_simp⟩) hd.out ?_
        simp only [List.setIfInBounds_toArray, List.set_cons_zero, List.set_cons_succ]
        refine takeD (i := 2) (d := 61) (v := .int .i64 (n1 : Int)) rfl rfl (by kernel_rfl) (by kernel_rfl) (by kernel_rfl) (fun _ _ _ h => h) (Or.inl ⟨by rfl, by intro W hW; clear hW; go_simp⟩) hd.out ?_
        simp only [List.setIfInBounds_toArray, List.set_cons_zero, List.set_cons_succ]
        refine takeD (i := 3) (d := 62) (v := .bool false) rfl rfl (by kernel_rfl) (by kernel_rfl) (by kernel_rfl) (fun _ _ _ h => h) (Or.inl ⟨by rfl, by intro W hW; have hh := hig.out; clear hW; go_simp⟩) hd.out ?_
        simp only [List.setIfInBounds_toArray, List.set_cons_zero, List.set_cons_succ]
        refine takeD (i := 4) (d := 63) (v := .bool false) rfl rfl (by kernel_rfl) (by kernel_rfl) (by kernel_rfl) (fun _ _ _ h => h) (Or.inl ⟨by rfl, by intro W hW; clear hW; go_simp⟩) hd.out ?_
        simp only [List.setIfInBounds_toArray, List.set_cons_zero, List.set_cons_succ]
        refine takeD (i := 5) (d := 64) (v := undef) rfl rfl (by kernel_rfl) (by kernel_rfl) (by kernel_rfl) (fun _ _ _ h => h) (Or.inr ⟨by rfl, rfl⟩) hd.out ?_
        simp only [List.setIfInBounds_toArray, List.set_cons_zero, List.set_cons_succ]
        refine takeD (i := 6) (d := 65) (v := undef) rfl rfl (by kernel_rfl) (by kernel_rfl) (by kernel_rfl) (fun _ _ _ h => h) (Or.inr ⟨by rfl, rfl⟩) hd.out ?_
        simp only [List.setIfInBounds_toArray, List.set_cons_zero, List.set_cons_succ]
        refine takeD (i := 7) (d := 66) (v := undef) rfl rfl (by kernel_rfl) (by kernel_rfl) (by kernel_rfl) (fun _ _ _ h => h) (Or.inr ⟨by rfl, rfl⟩) hd.out ?_
        simp only [List.setIfInBounds_toArray, List.set_cons_zero, List.set_cons_succ]
        refine takeD (i := 8) (d := 67) (v := undef) rfl rfl (by kernel_rfl) (by kernel_rfl) (by kernel_rfl) (fun _ _ _ h => h) (Or.inr ⟨by rfl, rfl⟩) hd.out ?_
        simp only [List.setIfInBounds_toArray, List.set_cons_zero, List.set_cons_succ]
        refine takeD (i := 9) (d := 68) (v := undef) rfl rfl (by kernel_rfl) (by kernel_rfl) (by kernel_rfl) (fun _ _ _ h => h) (Or.inr ⟨by rfl, rfl⟩) hd.out ?_
        simp only [List.setIfInBounds_toArray, List.set_cons_zero, List.set_cons_succ]
        refine takeD (i := 10) (d := 69) (v := undef) rfl rfl (by kernel_rfl) (by kernel_rfl) (by kernel_rfl) (fun _ _ _ h => h) (Or.inr ⟨by rfl, rfl⟩) hd.out ?_
        simp only [List.setIfInBounds_toArray, List.set_cons_zero, List.set_cons_succ]
        refine takeD (i := 11) (d := 70) (v := undef) rfl rfl (by kernel_rfl) (by kernel_rfl) (by kernel_rfl) (fun _ _ _ h => h) (Or.inr ⟨by rfl, rfl⟩) hd.out ?_
        simp only [List.setIfInBounds_toArray, List.set_cons_zero, List.set_cons_succ]
        refine takeD (i := 12) (d := 71) (v := undef) rfl rfl (by kernel_rfl) (by kernel_rfl) (by kernel_rfl) (fun _ _ _ h => h) (Or.inr ⟨by rfl, rfl⟩) hd.out ?_
        simp only [List.setIfInBounds_toArray, List.set_cons_zero, List.set_cons_succ]
        refine takeD (i := 13) (d := 72) (v := .bool false) rfl rfl (by kernel_rfl) (by kernel_rfl) (by kernel_rfl) (fun _ _ _ h => h) (Or.inl ⟨by rfl, by intro W hW; clear hW; go_simp⟩) hd.out ?_
        simp only [List.setIfInBounds_toArray, List.set_cons_zero, List.set_cons_succ]
        refine takeD (i := 14) (d := 10) (v := .bool false) rfl rfl (by kernel_rfl) (by kernel_rfl) (by kernel_rfl) (fun _ _ _ h => h) (Or.inl ⟨by rfl, by intro W hW; clear hW; go_simp⟩) hd.out ?_
        simp only [List.setIfInBounds_toArray, List.set_cons_zero, List.set_cons_succ]
        refine wpAnyH_done (by kernel_rfl) ?_ _
        obtain ⟨w7, hw7⟩ : ∃ w7, World.drew wq = w7 := ⟨_, rfl⟩
        have hb7 : Hid (Below wq.heap.size wq w7) := Lib.hid (by rw [← hw7]; exact below_drewN (Below.refl _ _) 1)
        rw [hw7]
        clear hw7
        go_wp2_with fail
        have hM7 : Hid (M < w7.heap.size) := Lib.hid (Nat.lt_of_lt_of_le hMq.out hb7.out.size)
        have hTA7 := Lib.hid (hTA.out.below hb7.out hMq.out)
        have hb07 := Lib.hid (hbq.out.trans (hb7.out.mono hbq.out.size))
        have hrO : Hid (∀ W, Below w7.heap.size w7 W → W.rangeAt M 3 (encKy t.old)) := Lib.hid fun W hW => (hTA7.out.below hW hM7.out).old
        have hrN : Hid (∀ W, Below w7.heap.size w7 W → W.rangeAt M 35 (encKy t.new)) := Lib.hid fun W hW => (hTA7.out.below hW hM7.out).new_
        have hcH : Hid (∀ W, Below w7.heap.size w7 W → W.cell? ⟨M, 1, none⟩ = some (.bool false)) := Lib.hid fun W hW => (hTA7.out.below hW hM7.out).hd.trans (by rw [htH.out])
        have hcS : Hid (∀ W, Below w7.heap.size w7 W → W.cell? ⟨M, 2, none⟩ = some (.bool true)) := Lib.hid fun W hW => (hTA7.out.below hW hM7.out).hs.trans (by rw [htS.out])
        have hneK := neKy
        have hguK := guKy
        have hd : Hid (Below w7.heap.size w7 (World.drew w7)) := Lib.hid (below_drewN (Below.refl _ _) 1)
        refine wp_region_held (S := fun W => Below w7.heap.size w7 W) (by kernel_rfl) ?_
        change wpAnyH _ _ _ _ _ _ _ _ (World.drew _)
        refine takeD (i := 0) (d := 73) (v := .bool false) rfl rfl (by kernel_rfl) (by kernel_rfl) (by kernel_rfl) (fun _ _ _ h => h) (Or.inl ⟨by rfl, by intro W hW; clear hW; go_simp⟩) hd.out ?_
        simp only [List.setIfInBounds_toArray, List.set_cons_zero, List.set_cons_succ]
        refine takeD (i := 1) (d := 74) (v := .pointer (some ⟨M, 1, none⟩)) rfl rfl (by kernel_rfl) (by kernel_rfl) (by kernel_rfl) (fun _ _ _ h => h) (Or.inl ⟨by rfl, by intro W hW; clear hW; go_simp⟩) hd.out ?_
        simp only [List.setIfInBounds_toArray, List.set_cons_zero, List.set_cons_succ]
        refine takeD (i := 2) (d := 75) (v := .bool false) rfl rfl (by kernel_rfl) (by kernel_rfl) (by kernel_rfl) (fun _ _ _ h => h) (Or.inl ⟨by rfl, by intro W hW; have cc := hcH.out W hW; clear hW; go_simp⟩) hd.out ?_
        simp only [List.setIfInBounds_toArray, List.set_cons_zero, List.set_cons_succ]
        refine takeD (i := 3) (d := 76) (v := .bool false) rfl rfl (by kernel_rfl) (by kernel_rfl) (by kernel_rfl) (fun _ _ _ h => h) (Or.inl ⟨by rfl, by intro W hW; clear hW; go_simp⟩) hd.out ?_
        simp only [List.setIfInBounds_toArray, List.set_cons_zero, List.set_cons_succ]
        refine takeD (i := 4) (d := 77) (v := .bool false) rfl rfl (by kernel_rfl) (by kernel_rfl) (by kernel_rfl) (fun _ _ _ h => h) (Or.inl ⟨by rfl, by intro W hW; clear hW; go_simp⟩) hd.out ?_
        simp only [List.setIfInBounds_toArray, List.set_cons_zero, List.set_cons_succ]
        refine takeD (i := 5) (d := 78) (v := .bool false) rfl rfl (by kernel_rfl) (by kernel_rfl) (by kernel_rfl) (fun _ _ _ h => h) (Or.inl ⟨by rfl, by intro W hW; clear hW; go_simp⟩) hd.out ?_
        simp only [List.setIfInBounds_toArray, List.set_cons_zero, List.set_cons_succ]
        refine takeD (i := 6) (d := 79) (v := .bool false) rfl rfl (by kernel_rfl) (by kernel_rfl) (by kernel_rfl) (fun _ _ _ h => h) (Or.inl ⟨by rfl, by intro W hW; clear hW; go_simp⟩) hd.out ?_
        simp only [List.setIfInBounds_toArray, List.set_cons_zero, List.set_cons_succ]
        refine takeD (i := 7) (d := 80) (v := undef) rfl rfl (by kernel_rfl) (by kernel_rfl) (by kernel_rfl) (fun _ _ _ h => h) (Or.inr ⟨by rfl, rfl⟩) hd.out ?_
        simp only [List.setIfInBounds_toArray, List.set_cons_zero, List.set_cons_succ]
        refine takeD (i := 8) (d := 81) (v := undef) rfl rfl (by kernel_rfl) (by kernel_rfl) (by kernel_rfl) (fun _ _ _ h => h) (Or.inr ⟨by rfl, rfl⟩) hd.out ?_
        simp only [List.setIfInBounds_toArray, List.set_cons_zero, List.set_cons_succ]
        refine takeD (i := 9) (d := 82) (v := undef) rfl rfl (by kernel_rfl) (by kernel_rfl) (by kernel_rfl) (fun _ _ _ h => h) (Or.inr ⟨by rfl, rfl⟩) hd.out ?_
        simp only [List.setIfInBounds_toArray, List.set_cons_zero, List.set_cons_succ]
        refine takeD (i := 10) (d := 83) (v := undef) rfl rfl (by kernel_rfl) (by kernel_rfl) (by kernel_rfl) (fun _ _ _ h => h) (Or.inr ⟨by rfl, rfl⟩) hd.out ?_
        simp only [List.setIfInBounds_toArray, List.set_cons_zero, List.set_cons_succ]
        refine takeD (i := 11) (d := 84) (v := undef) rfl rfl (by kernel_rfl) (by kernel_rfl) (by kernel_rfl) (fun _ _ _ h => h) (Or.inr ⟨by rfl, rfl⟩) hd.out ?_
        simp only [List.setIfInBounds_toArray, List.set_cons_zero, List.set_cons_succ]
        refine takeD (i := 12) (d := 85) (v := undef) rfl rfl (by kernel_rfl) (by kernel_rfl) (by kernel_rfl) (fun _ _ _ h => h) (Or.inr ⟨by rfl, rfl⟩) hd.out ?_
        simp only [List.setIfInBounds_toArray, List.set_cons_zero, List.set_cons_succ]
        refine takeD (i := 13) (d := 86) (v := undef) rfl rfl (by kernel_rfl) (by kernel_rfl) (by kernel_rfl) (fun _ _ _ h => h) (Or.inr ⟨by rfl, rfl⟩) hd.out ?_
        simp only [List.setIfInBounds_toArray, List.set_cons_zero, List.set_cons_succ]
        refine takeD (i := 14) (d := 87) (v := undef) rfl rfl (by kernel_rfl) (by kernel_rfl) (by kernel_rfl) (fun _ _ _ h => h) (Or.inr ⟨by rfl, rfl⟩) hd.out ?_
        simp only [List.setIfInBounds_toArray, List.set_cons_zero, List.set_cons_succ]
        refine takeD (i := 15) (d := 88) (v := .bool false) rfl rfl (by kernel_rfl) (by kernel_rfl) (by kernel_rfl) (fun _ _ _ h => h) (Or.inl ⟨by rfl, by intro W hW; clear hW; go_simp⟩) hd.out ?_
        simp only [List.setIfInBounds_toArray, List.set_cons_zero, List.set_cons_succ]
        refine takeD (i := 16) (d := 89) (v := .bool false) rfl rfl (by kernel_rfl) (by kernel_rfl) (by kernel_rfl) (fun _ _ _ h => h) (Or.inl ⟨by rfl, by intro W hW; clear hW; go_simp⟩) hd.out ?_
        simp only [List.setIfInBounds_toArray, List.set_cons_zero, List.set_cons_succ]
        refine takeD (i := 17) (d := 90) (v := .bool false) rfl rfl (by kernel_rfl) (by kernel_rfl) (by kernel_rfl) (fun _ _ _ h => h) (Or.inl ⟨by rfl, by intro W hW; clear hW; go_simp⟩) hd.out ?_
        simp only [List.setIfInBounds_toArray, List.set_cons_zero, List.set_cons_succ]
        refine takeD (i := 18) (d := 91) (v := .pointer (some ⟨M, 1, none⟩)) rfl rfl (by kernel_rfl) (by kernel_rfl) (by kernel_rfl) (fun _ _ _ h => h) (Or.inl ⟨by rfl, by intro W hW; clear hW; go_simp⟩) hd.out ?_
        simp only [List.setIfInBounds_toArray, List.set_cons_zero, List.set_cons_succ]
        refine takeD (i := 19) (d := 92) (v := .bool false) rfl rfl (by kernel_rfl) (by kernel_rfl) (by kernel_rfl) (fun _ _ _ h => h) (Or.inl ⟨by rfl, by intro W hW; have cc := hcH.out W hW; clear hW; go_simp⟩) hd.out ?_
        simp only [List.setIfInBounds_toArray, List.set_cons_zero, List.set_cons_succ]
        refine takeD (i := 20) (d := 93) (v := .bool true) rfl rfl (by kernel_rfl) (by kernel_rfl) (by kernel_rfl) (fun _ _ _ h => h) (Or.inl ⟨by rfl, by intro W hW; clear hW; go_simp⟩) hd.out ?_
        simp only [List.setIfInBounds_toArray, List.set_cons_zero, List.set_cons_succ]
        refine takeD (i := 21) (d := 94) (v := .bool true) rfl rfl (by kernel_rfl) (by kernel_rfl) (by kernel_rfl) (fun _ _ _ h => h) (Or.inl ⟨by rfl, by intro W hW; clear hW; go_simp⟩) hd.out ?_
        simp only [List.setIfInBounds_toArray, List.set_cons_zero, List.set_cons_succ]
        refine takeD (i := 22) (d := 95) (v := .pointer (some ⟨M, 2, none⟩)) rfl rfl (by kernel_rfl) (by kernel_rfl) (by kernel_rfl) (fun _ _ _ h => h) (Or.inl ⟨by rfl, by intro W hW; clear hW; go_simp⟩) hd.out ?_
        simp only [List.setIfInBounds_toArray, List.set_cons_zero, List.set_cons_succ]
        refine takeD (i := 23) (d := 96) (v := .bool true) rfl rfl (by kernel_rfl) (by kernel_rfl) (by kernel_rfl) (fun _ _ _ h => h) (Or.inl ⟨by rfl, by intro W hW; have cc := hcS.out W hW; clear hW; go_simp⟩) hd.out ?_
        simp only [List.setIfInBounds_toArray, List.set_cons_zero, List.set_cons_succ]
        refine takeD (i := 24) (d := 97) (v := .bool false) rfl rfl (by kernel_rfl) (by kernel_rfl) (by kernel_rfl) (fun _ _ _ h => h) (Or.inl ⟨by rfl, by intro W hW; clear hW; go_simp⟩) hd.out ?_
        simp only [List.setIfInBounds_toArray, List.set_cons_zero, List.set_cons_succ]
        refine takeD (i := 25) (d := 98) (v := .bool false) rfl rfl (by kernel_rfl) (by kernel_rfl) (by kernel_rfl) (fun _ _ _ h => h) (Or.inl ⟨by rfl, by intro W hW; clear hW; go_simp⟩) hd.out ?_
        simp only [List.setIfInBounds_toArray, List.set_cons_zero, List.set_cons_succ]
        refine takeD (i := 26) (d := 99) (v := .bool false) rfl rfl (by kernel_rfl) (by kernel_rfl) (by kernel_rfl) (fun _ _ _ h => h) (Or.inl ⟨by rfl, by intro W hW; clear hW; go_simp⟩) hd.out ?_
        simp only [List.setIfInBounds_toArray, List.set_cons_zero, List.set_cons_succ]
        refine takeD (i := 27) (d := 100) (v := .bool false) rfl rfl (by kernel_rfl) (by kernel_rfl) (by kernel_rfl) (fun _ _ _ h => h) (Or.inl ⟨by rfl, by intro W hW; clear hW; go_simp⟩) hd.out ?_
        simp only [List.setIfInBounds_toArray, List.set_cons_zero, List.set_cons_succ]
        refine takeD (i := 28) (d := 101) (v := .pointer (some ⟨M, 1, none⟩)) rfl rfl (by kernel_rfl) (by kernel_rfl) (by kernel_rfl) (fun _ _ _ h => h) (Or.inl ⟨by rfl, by intro W hW; clear hW; go_simp⟩) hd.out ?_
        simp only [List.setIfInBounds_toArray, List.set_cons_zero, List.set_cons_succ]
        refine takeD (i := 29) (d := 102) (v := .bool false) rfl rfl (by kernel_rfl) (by kernel_rfl) (by kernel_rfl) (fun _ _ _ h => h) (Or.inl ⟨by rfl, by intro W hW; have cc := hcH.out W hW; clear hW; go_simp⟩) hd.out ?_
        simp only [List.setIfInBounds_toArray, List.set_cons_zero, List.set_cons_succ]
        refine takeD (i := 30) (d := 103) (v := .bool false) rfl rfl (by kernel_rfl) (by kernel_rfl) (by kernel_rfl) (fun _ _ _ h => h) (Or.inl ⟨by rfl, by intro W hW; clear hW; go_simp⟩) hd.out ?_
        simp only [List.setIfInBounds_toArray, List.set_cons_zero, List.set_cons_succ]
        refine takeD (i := 31) (d := 104) (v := undef) rfl rfl (by kernel_rfl) (by kernel_rfl) (by kernel_rfl) (fun _ _ _ h => h) (Or.inr ⟨by rfl, rfl⟩) hd.out ?_
        simp only [List.setIfInBounds_toArray, List.set_cons_zero, List.set_cons_succ]
        refine takeD (i := 32) (d := 105) (v := undef) rfl rfl (by kernel_rfl) (by kernel_rfl) (by kernel_rfl) (fun _ _ _ h => h) (Or.inr ⟨by rfl, rfl⟩) hd.out ?_
        simp only [List.setIfInBounds_toArray, List.set_cons_zero, List.set_cons_succ]
        refine takeD (i := 33) (d := 106) (v := .bool false) rfl rfl (by kernel_rfl) (by kernel_rfl) (by kernel_rfl) (fun _ _ _ h => h) (Or.inl ⟨by rfl, by intro W hW; clear hW; go_simp⟩) hd.out ?_
        simp only [List.setIfInBounds_toArray, List.set_cons_zero, List.set_cons_succ]
        refine takeD (i := 34) (d := 107) (v := .bool false) rfl rfl (by kernel_rfl) (by kernel_rfl) (by kernel_rfl) (fun _ _ _ h => h) (Or.inl ⟨by rfl, by intro W hW; clear hW; go_simp⟩) hd.out ?_
        simp only [List.setIfInBounds_toArray, List.set_cons_zero, List.set_cons_succ]
        refine takeD (i := 35) (d := 108) (v := undef) rfl rfl (by kernel_rfl) (by kernel_rfl) (by kernel_rfl) (fun _ _ _ h => h) (Or.inr ⟨by rfl, rfl⟩) hd.out ?_
        simp only [List.setIfInBounds_toArray, List.set_cons_zero, List.set_cons_succ]
        refine takeD (i := 36) (d := 109) (v := undef) rfl rfl (by kernel_rfl) (by kernel_rfl) (by kernel_rfl) (fun _ _ _ h => h) (Or.inr ⟨by rfl, rfl⟩) hd.out ?_
        simp only [List.setIfInBounds_toArray, List.set_cons_zero, List.set_cons_succ]
        refine takeD (i := 37) (d := 110) (v := undef) rfl rfl (by kernel_rfl) (by kernel_rfl) (by kernel_rfl) (fun _ _ _ h => h) (Or.inr ⟨by rfl, rfl⟩) hd.out ?_
        simp only [List.setIfInBounds_toArray, List.set_cons_zero, List.set_cons_succ]
        refine takeD (i := 38) (d := 111) (v := undef) rfl rfl (by kernel_rfl) (by kernel_rfl) (by kernel_rfl) (fun _ _ _ h => h) (Or.inr ⟨by rfl, rfl⟩) hd.out ?_
        simp only [List.setIfInBounds_toArray, List.set_cons_zero, List.set_cons_succ]
        refine takeD (i := 39) (d := 112) (v := undef) rfl rfl (by kernel_rfl) (by kernel_rfl) (by kernel_rfl) (fun _ _ _ h => h) (Or.inr ⟨by rfl, rfl⟩) hd.out ?_
        simp only [List.setIfInBounds_toArray, List.set_cons_zero, List.set_cons_succ]
        refine takeD (i := 40) (d := 113) (v := .bool false) rfl rfl (by kernel_rfl) (by kernel_rfl) (by kernel_rfl) (fun _ _ _ h => h) (Or.inl ⟨by rfl, by intro W hW; clear hW; go_simp⟩) hd.out ?_
        simp only [List.setIfInBounds_toArray, List.set_cons_zero, List.set_cons_succ]
        refine takeD (i := 41) (d := 114) (v := .bool false) rfl rfl (by kernel_rfl) (by kernel_rfl) (by kernel_rfl) (fun _ _ _ h => h) (Or.inl ⟨by rfl, by intro W hW; clear hW; go_simp⟩) hd.out ?_
        simp only [List.setIfInBounds_toArray, List.set_cons_zero, List.set_cons_succ]
        refine wpAnyH_done (by kernel_rfl) ?_ _
        obtain ⟨w8, hw8⟩ : ∃ w8, World.drew w7 = w8 := ⟨_, rfl⟩
        have hb8 : Hid (Below w7.heap.size w7 w8) := Lib.hid (by rw [← hw8]; exact below_drewN (Below.refl _ _) 1)
        rw [hw8]
        clear hw8 hneK hguK
        have hTA8 := Lib.hid ((hTA7.out).below hb8.out hM7.out)
        have hbe := Lib.hid (hbq.out.trans ((hb7.out.trans (hb8.out.mono hb7.out.size)).mono hbq.out.size))
        have dH : w8.cell? ⟨M, 1, none⟩ = some (.bool false) := hTA8.out.hd.trans (by rw [htH.out])
        have dS : w8.cell? ⟨M, 2, none⟩ = some (.bool true) := hTA8.out.hs.trans (by rw [htS.out])
        have dN : w8.cell? ⟨M, 0, none⟩ = some (.string t.name) := hTA8.out.nm
        go_wp2_with (first
          | (refine wpList_load_mid rfl 35 _ rfl M 35 rfl (encKy t.new) _ hTA8.out.new_ Try.underlying35 rfl (by rw [l32.out]; exact hi32.out) ?_)
          | (refine wpList_bl rfl 61 _ rfl #[(0, .string t.name), (1, .agg (encKy t.new).toArray)] (by rw [List.map_toArray]; rfl) _ (fun W => buildRt t.name t.new W) ?_)
          | (go_at_call 27; refine (hrt.out _).mono ?_; rintro e w9 ⟨rfl, b9⟩; have hb9 := Lib.hid (hbe.out.trans (b9.mono hbe.out.size)); clear b9))
        go_roundw
        case rel => exact ⟨i, j + 1, S ++ T, b3, by omega, by omega, rfl, by go_num, rfl, hSn2, hM2, Lib.hid (hB.out.trans (hb9.out.mono hB.out.size))⟩
        case measure => simp [intOf]; omega
      · obtain ⟨hx, hdr, hilt0⟩ := drop_cons e1
        have hilt : i < n1 := by have := hl1.out; omega
        obtain ⟨ba, oa, rfl, hba, hrga⟩ := RowR.range (Rd.below hRa'.out hB.out) hx
        have hx32 := hNa.out i x hx
        have hrX : Hid (∀ W, Below wr.heap.size wr W → W.rangeAt ba (oa + i * 33) (encR x)) := Lib.hid fun W hW => range_below (Nat.lt_of_lt_of_le hba hB.out.size) hrga hW
        have hcX : Hid (∀ W, Below wr.heap.size wr W → W.cell? ⟨ba, oa + i * 33, none⟩ = some (.string x.1)) := Lib.hid fun W hW => by simpa using hrX.out W hW 0 _ (show (encR x)[0]? = some (.string x.1) from rfl)
        have gi : (i : Int) < (n1 : Int) := by omega
        have hig := Lib.hid (show i < n1 by omega)
        have g0i : (0 : Int) ≤ (i : Int) := by omega
        clear hrga hba
        have hless : Hid (Op.bytesLess x.1.toList t.name.toList = false) := Lib.hid (by rw [htN]; exact ltS_asymm hyx)
        have heqn : Hid ((x.1.toList == t.name.toList) = false) := Lib.hid (by
          rw [htN]
          cases hq : x.1.toList == y.1.toList with
          | false => rfl
          | true =>
            have := eq_of_beq hq
            rw [bytes_ext this, ltS_irrefl] at hyx
            cases hyx)
        clear e1 e2 em hteq ed ht hdt hjlt0 hrb htN hx hdr hilt0 hyx
        go_wp2_with fail
        have hd : Hid (Below wr.heap.size wr (World.drew wr)) := Lib.hid (below_drewN (Below.refl _ _) 1)
        refine wp_region_held (S := fun W => Below wr.heap.size wr W) (by kernel_rfl) ?_
        change wpAnyH _ _ _ _ _ _ _ _ (World.drew _)
        refine takeD (i := 0) (d := 21) (v := .int .i64 (j : Int)) rfl rfl (by kernel_rfl) (by kernel_rfl) (by kernel_rfl) (fun _ _ _ h => h) (Or.inl ⟨by rfl, by intro W hW; clear hW; go_simp⟩) hd.out ?_
        simp only [List.setIfInBounds_toArray, List.set_cons_zero, List.set_cons_succ]
        refine takeD (i := 1) (d := 22) (v := .slice (some ⟨bd, od, none⟩) n2 c2) rfl rfl (by kernel_rfl) (by kernel_rfl) (by kernel_rfl) (fun _ _ _ h => h) (Or.inl ⟨by rfl, by intro W hW; clear hW; go_simp⟩) hd.out ?_
        simp only [List.setIfInBounds_toArray, List.set_cons_zero, List.set_cons_succ]
        refine takeD (i := 2) (d := 23) (v := .int .i64 (n2 : Int)) rfl rfl (by kernel_rfl) (by kernel_rfl) (by kernel_rfl) (fun _ _ _ h => h) (Or.inl ⟨by rfl, by intro W hW; clear hW; go_simp⟩) hd.out ?_
        simp only [List.setIfInBounds_toArray, List.set_cons_zero, List.set_cons_succ]
        refine takeD (i := 3) (d := 24) (v := .bool false) rfl rfl (by kernel_rfl) (by kernel_rfl) (by kernel_rfl) (fun _ _ _ h => h) (Or.inl ⟨by rfl, by intro W hW; have hh := hje.out; clear hW; go_simp⟩) hd.out ?_
        simp only [List.setIfInBounds_toArray, List.set_cons_zero, List.set_cons_succ]
        refine takeD (i := 4) (d := 25) (v := .bool false) rfl rfl (by kernel_rfl) (by kernel_rfl) (by kernel_rfl) (fun _ _ _ h => h) (Or.inl ⟨by rfl, by intro W hW; clear hW; go_simp⟩) hd.out ?_
        simp only [List.setIfInBounds_toArray, List.set_cons_zero, List.set_cons_succ]
        refine takeD (i := 5) (d := 26) (v := .int .i64 (i : Int)) rfl rfl (by kernel_rfl) (by kernel_rfl) (by kernel_rfl) (fun _ _ _ h => h) (Or.inl ⟨by rfl, by intro W hW; clear hW; go_simp⟩) hd.out ?_
        simp only [List.setIfInBounds_toArray, List.set_cons_zero, List.set_cons_succ]
        refine takeD (i := 6) (d := 27) (v := .slice (some ⟨ba, oa, none⟩) n1 c1) rfl rfl (by kernel_rfl) (by kernel_rfl) (by kernel_rfl) (fun _ _ _ h => h) (Or.inl ⟨by rfl, by intro W hW; clear hW; go_simp⟩) hd.out ?_
        simp only [List.setIfInBounds_toArray, List.set_cons_zero, List.set_cons_succ]
        refine takeD (i := 7) (d := 28) (v := .int .i64 (n1 : Int)) rfl rfl (by kernel_rfl) (by kernel_rfl) (by kernel_rfl) (fun _ _ _ h => h) (Or.inl ⟨by rfl, by intro W hW; clear hW; go_simp⟩) hd.out ?_
        simp only [List.setIfInBounds_toArray, List.set_cons_zero, List.set_cons_succ]
        refine takeD (i := 8) (d := 29) (v := .bool true) rfl rfl (by kernel_rfl) (by kernel_rfl) (by kernel_rfl) (fun _ _ _ h => h) (Or.inl ⟨by rfl, by intro W hW; have hh := hig.out; clear hW; go_simp⟩) hd.out ?_
        simp only [List.setIfInBounds_toArray, List.set_cons_zero, List.set_cons_succ]
        refine takeD (i := 9) (d := 30) (v := .bool true) rfl rfl (by kernel_rfl) (by kernel_rfl) (by kernel_rfl) (fun _ _ _ h => h) (Or.inl ⟨by rfl, by intro W hW; clear hW; go_simp⟩) hd.out ?_
        simp only [List.setIfInBounds_toArray, List.set_cons_zero, List.set_cons_succ]
        refine takeD (i := 10) (d := 31) (v := .slice (some ⟨ba, oa, none⟩) n1 c1) rfl rfl (by kernel_rfl) (by kernel_rfl) (by kernel_rfl) (fun _ _ _ h => h) (Or.inl ⟨by rfl, by intro W hW; clear hW; go_simp⟩) hd.out ?_
        simp only [List.setIfInBounds_toArray, List.set_cons_zero, List.set_cons_succ]
        refine takeD (i := 11) (d := 32) (v := .int .i64 (i : Int)) rfl rfl (by kernel_rfl) (by kernel_rfl) (by kernel_rfl) (fun _ _ _ h => h) (Or.inl ⟨by rfl, by intro W hW; clear hW; go_simp⟩) hd.out ?_
        simp only [List.setIfInBounds_toArray, List.set_cons_zero, List.set_cons_succ]
        refine takeD (i := 12) (d := 33) (v := .pointer (some ⟨ba, oa + i * 33, none⟩)) rfl rfl (by kernel_rfl) (by kernel_rfl) (by kernel_rfl) (fun _ _ _ h => h) (Or.inl ⟨by rfl, by intro W hW; clear hW; go_simp⟩) hd.out ?_
        simp only [List.setIfInBounds_toArray, List.set_cons_zero, List.set_cons_succ]
        refine takeD (i := 13) (d := 34) (v := .pointer (some ⟨ba, oa + i * 33, none⟩)) rfl rfl (by kernel_rfl) (by kernel_rfl) (by kernel_rfl) (fun _ _ _ h => h) (Or.inl ⟨by rfl, by intro W hW; clear hW; go_simp⟩) hd.out ?_
        simp only [List.setIfInBounds_toArray, List.set_cons_zero, List.set_cons_succ]
        refine takeD (i := 14) (d := 35) (v := .string x.1) rfl rfl (by kernel_rfl) (by kernel_rfl) (by kernel_rfl) (fun _ _ _ h => h) (Or.inl ⟨by rfl, by intro W hW; have cc := hcX.out W hW; clear hW; go_simp⟩) hd.out ?_
        simp only [List.setIfInBounds_toArray, List.set_cons_zero, List.set_cons_succ]
        refine takeD (i := 15) (d := 36) (v := .slice (some ⟨bd, od, none⟩) n2 c2) rfl rfl (by kernel_rfl) (by kernel_rfl) (by kernel_rfl) (fun _ _ _ h => h) (Or.inl ⟨by rfl, by intro W hW; clear hW; go_simp⟩) hd.out ?_
        simp only [List.setIfInBounds_toArray, List.set_cons_zero, List.set_cons_succ]
        refine takeD (i := 16) (d := 37) (v := .int .i64 (j : Int)) rfl rfl (by kernel_rfl) (by kernel_rfl) (by kernel_rfl) (fun _ _ _ h => h) (Or.inl ⟨by rfl, by intro W hW; clear hW; go_simp⟩) hd.out ?_
        simp only [List.setIfInBounds_toArray, List.set_cons_zero, List.set_cons_succ]
        refine takeD (i := 17) (d := 38) (v := .pointer (some ⟨bd, od + j * 67, none⟩)) rfl rfl (by kernel_rfl) (by kernel_rfl) (by kernel_rfl) (fun _ _ _ h => h) (Or.inl ⟨by rfl, by intro W hW; clear hW; go_simp⟩) hd.out ?_
        simp only [List.setIfInBounds_toArray, List.set_cons_zero, List.set_cons_succ]
        refine takeD (i := 18) (d := 39) (v := .pointer (some ⟨bd, od + j * 67, none⟩)) rfl rfl (by kernel_rfl) (by kernel_rfl) (by kernel_rfl) (fun _ _ _ h => h) (Or.inl ⟨by rfl, by intro W hW; clear hW; go_simp⟩) hd.out ?_
        simp only [List.setIfInBounds_toArray, List.set_cons_zero, List.set_cons_succ]
        refine takeD (i := 19) (d := 40) (v := .string t.name) rfl rfl (by kernel_rfl) (by kernel_rfl) (by kernel_rfl) (fun _ _ _ h => h) (Or.inl ⟨by rfl, by intro W hW; have cc := hcT.out W hW; clear hW; go_simp⟩) hd.out ?_
        simp only [List.setIfInBounds_toArray, List.set_cons_zero, List.set_cons_succ]
        refine takeD (i := 20) (d := 41) (v := .bool false) rfl rfl (by kernel_rfl) (by kernel_rfl) (by kernel_rfl) (fun _ _ _ h => h) (Or.inl ⟨by rfl, by intro W hW; have hh := hless.out; clear hW; go_simp⟩) hd.out ?_
        simp only [List.setIfInBounds_toArray, List.set_cons_zero, List.set_cons_succ]
        refine takeD (i := 21) (d := 42) (v := .bool false) rfl rfl (by kernel_rfl) (by kernel_rfl) (by kernel_rfl) (fun _ _ _ h => h) (Or.inl ⟨by rfl, by intro W hW; clear hW; go_simp⟩) hd.out ?_
        simp only [List.setIfInBounds_toArray, List.set_cons_zero, List.set_cons_succ]
        refine takeD (i := 22) (d := 43) (v := .bool false) rfl rfl (by kernel_rfl) (by kernel_rfl) (by kernel_rfl) (fun _ _ _ h => h) (Or.inl ⟨by rfl, by intro W hW; clear hW; go_simp⟩) hd.out ?_
        simp only [List.setIfInBounds_toArray, List.set_cons_zero, List.set_cons_succ]
        refine wpAnyH_done (by kernel_rfl) ?_ _
        obtain ⟨w5, hw5⟩ : ∃ w5, World.drew wr = w5 := ⟨_, rfl⟩
        have hb5 : Hid (Below wr.heap.size wr w5) := Lib.hid (by rw [← hw5]; exact below_drewN (Below.refl _ _) 1)
        rw [hw5]
        clear hw5
        go_wp2_with (first
          | (refine wpList_load_mid rfl 55 _ rfl bd (od + j * 67) rfl (encT t) _ (hrT.out _ hb5.out) Try.underlying55 rfl (by rw [l67.out]; exact hi67.out) ?_)
          | (refine wpList_store_mid rfl 55 _ _ rfl w5.heap.size 0 (encT t).toArray rfl rfl (by rw [a67.out]; exact (TA.new w5 zT).there) (by rw [a67.out]; exact hi67.out) (oneT.out _) ?_
             rw [List.toList_toArray]
             obtain ⟨wq, hwq⟩ : ∃ wq, (w5.alloc (.cells (encT zT).toArray 55)).setCells w5.heap.size 0 (encT t) = wq := ⟨_, rfl⟩
             obtain ⟨M, hM0⟩ : ∃ M, w5.heap.size = M := ⟨_, rfl⟩
             have hbq : Hid (Below wr.heap.size wr wq) := Lib.hid (by rw [← hwq]; exact hb5.out.trans ((belTA (Nat.le_refl _) _ _ _ ((Below.refl _ _).alloc (Nat.le_refl _) _)).mono hb5.out.size))
             have hTA : Hid (TA wq M t) := Lib.hid (by rw [← hwq, ← hM0]; exact (TA.new w5 zT).all t)
             have hMq : Hid (M < wq.heap.size) := Lib.hid (by rw [← hwq, ← hM0, setCells_heap_size]; simp)
             rw [hwq, hM0]
             clear hwq hM0))
        have hd : Hid (Below wq.heap.size wq (World.drew wq)) := Lib.hid (below_drewN (Below.refl _ _) 1)
        refine wp_region_held (S := fun W => Below wq.heap.size wq W) (by kernel_rfl) ?_
        change wpAnyH _ _ _ _ _ _ _ _ (World.drew _)
        refine takeD (i := 0) (d := 59) (v := .int .i64 (i : Int)) rfl rfl (by kernel_rfl) (by kernel_rfl) (by kernel_rfl) (fun _ _ _ h => h) (Or.inl ⟨by rfl, by intro W hW; clear hW; go_simp⟩) hd.out ?_
        simp only [List.setIfInBounds_toArray, List.set_cons_zero, List.set_cons_succ]
        refine takeD (i := 1) (d := 60) (v := .slice (some ⟨ba, oa, none⟩) n1 c1) rfl rfl (by kernel_rfl) (by kernel_rfl) (by kernel_rfl) (fun _ _ _ h => h) (Or.inl ⟨by rfl, by intro W hW; clear hW; go_simp⟩) hd.out ?_
        simp only [List.setIfInBounds_toArray, List.set_cons_zero, List.set_cons_succ]
        refine takeD (i := 2) (d := 61) (v := .int .i64 (n1 : Int)) rfl rfl (by kernel_rfl) (by kernel_rfl) (by kernel_rfl) (fun _ _ _ h => h) (Or.inl ⟨by rfl, by intro W hW; clear hW; go_simp⟩) hd.out ?_
        simp only [List.setIfInBounds_toArray, List.set_cons_zero, List.set_cons_succ]
        refine takeD (i := 3) (d := 62) (v := .bool true) rfl rfl (by kernel_rfl) (by kernel_rfl) (by kernel_rfl) (fun _ _ _ h => h) (Or.inl ⟨by rfl, by intro W hW; have hh := hig.out; clear hW; go_simp⟩) hd.out ?_
        simp only [List.setIfInBounds_toArray, List.set_cons_zero, List.set_cons_succ]
        refine takeD (i := 4) (d := 63) (v := .bool true) rfl rfl (by kernel_rfl) (by kernel_rfl) (by kernel_rfl) (fun _ _ _ h => h) (Or.inl ⟨by rfl, by intro W hW; clear hW; go_simp⟩) hd.out ?_
        simp only [List.setIfInBounds_toArray, List.set_cons_zero, List.set_cons_succ]
        refine takeD (i := 5) (d := 64) (v := .slice (some ⟨ba, oa, none⟩) n1 c1) rfl rfl (by kernel_rfl) (by kernel_rfl) (by kernel_rfl) (fun _ _ _ h => h) (Or.inl ⟨by rfl, by intro W hW; clear hW; go_simp⟩) hd.out ?_
        simp only [List.setIfInBounds_toArray, List.set_cons_zero, List.set_cons_succ]
        refine takeD (i := 6) (d := 65) (v := .int .i64 (i : Int)) rfl rfl (by kernel_rfl) (by kernel_rfl) (by kernel_rfl) (fun _ _ _ h => h) (Or.inl ⟨by rfl, by intro W hW; clear hW; go_simp⟩) hd.out ?_
        simp only [List.setIfInBounds_toArray, List.set_cons_zero, List.set_cons_succ]
        refine takeD (i := 7) (d := 66) (v := .pointer (some ⟨ba, oa + i * 33, none⟩)) rfl rfl (by kernel_rfl) (by kernel_rfl) (by kernel_rfl) (fun _ _ _ h => h) (Or.inl ⟨by rfl, by intro W hW; clear hW; go_simp⟩) hd.out ?_
        simp only [List.setIfInBounds_toArray, List.set_cons_zero, List.set_cons_succ]
        refine takeD (i := 8) (d := 67) (v := .pointer (some ⟨ba, oa + i * 33, none⟩)) rfl rfl (by kernel_rfl) (by kernel_rfl) (by kernel_rfl) (fun _ _ _ h => h) (Or.inl ⟨by rfl, by intro W hW; clear hW; go_simp⟩) hd.out ?_
        simp only [List.setIfInBounds_toArray, List.set_cons_zero, List.set_cons_succ]
        refine takeD (i := 9) (d := 68) (v := .string x.1) rfl rfl (by kernel_rfl) (by kernel_rfl) (by kernel_rfl) (fun _ _ _ h => h) (Or.inl ⟨by rfl, by intro W hW; have cc := hcX.out W (hbq.out.trans (hW.mono hbq.out.size)); clear hW; go_simp⟩) hd.out ?_
        simp only [List.setIfInBounds_toArray, List.set_cons_zero, List.set_cons_succ]
        refine takeD (i := 10) (d := 69) (v := .pointer (some ⟨M, 0, none⟩)) rfl rfl (by kernel_rfl) (by kernel_rfl) (by kernel_rfl) (fun _ _ _ h => h) (Or.inl ⟨by rfl, by intro W hW; clear hW; go_simp⟩) hd.out ?_
        simp only [List.setIfInBounds_toArray, List.set_cons_zero, List.set_cons_succ]
        refine takeD (i := 11) (d := 70) (v := .string t.name) rfl rfl (by kernel_rfl) (by kernel_rfl) (by kernel_rfl) (fun _ _ _ h => h) (Or.inl ⟨by rfl, by intro W hW; have cc := (hTA.out.below hW hMq.out).nm; clear hW; go_simp⟩) hd.out ?_
        simp only [List.setIfInBounds_toArray, List.set_cons_zero, List.set_cons_succ]
        refine takeD (i := 12) (d := 71) (v := .bool false) rfl rfl (by kernel_rfl) (by kernel_rfl) (by kernel_rfl) (fun _ _ _ h => h) (Or.inl ⟨by rfl, by intro W hW; have hh := heqn.out; clear hW; go_simp⟩) hd.out ?_
        simp only [List.setIfInBounds_toArray, List.set_cons_zero, List.set_cons_succ]
        refine takeD (i := 13) (d := 72) (v := .bool false) rfl rfl (by kernel_rfl) (by kernel_rfl) (by kernel_rfl) (fun _ _ _ h => h) (Or.inl ⟨by rfl, by intro W hW; clear hW; go_simp⟩) hd.out ?_
        simp only [List.setIfInBounds_toArray, List.set_cons_zero, List.set_cons_succ]
        refine takeD (i := 14) (d := 10) (v := .bool false) rfl rfl (by kernel_rfl) (by kernel_rfl) (by kernel_rfl) (fun _ _ _ h => h) (Or.inl ⟨by rfl, by intro W hW; clear hW; go_simp⟩) hd.out ?_
        simp only [List.setIfInBounds_toArray, List.set_cons_zero, List.set_cons_succ]
        refine wpAnyH_done (by kernel_rfl) ?_ _
        obtain ⟨w7, hw7⟩ : ∃ w7, World.drew wq = w7 := ⟨_, rfl⟩
        have hb7 : Hid (Below wq.heap.size wq w7) := Lib.hid (by rw [← hw7]; exact below_drewN (Below.refl _ _) 1)
        rw [hw7]
        clear hw7
        go_wp2_with fail
        have hM7 : Hid (M < w7.heap.size) := Lib.hid (Nat.lt_of_lt_of_le hMq.out hb7.out.size)
        have hTA7 := Lib.hid (hTA.out.below hb7.out hMq.out)
        have hb07 := Lib.hid (hbq.out.trans (hb7.out.mono hbq.out.size))
        have hrO : Hid (∀ W, Below w7.heap.size w7 W → W.rangeAt M 3 (encKy t.old)) := Lib.hid fun W hW => (hTA7.out.below hW hM7.out).old
        have hrN : Hid (∀ W, Below w7.heap.size w7 W → W.rangeAt M 35 (encKy t.new)) := Lib.hid fun W hW => (hTA7.out.below hW hM7.out).new_
        have hcH : Hid (∀ W, Below w7.heap.size w7 W → W.cell? ⟨M, 1, none⟩ = some (.bool false)) := Lib.hid fun W hW => (hTA7.out.below hW hM7.out).hd.trans (by rw [htH.out])
        have hcS : Hid (∀ W, Below w7.heap.size w7 W → W.cell? ⟨M, 2, none⟩ = some (.bool true)) := Lib.hid fun W hW => (hTA7.out.below hW hM7.out).hs.trans (by rw [htS.out])
        have hneK := neKy
        have hguK := guKy
        have hd : Hid (Below w7.heap.size w7 (World.drew w7)) := Lib.hid (below_drewN (Below.refl _ _) 1)
        refine wp_region_held (S := fun W => Below w7.heap.size w7 W) (by kernel_rfl) ?_
        change wpAnyH _ _ _ _ _ _ _ _ (World.drew _)
        refine takeD (i := 0) (d := 73) (v := .bool false) rfl rfl (by kernel_rfl) (by kernel_rfl) (by kernel_rfl) (fun _ _ _ h => h) (Or.inl ⟨by rfl, by intro W hW; clear hW; go_simp⟩) hd.out ?_
        simp only [List.setIfInBounds_toArray, List.set_cons_zero, List.set_cons_succ]
        refine takeD (i := 1) (d := 74) (v := .pointer (some ⟨M, 1, none⟩)) rfl rfl (by kernel_rfl) (by kernel_rfl) (by kernel_rfl) (fun _ _ _ h => h) (Or.inl ⟨by rfl, by intro W hW; clear hW; go_simp⟩) hd.out ?_
        simp only [List.setIfInBounds_toArray, List.set_cons_zero, List.set_cons_succ]
        refine takeD (i := 2) (d := 75) (v := .bool false) rfl rfl (by kernel_rfl) (by kernel_rfl) (by kernel_rfl) (fun _ _ _ h => h) (Or.inl ⟨by rfl, by intro W hW; have cc := hcH.out W hW; clear hW; go_simp⟩) hd.out ?_
        simp only [List.setIfInBounds_toArray, List.set_cons_zero, List.set_cons_succ]
        refine takeD (i := 3) (d := 76) (v := .bool false) rfl rfl (by kernel_rfl) (by kernel_rfl) (by kernel_rfl) (fun _ _ _ h => h) (Or.inl ⟨by rfl, by intro W hW; clear hW; go_simp⟩) hd.out ?_
        simp only [List.setIfInBounds_toArray, List.set_cons_zero, List.set_cons_succ]
        refine takeD (i := 4) (d := 77) (v := .bool false) rfl rfl (by kernel_rfl) (by kernel_rfl) (by kernel_rfl) (fun _ _ _ h => h) (Or.inl ⟨by rfl, by intro W hW; clear hW; go_simp⟩) hd.out ?_
        simp only [List.setIfInBounds_toArray, List.set_cons_zero, List.set_cons_succ]
        refine takeD (i := 5) (d := 78) (v := .bool false) rfl rfl (by kernel_rfl) (by kernel_rfl) (by kernel_rfl) (fun _ _ _ h => h) (Or.inl ⟨by rfl, by intro W hW; clear hW; go_simp⟩) hd.out ?_
        simp only [List.setIfInBounds_toArray, List.set_cons_zero, List.set_cons_succ]
        refine takeD (i := 6) (d := 79) (v := .bool false) rfl rfl (by kernel_rfl) (by kernel_rfl) (by kernel_rfl) (fun _ _ _ h => h) (Or.inl ⟨by rfl, by intro W hW; clear hW; go_simp⟩) hd.out ?_
        simp only [List.setIfInBounds_toArray, List.set_cons_zero, List.set_cons_succ]
        refine takeD (i := 7) (d := 80) (v := undef) rfl rfl (by kernel_rfl) (by kernel_rfl) (by kernel_rfl) (fun _ _ _ h => h) (Or.inr ⟨by rfl, rfl⟩) hd.out ?_
        simp only [List.setIfInBounds_toArray, List.set_cons_zero, List.set_cons_succ]
        refine takeD (i := 8) (d := 81) (v := undef) rfl rfl (by kernel_rfl) (by kernel_rfl) (by kernel_rfl) (fun _ _ _ h => h) (Or.inr ⟨by rfl, rfl⟩) hd.out ?_
        simp only [List.setIfInBounds_toArray, List.set_cons_zero, List.set_cons_succ]
        refine takeD (i := 9) (d := 82) (v := undef) rfl rfl (by kernel_rfl) (by kernel_rfl) (by kernel_rfl) (fun _ _ _ h => h) (Or.inr ⟨by rfl, rfl⟩) hd.out ?_
        simp only [List.setIfInBounds_toArray, List.set_cons_zero, List.set_cons_succ]
        refine takeD (i := 10) (d := 83) (v := undef) rfl rfl (by kernel_rfl) (by kernel_rfl) (by kernel_rfl) (fun _ _ _ h => h) (Or.inr ⟨by rfl, rfl⟩) hd.out ?_
        simp only [List.setIfInBounds_toArray, List.set_cons_zero, List.set_cons_succ]
        refine takeD (i := 11) (d := 84) (v := undef) rfl rfl (by kernel_rfl) (by kernel_rfl) (by kernel_rfl) (fun _ _ _ h => h) (Or.inr ⟨by rfl, rfl⟩) hd.out ?_
        simp only [List.setIfInBounds_toArray, List.set_cons_zero, List.set_cons_succ]
        refine takeD (i := 12) (d := 85) (v := undef) rfl rfl (by kernel_rfl) (by kernel_rfl) (by kernel_rfl) (fun _ _ _ h => h) (Or.inr ⟨by rfl, rfl⟩) hd.out ?_
        simp only [List.setIfInBounds_toArray, List.set_cons_zero, List.set_cons_succ]
        refine takeD (i := 13) (d := 86) (v := undef) rfl rfl (by kernel_rfl) (by kernel_rfl) (by kernel_rfl) (fun _ _ _ h => h) (Or.inr ⟨by rfl, rfl⟩) hd.out ?_
        simp only [List.setIfInBounds_toArray, List.set_cons_zero, List.set_cons_succ]
        refine takeD (i := 14) (d := 87) (v := undef) rfl rfl (by kernel_rfl) (by kernel_rfl) (by kernel_rfl) (fun _ _ _ h => h) (Or.inr ⟨by rfl, rfl⟩) hd.out ?_
        simp only [List.setIfInBounds_toArray, List.set_cons_zero, List.set_cons_succ]
        refine takeD (i := 15) (d := 88) (v := .bool false) rfl rfl (by kernel_rfl) (by kernel_rfl) (by kernel_rfl) (fun _ _ _ h => h) (Or.inl ⟨by rfl, by intro W hW; clear hW; go_simp⟩) hd.out ?_
        simp only [List.setIfInBounds_toArray, List.set_cons_zero, List.set_cons_succ]
        refine takeD (i := 16) (d := 89) (v := .bool false) rfl rfl (by kernel_rfl) (by kernel_rfl) (by kernel_rfl) (fun _ _ _ h => h) (Or.inl ⟨by rfl, by intro W hW; clear hW; go_simp⟩) hd.out ?_
        simp only [List.setIfInBounds_toArray, List.set_cons_zero, List.set_cons_succ]
        refine takeD (i := 17) (d := 90) (v := .bool false) rfl rfl (by kernel_rfl) (by kernel_rfl) (by kernel_rfl) (fun _ _ _ h => h) (Or.inl ⟨by rfl, by intro W hW; clear hW; go_simp⟩) hd.out ?_
        simp only [List.setIfInBounds_toArray, List.set_cons_zero, List.set_cons_succ]
        refine takeD (i := 18) (d := 91) (v := .pointer (some ⟨M, 1, none⟩)) rfl rfl (by kernel_rfl) (by kernel_rfl) (by kernel_rfl) (fun _ _ _ h => h) (Or.inl ⟨by rfl, by intro W hW; clear hW; go_simp⟩) hd.out ?_
        simp only [List.setIfInBounds_toArray, List.set_cons_zero, List.set_cons_succ]
        refine takeD (i := 19) (d := 92) (v := .bool false) rfl rfl (by kernel_rfl) (by kernel_rfl) (by kernel_rfl) (fun _ _ _ h => h) (Or.inl ⟨by rfl, by intro W hW; have cc := hcH.out W hW; clear hW; go_simp⟩) hd.out ?_
        simp only [List.setIfInBounds_toArray, List.set_cons_zero, List.set_cons_succ]
        refine takeD (i := 20) (d := 93) (v := .bool true) rfl rfl (by kernel_rfl) (by kernel_rfl) (by kernel_rfl) (fun _ _ _ h => h) (Or.inl ⟨by rfl, by intro W hW; clear hW; go_simp⟩) hd.out ?_
        simp only [List.setIfInBounds_toArray, List.set_cons_zero, List.set_cons_succ]
        refine takeD (i := 21) (d := 94) (v := .bool true) rfl rfl (by kernel_rfl) (by kernel_rfl) (by kernel_rfl) (fun _ _ _ h => h) (Or.inl ⟨by rfl, by intro W hW; clear hW; go_simp⟩) hd.out ?_
        simp only [List.setIfInBounds_toArray, List.set_cons_zero, List.set_cons_succ]
        refine takeD (i := 22) (d := 95) (v := .pointer (some ⟨M, 2, none⟩)) rfl rfl (by kernel_rfl) (by kernel_rfl) (by kernel_rfl) (fun _ _ _ h => h) (Or.inl ⟨by rfl, by intro W hW; clear hW; go_simp⟩) hd.out ?_
        simp only [List.setIfInBounds_toArray, List.set_cons_zero, List.set_cons_succ]
        refine takeD (i := 23) (d := 96) (v := .bool true) rfl rfl (by kernel_rfl) (by kernel_rfl) (by kernel_rfl) (fun _ _ _ h => h) (Or.inl ⟨by rfl, by intro W hW; have cc := hcS.out W hW; clear hW; go_simp⟩) hd.out ?_
        simp only [List.setIfInBounds_toArray, List.set_cons_zero, List.set_cons_succ]
        refine takeD (i := 24) (d := 97) (v := .bool false) rfl rfl (by kernel_rfl) (by kernel_rfl) (by kernel_rfl) (fun _ _ _ h => h) (Or.inl ⟨by rfl, by intro W hW; clear hW; go_simp⟩) hd.out ?_
        simp only [List.setIfInBounds_toArray, List.set_cons_zero, List.set_cons_succ]
        refine takeD (i := 25) (d := 98) (v := .bool false) rfl rfl (by kernel_rfl) (by kernel_rfl) (by kernel_rfl) (fun _ _ _ h => h) (Or.inl ⟨by rfl, by intro W hW; clear hW; go_simp⟩) hd.out ?_
        simp only [List.setIfInBounds_toArray, List.set_cons_zero, List.set_cons_succ]
        refine takeD (i := 26) (d := 99) (v := .bool false) rfl rfl (by kernel_rfl) (by kernel_rfl) (by kernel_rfl) (fun _ _ _ h => h) (Or.inl ⟨by rfl, by intro W hW; clear hW; go_simp⟩) hd.out ?_
        simp only [List.setIfInBounds_toArray, List.set_cons_zero, List.set_cons_succ]
        refine takeD (i := 27) (d := 100) (v := .bool false) rfl rfl (by kernel_rfl) (by kernel_rfl) (by kernel_rfl) (fun _ _ _ h => h) (Or.inl ⟨by rfl, by intro W hW; clear hW; go_simp⟩) hd.out ?_
        simp only [List.setIfInBounds_toArray, List.set_cons_zero, List.set_cons_succ]
        refine takeD (i := 28) (d := 101) (v := .pointer (some ⟨M, 1, none⟩)) rfl rfl (by kernel_rfl) (by kernel_rfl) (by kernel_rfl) (fun _ _ _ h => h) (Or.inl ⟨by rfl, by intro W hW; clear hW; go_simp⟩) hd.out ?_
        simp only [List.setIfInBounds_toArray, List.set_cons_zero, List.set_cons_succ]
        refine takeD (i := 29) (d := 102) (v := .bool false) rfl rfl (by kernel_rfl) (by kernel_rfl) (by kernel_rfl) (fun _ _ _ h => h) (Or.inl ⟨by rfl, by intro W hW; have cc := hcH.out W hW; clear hW; go_simp⟩) hd.out ?_
        simp only [List.setIfInBounds_toArray, List.set_cons_zero, List.set_cons_succ]
        refine takeD (i := 30) (d := 103) (v := .bool false) rfl rfl (by kernel_rfl) (by kernel_rfl) (by kernel_rfl) (fun _ _ _ h => h) (Or.inl ⟨by rfl, by intro W hW; clear hW; go_simp⟩) hd.out ?_
        simp only [List.setIfInBounds_toArray, List.set_cons_zero, List.set_cons_succ]
        refine takeD (i := 31) (d := 104) (v := undef) rfl rfl (by kernel_rfl) (by kernel_rfl) (by kernel_rfl) (fun _ _ _ h => h) (Or.inr ⟨by rfl, rfl⟩) hd.out ?_
        simp only [List.setIfInBounds_toArray, List.set_cons_zero, List.set_cons_succ]
        refine takeD (i := 32) (d := 105) (v := undef) rfl rfl (by kernel_rfl) (by kernel_rfl) (by kernel_rfl) (fun _ _ _ h => h) (Or.inr ⟨by rfl, rfl⟩) hd.out ?_
        simp only [List.setIfInBounds_toArray, List.set_cons_zero, List.set_cons_succ]
        refine takeD (i := 33) (d := 106) (v := .bool false) rfl rfl (by kernel_rfl) (by kernel_rfl) (by kernel_rfl) (fun _ _ _ h => h) (Or.inl ⟨by rfl, by intro W hW; clear hW; go_simp⟩) hd.out ?_
        simp only [List.setIfInBounds_toArray, List.set_cons_zero, List.set_cons_succ]
        refine takeD (i := 34) (d := 107) (v := .bool false) rfl rfl (by kernel_rfl) (by kernel_rfl) (by kernel_rfl) (fun _ _ _ h => h) (Or.inl ⟨by rfl, by intro W hW; clear hW; go_simp⟩) hd.out ?_
        simp only [List.setIfInBounds_toArray, List.set_cons_zero, List.set_cons_succ]
        refine takeD (i := 35) (d := 108) (v := undef) rfl rfl (by kernel_rfl) (by kernel_rfl) (by kernel_rfl) (fun _ _ _ h => h) (Or.inr ⟨by rfl, rfl⟩) hd.out ?_
        simp only [List.setIfInBounds_toArray, List.set_cons_zero, List.set_cons_succ]
        refine takeD (i := 36) (d := 109) (v := undef) rfl rfl (by kernel_rfl) (by kernel_rfl) (by kernel_rfl) (fun _ _ _ h => h) (Or.inr ⟨by rfl, rfl⟩) hd.out ?_
        simp only [List.setIfInBounds_toArray, List.set_cons_zero, List.set_cons_succ]
        refine takeD (i := 37) (d := 110) (v := undef) rfl rfl (by kernel_rfl) (by kernel_rfl) (by kernel_rfl) (fun _ _ _ h => h) (Or.inr ⟨by rfl, rfl⟩) hd.out ?_
        simp only [List.setIfInBounds_toArray, List.set_cons_zero, List.set_cons_succ]
        refine takeD (i := 38) (d := 111) (v := undef) rfl rfl (by kernel_rfl) (by kernel_rfl) (by kernel_rfl) (fun _ _ _ h => h) (Or.inr ⟨by rfl, rfl⟩) hd.out ?_
        simp only [List.setIfInBounds_toArray, List.set_cons_zero, List.set_cons_succ]
        refine takeD (i := 39) (d := 112) (v := undef) rfl rfl (by kernel_rfl) (by kernel_rfl) (by kernel_rfl) (fun _ _ _ h => h) (Or.inr ⟨by rfl, rfl⟩) hd.out ?_
        simp only [List.setIfInBounds_toArray, List.set_cons_zero, List.set_cons_succ]
        refine takeD (i := 40) (d := 113) (v := .bool false) rfl rfl (by kernel_rfl) (by kernel_rfl) (by kernel_rfl) (fun _ _ _ h => h) (Or.inl ⟨by rfl, by intro W hW; clear hW; go_simp⟩) hd.out ?_
        simp only [List.setIfInBounds_toArray, List.set_cons_zero, List.set_cons_succ]
        refine takeD (i := 41) (d := 114) (v := .bool false) rfl rfl (by kernel_rfl) (by kernel_rfl) (by kernel_rfl) (fun _ _ _ h => h) (Or.inl ⟨by rfl, by intro W hW; clear hW; go_simp⟩) hd.out ?_
        simp only [List.setIfInBounds_toArray, List.set_cons_zero, List.set_cons_succ]
        refine wpAnyH_done (by kernel_rfl) ?_ _
        obtain ⟨w8, hw8⟩ : ∃ w8, World.drew w7 = w8 := ⟨_, rfl⟩
        have hb8 : Hid (Below w7.heap.size w7 w8) := Lib.hid (by rw [← hw8]; exact below_drewN (Below.refl _ _) 1)
        rw [hw8]
        clear hw8 hneK hguK
        have hTA8 := Lib.hid ((hTA7.out).below hb8.out hM7.out)
        have hbe := Lib.hid (hbq.out.trans ((hb7.out.trans (hb8.out.mono hb7.out.size)).mono hbq.out.size))
        have dH : w8.cell? ⟨M, 1, none⟩ = some (.bool false) := hTA8.out.hd.trans (by rw [htH.out])
        have dS : w8.cell? ⟨M, 2, none⟩ = some (.bool true) := hTA8.out.hs.trans (by rw [htS.out])
        have dN : w8.cell? ⟨M, 0, none⟩ = some (.string t.name) := hTA8.out.nm
        go_wp2_with (first
          | (refine wpList_load_mid rfl 35 _ rfl M 35 rfl (encKy t.new) _ hTA8.out.new_ Try.underlying35 rfl (by rw [l32.out]; exact hi32.out) ?_)
          | (refine wpList_bl rfl 61 _ rfl #[(0, .string t.name), (1, .agg (encKy t.new).toArray)] (by rw [List.map_toArray]; rfl) _ (fun W => buildRt t.name t.new W) ?_)
          | (go_at_call 27; refine (hrt.out _).mono ?_; rintro e w9 ⟨rfl, b9⟩; have hb9 := Lib.hid (hbe.out.trans (b9.mono hbe.out.size)); clear b9))
        go_roundw
        case rel => exact ⟨i, j + 1, S ++ T, b3, by omega, by omega, rfl, by go_num, rfl, hSn2, hM2, Lib.hid (hB.out.trans (hb9.out.mono hB.out.size))⟩
        case measure => simp [intOf]; omega
    · obtain ⟨hx, hdr, hilt0⟩ := drop_cons e1
      have hilt : i < n1 := by have := hl1.out; omega
      obtain ⟨ba, oa, rfl, hba, hrga⟩ := RowR.range (Rd.below hRa'.out hB.out) hx
      have hx32 := hNa.out i x hx
      have hrX : Hid (∀ W, Below wr.heap.size wr W → W.rangeAt ba (oa + i * 33) (encR x)) := Lib.hid fun W hW => range_below (Nat.lt_of_lt_of_le hba hB.out.size) hrga hW
      have hcX : Hid (∀ W, Below wr.heap.size wr W → W.cell? ⟨ba, oa + i * 33, none⟩ = some (.string x.1)) := Lib.hid fun W hW => by simpa using hrX.out W hW 0 _ (show (encR x)[0]? = some (.string x.1) from rfl)
      have gi : (i : Int) < (n1 : Int) := by omega
      have hig := Lib.hid (show i < n1 by omega)
      have g0i : (0 : Int) ≤ (i : Int) := by omega
      clear hrga hba
      obtain ⟨t, hteq⟩ : ∃ t, tBoth x y = t := ⟨_, rfl⟩
      have htN : t.name = x.1 := by rw [← hteq]; rfl
      have htH : Hid (t.had = true) := Lib.hid (by rw [← hteq]; rfl)
      have htS : Hid (t.has = true) := Lib.hid (by rw [← hteq]; rfl)
      have htO : Hid (t.old = x.2) := Lib.hid (by rw [← hteq]; rfl)
      have htW : Hid (t.new = y.2) := Lib.hid (by rw [← hteq]; rfl)
      rw [hteq] at em
      have ed : d.drop j = t :: mergeQ a2 b3 := by rw [← hM.out, em]
      obtain ⟨ht, hdt, hjlt0⟩ := drop_cons ed
      have hjlt : j < n2 := by have := hl2.out; omega
      obtain ⟨bd, od, rfl, hbd, hrgd⟩ := RowT.range (Rd.below hRd'.out hB.out) ht
      have hrT : Hid (∀ W, Below wr.heap.size wr W → W.rangeAt bd (od + j * 67) (encT t)) := Lib.hid fun W hW => range_below (Nat.lt_of_lt_of_le hbd hB.out.size) hrgd hW
      have hcT : Hid (∀ W, Below wr.heap.size wr W → W.cell? ⟨bd, od + j * 67, none⟩ = some (.string t.name)) := Lib.hid fun W hW => by simpa using hrT.out W hW 0 _ (show (encT t)[0]? = some (.string t.name) from rfl)
      have gj : (j : Int) < (n2 : Int) := by omega
      have g0j : (0 : Int) ≤ (j : Int) := by omega
      have gje : ((j : Int) == (n2 : Int)) = false := by simp; omega
      have hje := Lib.hid (show ¬ j = n2 by omega)
      clear hrgd hbd
      have hM2 : Hid (mergeQ (a.drop (i + 1)) b3 = d.drop (j + 1)) := Lib.hid (by rw [hdr, hdt])
      have hless : Hid (Op.bytesLess x.1.toList t.name.toList = false) := Lib.hid (by rw [htN]; exact ltS_irrefl _)
      have heqn : Hid ((x.1.toList == t.name.toList) = true) := Lib.hid (by rw [htN]; simp)
      have hek := Lib.hid ek
      have hyt : Hid ((t.name, t.new) = y) := Lib.hid (by rw [htN, htW.out, en])
      have hSn2 := Lib.hid (hSn.out _ _ e2)
      have hsb : ¬ 9223372036854775807 < S.size + (rootS y).size := by
        have h1 := hsS.out _ _ e2
        rw [rootS_size]
        omega
      have hrt : Hid (∀ W, Calls Try.prog 27 #[.agg (encR (t.name, t.new)).toArray] W fun e w' => e = .returned (.string (rootS y)) ∧ Below W.heap.size W w') := Lib.hid fun W => by
        have := root_any W y (by rw [← en]; omega)
        rwa [← hyt.out] at this ⊢
      obtain ⟨T, hT⟩ : ∃ T, Hid (∀ _ : Unit, rootS y = T) := ⟨_, Lib.hid fun _ => rfl⟩
      rw [hT.out ()] at hrt hsb hSn2
      clear e1 e2 em hteq ed ht hdt hjlt0 hx hdr hilt0 hrb htN en ek
      go_wp2_with fail
      have hd : Hid (Below wr.heap.size wr (World.drew wr)) := Lib.hid (below_drewN (Below.refl _ _) 1)
      refine wp_region_held (S := fun W => Below wr.heap.size wr W) (by kernel_rfl) ?_
      change wpAnyH _ _ _ _ _ _ _ _ (World.drew _)
      refine takeD (i := 0) (d := 21) (v := .int .i64 (j : Int)) rfl rfl (by kernel_rfl) (by kernel_rfl) (by kernel_rfl) (fun _ _ _ h => h) (Or.inl ⟨by rfl, by intro W hW; clear hW; go_simp⟩) hd.out ?_
      simp only [List.setIfInBounds_toArray, List.set_cons_zero, List.set_cons_succ]
      refine takeD (i := 1) (d := 22) (v := .slice (some ⟨bd, od, none⟩) n2 c2) rfl rfl (by kernel_rfl) (by kernel_rfl) (by kernel_rfl) (fun _ _ _ h => h) (Or.inl ⟨by rfl, by intro W hW; clear hW; go_simp⟩) hd.out ?_
      simp only [List.setIfInBounds_toArray, List.set_cons_zero, List.set_cons_succ]
      refine takeD (i := 2) (d := 23) (v := .int .i64 (n2 : Int)) rfl rfl (by kernel_rfl) (by kernel_rfl) (by kernel_rfl) (fun _ _ _ h => h) (Or.inl ⟨by rfl, by intro W hW; clear hW; go_simp⟩) hd.out ?_
      simp only [List.setIfInBounds_toArray, List.set_cons_zero, List.set_cons_succ]
      refine takeD (i := 3) (d := 24) (v := .bool false) rfl rfl (by kernel_rfl) (by kernel_rfl) (by kernel_rfl) (fun _ _ _ h => h) (Or.inl ⟨by rfl, by intro W hW; have hh := hje.out; clear hW; go_simp⟩) hd.out ?_
      simp only [List.setIfInBounds_toArray, List.set_cons_zero, List.set_cons_succ]
      refine takeD (i := 4) (d := 25) (v := .bool false) rfl rfl (by kernel_rfl) (by kernel_rfl) (by kernel_rfl) (fun _ _ _ h => h) (Or.inl ⟨by rfl, by intro W hW; clear hW; go_simp⟩) hd.out ?_
      simp only [List.setIfInBounds_toArray, List.set_cons_zero, List.set_cons_succ]
      refine takeD (i := 5) (d := 26) (v := .int .i64 (i : Int)) rfl rfl (by kernel_rfl) (by kernel_rfl) (by kernel_rfl) (fun _ _ _ h => h) (Or.inl ⟨by rfl, by intro W hW; clear hW; go_simp⟩) hd.out ?_
      simp only [List.setIfInBounds_toArray, List.set_cons_zero, List.set_cons_succ]
      refine takeD (i := 6) (d := 27) (v := .slice (some ⟨ba, oa, none⟩) n1 c1) rfl rfl (by kernel_rfl) (by kernel_rfl) (by kernel_rfl) (fun _ _ _ h => h) (Or.inl ⟨by rfl, by intro W hW; clear hW; go_simp⟩) hd.out ?_
      simp only [List.setIfInBounds_toArray, List.set_cons_zero, List.set_cons_succ]
      refine takeD (i := 7) (d := 28) (v := .int .i64 (n1 : Int)) rfl rfl (by kernel_rfl) (by kernel_rfl) (by kernel_rfl) (fun _ _ _ h => h) (Or.inl ⟨by rfl, by intro W hW; clear hW; go_simp⟩) hd.out ?_
      simp only [List.setIfInBounds_toArray, List.set_cons_zero, List.set_cons_succ]
      refine takeD (i := 8) (d := 29) (v := .bool true) rfl rfl (by kernel_rfl) (by kernel_rfl) (by kernel_rfl) (fun _ _ _ h => h) (Or.inl ⟨by rfl, by intro W hW; have hh := hig.out; clear hW; go_simp⟩) hd.out ?_
      simp only [List.setIfInBounds_toArray, List.set_cons_zero, List.set_cons_succ]
      refine takeD (i := 9) (d := 30) (v := .bool true) rfl rfl (by kernel_rfl) (by kernel_rfl) (by kernel_rfl) (fun _ _ _ h => h) (Or.inl ⟨by rfl, by intro W hW; clear hW; go_simp⟩) hd.out ?_
      simp only [List.setIfInBounds_toArray, List.set_cons_zero, List.set_cons_succ]
      refine takeD (i := 10) (d := 31) (v := .slice (some ⟨ba, oa, none⟩) n1 c1) rfl rfl (by kernel_rfl) (by kernel_rfl) (by kernel_rfl) (fun _ _ _ h => h) (Or.inl ⟨by rfl, by intro W hW; clear hW; go_simp⟩) hd.out ?_
      simp only [List.setIfInBounds_toArray, List.set_cons_zero, List.set_cons_succ]
      refine takeD (i := 11) (d := 32) (v := .int .i64 (i : Int)) rfl rfl (by kernel_rfl) (by kernel_rfl) (by kernel_rfl) (fun _ _ _ h => h) (Or.inl ⟨by rfl, by intro W hW; clear hW; go_simp⟩) hd.out ?_
      simp only [List.setIfInBounds_toArray, List.set_cons_zero, List.set_cons_succ]
      refine takeD (i := 12) (d := 33) (v := .pointer (some ⟨ba, oa + i * 33, none⟩)) rfl rfl (by kernel_rfl) (by kernel_rfl) (by kernel_rfl) (fun _ _ _ h => h) (Or.inl ⟨by rfl, by intro W hW; clear hW; go_simp⟩) hd.out ?_
      simp only [List.setIfInBounds_toArray, List.set_cons_zero, List.set_cons_succ]
      refine takeD (i := 13) (d := 34) (v := .pointer (some ⟨ba, oa + i * 33, none⟩)) rfl rfl (by kernel_rfl) (by kernel_rfl) (by kernel_rfl) (fun _ _ _ h => h) (Or.inl ⟨by rfl, by intro W hW; clear hW; go_simp⟩) hd.out ?_
      simp only [List.setIfInBounds_toArray, List.set_cons_zero, List.set_cons_succ]
      refine takeD (i := 14) (d := 35) (v := .string x.1) rfl rfl (by kernel_rfl) (by kernel_rfl) (by kernel_rfl) (fun _ _ _ h => h) (Or.inl ⟨by rfl, by intro W hW; have cc := hcX.out W hW; clear hW; go_simp⟩) hd.out ?_
      simp only [List.setIfInBounds_toArray, List.set_cons_zero, List.set_cons_succ]
      refine takeD (i := 15) (d := 36) (v := .slice (some ⟨bd, od, none⟩) n2 c2) rfl rfl (by kernel_rfl) (by kernel_rfl) (by kernel_rfl) (fun _ _ _ h => h) (Or.inl ⟨by rfl, by intro W hW; clear hW; go_simp⟩) hd.out ?_
      simp only [List.setIfInBounds_toArray, List.set_cons_zero, List.set_cons_succ]
      refine takeD (i := 16) (d := 37) (v := .int .i64 (j : Int)) rfl rfl (by kernel_rfl) (by kernel_rfl) (by kernel_rfl) (fun _ _ _ h => h) (Or.inl ⟨by rfl, by intro W hW; clear hW; go_simp⟩) hd.out ?_
      simp only [List.setIfInBounds_toArray, List.set_cons_zero, List.set_cons_succ]
      refine takeD (i := 17) (d := 38) (v := .pointer (some ⟨bd, od + j * 67, none⟩)) rfl rfl (by kernel_rfl) (by kernel_rfl) (by kernel_rfl) (fun _ _ _ h => h) (Or.inl ⟨by rfl, by intro W hW; clear hW; go_simp⟩) hd.out ?_
      simp only [List.setIfInBounds_toArray, List.set_cons_zero, List.set_cons_succ]
      refine takeD (i := 18) (d := 39) (v := .pointer (some ⟨bd, od + j * 67, none⟩)) rfl rfl (by kernel_rfl) (by kernel_rfl) (by kernel_rfl) (fun _ _ _ h => h) (Or.inl ⟨by rfl, by intro W hW; clear hW; go_simp⟩) hd.out ?_
      simp only [List.setIfInBounds_toArray, List.set_cons_zero, List.set_cons_succ]
      refine takeD (i := 19) (d := 40) (v := .string t.name) rfl rfl (by kernel_rfl) (by kernel_rfl) (by kernel_rfl) (fun _ _ _ h => h) (Or.inl ⟨by rfl, by intro W hW; have cc := hcT.out W hW; clear hW; go_simp⟩) hd.out ?_
      simp only [List.setIfInBounds_toArray, List.set_cons_zero, List.set_cons_succ]
      refine takeD (i := 20) (d := 41) (v := .bool false) rfl rfl (by kernel_rfl) (by kernel_rfl) (by kernel_rfl) (fun _ _ _ h => h) (Or.inl ⟨by rfl, by intro W hW; have hh := hless.out; clear hW; go_simp⟩) hd.out ?_
      simp only [List.setIfInBounds_toArray, List.set_cons_zero, List.set_cons_succ]
      refine takeD (i := 21) (d := 42) (v := .bool false) rfl rfl (by kernel_rfl) (by kernel_rfl) (by kernel_rfl) (fun _ _ _ h => h) (Or.inl ⟨by rfl, by intro W hW; clear hW; go_simp⟩) hd.out ?_
      simp only [List.setIfInBounds_toArray, List.set_cons_zero, List.set_cons_succ]
      refine takeD (i := 22) (d := 43) (v := .bool false) rfl rfl (by kernel_rfl) (by kernel_rfl) (by kernel_rfl) (fun _ _ _ h => h) (Or.inl ⟨by rfl, by intro W hW; clear hW; go_simp⟩) hd.out ?_
      simp only [List.setIfInBounds_toArray, List.set_cons_zero, List.set_cons_succ]
      refine wpAnyH_done (by kernel_rfl) ?_ _
      obtain ⟨w5, hw5⟩ : ∃ w5, World.drew wr = w5 := ⟨_, rfl⟩
      have hb5 : Hid (Below wr.heap.size wr w5) := Lib.hid (by rw [← hw5]; exact below_drewN (Below.refl _ _) 1)
      rw [hw5]
      clear hw5
      go_wp2_with (first
        | (refine wpList_load_mid rfl 55 _ rfl bd (od + j * 67) rfl (encT t) _ (hrT.out _ hb5.out) Try.underlying55 rfl (by rw [l67.out]; exact hi67.out) ?_)
        | (refine wpList_store_mid rfl 55 _ _ rfl w5.heap.size 0 (encT t).toArray rfl rfl (by rw [a67.out]; exact (TA.new w5 zT).there) (by rw [a67.out]; exact hi67.out) (oneT.out _) ?_
           rw [List.toList_toArray]
           obtain ⟨wq, hwq⟩ : ∃ wq, (w5.alloc (.cells (encT zT).toArray 55)).setCells w5.heap.size 0 (encT t) = wq := ⟨_, rfl⟩
           obtain ⟨M, hM0⟩ : ∃ M, w5.heap.size = M := ⟨_, rfl⟩
           have hbq : Hid (Below wr.heap.size wr wq) := Lib.hid (by rw [← hwq]; exact hb5.out.trans ((belTA (Nat.le_refl _) _ _ _ ((Below.refl _ _).alloc (Nat.le_refl _) _)).mono hb5.out.size))
           have hTA : Hid (TA wq M t) := Lib.hid (by rw [← hwq, ← hM0]; exact (TA.new w5 zT).all t)
           have hMq : Hid (M < wq.heap.size) := Lib.hid (by rw [← hwq, ← hM0, setCells_heap_size]; simp)
           rw [hwq, hM0]
           clear hwq hM0))
      have hd : Hid (Below wq.heap.size wq (World.drew wq)) := Lib.hid (below_drewN (Below.refl _ _) 1)
      refine wp_region_held (S := fun W => Below wq.heap.size wq W) (by kernel_rfl) ?_
      change wpAnyH _ _ _ _ _ _ _ _ (World.drew _)
      refine takeD (i := 0) (d := 59) (v := .int .i64 (i : Int)) rfl rfl (by kernel_rfl) (by kernel_rfl) (by kernel_rfl) (fun _ _ _ h => h) (Or.inl ⟨by rfl, by intro W hW; clear hW; go_simp⟩) hd.out ?_
      simp only [List.setIfInBounds_toArray, List.set_cons_zero, List.set_cons_succ]
      refine takeD (i := 1) (d := 60) (v := .slice (some ⟨ba, oa, none⟩) n1 c1) rfl rfl (by kernel_rfl) (by kernel_rfl) (by kernel_rfl) (fun _ _ _ h => h) (Or.inl ⟨by rfl, by intro W hW; clear hW; go_simp⟩) hd.out ?_
      simp only [List.setIfInBounds_toArray, List.set_cons_zero, List.set_cons_succ]
      refine takeD (i := 2) (d := 61) (v := .int .i64 (n1 : Int)) rfl rfl (by kernel_rfl) (by kernel_rfl) (by kernel_rfl) (fun _ _ _ h => h) (Or.inl ⟨by rfl, by intro W hW; clear hW; go_simp⟩) hd.out ?_
      simp only [List.setIfInBounds_toArray, List.set_cons_zero, List.set_cons_succ]
      refine takeD (i := 3) (d := 62) (v := .bool true) rfl rfl (by kernel_rfl) (by kernel_rfl) (by kernel_rfl) (fun _ _ _ h => h) (Or.inl ⟨by rfl, by intro W hW; have hh := hig.out; clear hW; go_simp⟩) hd.out ?_
      simp only [List.setIfInBounds_toArray, List.set_cons_zero, List.set_cons_succ]
      refine takeD (i := 4) (d := 63) (v := .bool true) rfl rfl (by kernel_rfl) (by kernel_rfl) (by kernel_rfl) (fun _ _ _ h => h) (Or.inl ⟨by rfl, by intro W hW; clear hW; go_simp⟩) hd.out ?_
      simp only [List.setIfInBounds_toArray, List.set_cons_zero, List.set_cons_succ]
      refine takeD (i := 5) (d := 64) (v := .slice (some ⟨ba, oa, none⟩) n1 c1) rfl rfl (by kernel_rfl) (by kernel_rfl) (by kernel_rfl) (fun _ _ _ h => h) (Or.inl ⟨by rfl, by intro W hW; clear hW; go_simp⟩) hd.out ?_
      simp only [List.setIfInBounds_toArray, List.set_cons_zero, List.set_cons_succ]
      refine takeD (i := 6) (d := 65) (v := .int .i64 (i : Int)) rfl rfl (by kernel_rfl) (by kernel_rfl) (by kernel_rfl) (fun _ _ _ h => h) (Or.inl ⟨by rfl, by intro W hW; clear hW; go_simp⟩) hd.out ?_
      simp only [List.setIfInBounds_toArray, List.set_cons_zero, List.set_cons_succ]
      refine takeD (i := 7) (d := 66) (v := .pointer (some ⟨ba, oa + i * 33, none⟩)) rfl rfl (by kernel_rfl) (by kernel_rfl) (by kernel_rfl) (fun _ _ _ h => h) (Or.inl ⟨by rfl, by intro W hW; clear hW; go_simp⟩) hd.out ?_
      simp only [List.setIfInBounds_toArray, List.set_cons_zero, List.set_cons_succ]
      refine takeD (i := 8) (d := 67) (v := .pointer (some ⟨ba, oa + i * 33, none⟩)) rfl rfl (by kernel_rfl) (by kernel_rfl) (by kernel_rfl) (fun _ _ _ h => h) (Or.inl ⟨by rfl, by intro W hW; clear hW; go_simp⟩) hd.out ?_
      simp only [List.setIfInBounds_toArray, List.set_cons_zero, List.set_cons_succ]
      refine takeD (i := 9) (d := 68) (v := .string x.1) rfl rfl (by kernel_rfl) (by kernel_rfl) (by kernel_rfl) (fun _ _ _ h => h) (Or.inl ⟨by rfl, by intro W hW; have cc := hcX.out W (hbq.out.trans (hW.mono hbq.out.size)); clear hW; go_simp⟩) hd.out ?_
      simp only [List.setIfInBounds_toArray, List.set_cons_zero, List.set_cons_succ]
      refine takeD (i := 10) (d := 69) (v := .pointer (some ⟨M, 0, none⟩)) rfl rfl (by kernel_rfl) (by kernel_rfl) (by kernel_rfl) (fun _ _ _ h => h) (Or.inl ⟨by rfl, by intro W hW; clear hW; go_simp⟩) hd.out ?_
      simp only [List.setIfInBounds_toArray, List.set_cons_zero, List.set_cons_succ]
      refine takeD (i := 11) (d := 70) (v := .string t.name) rfl rfl (by kernel_rfl) (by kernel_rfl) (by kernel_rfl) (fun _ _ _ h => h) (Or.inl ⟨by rfl, by intro W hW; have cc := (hTA.out.below hW hMq.out).nm; clear hW; go_simp⟩) hd.out ?_
      simp only [List.setIfInBounds_toArray, List.set_cons_zero, List.set_cons_succ]
      refine takeD (i := 12) (d := 71) (v := .bool true) rfl rfl (by kernel_rfl) (by kernel_rfl) (by kernel_rfl) (fun _ _ _ h => h) (Or.inl ⟨by rfl, by intro W hW; have hh := heqn.out; clear hW; go_simp⟩) hd.out ?_
      simp only [List.setIfInBounds_toArray, List.set_cons_zero, List.set_cons_succ]
      refine takeD (i := 13) (d := 72) (v := .bool true) rfl rfl (by kernel_rfl) (by kernel_rfl) (by kernel_rfl) (fun _ _ _ h => h) (Or.inl ⟨by rfl, by intro W hW; clear hW; go_simp⟩) hd.out ?_
      simp only [List.setIfInBounds_toArray, List.set_cons_zero, List.set_cons_succ]
      refine takeD (i := 14) (d := 10) (v := .bool true) rfl rfl (by kernel_rfl) (by kernel_rfl) (by kernel_rfl) (fun _ _ _ h => h) (Or.inl ⟨by rfl, by intro W hW; clear hW; go_simp⟩) hd.out ?_
      simp only [List.setIfInBounds_toArray, List.set_cons_zero, List.set_cons_succ]
      refine wpAnyH_done (by kernel_rfl) ?_ _
      obtain ⟨w7, hw7⟩ : ∃ w7, World.drew wq = w7 := ⟨_, rfl⟩
      have hb7 : Hid (Below wq.heap.size wq w7) := Lib.hid (by rw [← hw7]; exact below_drewN (Below.refl _ _) 1)
      rw [hw7]
      clear hw7
      go_wp2_with fail
      have hM7 : Hid (M < w7.heap.size) := Lib.hid (Nat.lt_of_lt_of_le hMq.out hb7.out.size)
      have hTA7 := Lib.hid (hTA.out.below hb7.out hMq.out)
      have hb07 := Lib.hid (hbq.out.trans (hb7.out.mono hbq.out.size))
      have hrXk : Hid (∀ W, Below w7.heap.size w7 W → W.rangeAt ba (oa + i * 33 + 1) (encKy x.2)) := Lib.hid fun W hW => key_range (hrX.out W (hb07.out.trans (hW.mono hb07.out.size)))
      have hrO : Hid (∀ W, Below w7.heap.size w7 W → W.rangeAt M 3 (encKy t.old)) := Lib.hid fun W hW => (hTA7.out.below hW hM7.out).old
      have hrN : Hid (∀ W, Below w7.heap.size w7 W → W.rangeAt M 35 (encKy t.new)) := Lib.hid fun W hW => (hTA7.out.below hW hM7.out).new_
      have hcH : Hid (∀ W, Below w7.heap.size w7 W → W.cell? ⟨M, 1, none⟩ = some (.bool true)) := Lib.hid fun W hW => (hTA7.out.below hW hM7.out).hd.trans (by rw [htH.out])
      have hcS : Hid (∀ W, Below w7.heap.size w7 W → W.cell? ⟨M, 2, none⟩ = some (.bool true)) := Lib.hid fun W hW => (hTA7.out.below hW hM7.out).hs.trans (by rw [htS.out])
      have hneK : ∀ W, (binOp .neq 35 (.agg (encKy x.2).toArray) (.agg (encKy t.old).toArray)).run Try.prog W = .ok (.bool false) W := fun W => by rw [neKy, htO.out]; simp
      have heqK : ∀ W, (binOp .eql 35 (.agg (encKy t.old).toArray) (.agg (encKy t.new).toArray)).run Try.prog W = .ok (.bool false) W := fun W => by rw [eqKy, htO.out, htW.out, decide_eq_false hek.out]
      have hguK := guKy
      have hd : Hid (Below w7.heap.size w7 (World.drew w7)) := Lib.hid (below_drewN (Below.refl _ _) 1)
      refine wp_region_held (S := fun W => Below w7.heap.size w7 W) (by kernel_rfl) ?_
      change wpAnyH _ _ _ _ _ _ _ _ (World.drew _)
      refine takeD (i := 0) (d := 73) (v := .bool true) rfl rfl (by kernel_rfl) (by kernel_rfl) (by kernel_rfl) (fun _ _ _ h => h) (Or.inl ⟨by rfl, by intro W hW; clear hW; go_simp⟩) hd.out ?_
      simp only [List.setIfInBounds_toArray, List.set_cons_zero, List.set_cons_succ]
      refine takeD (i := 1) (d := 74) (v := .pointer (some ⟨M, 1, none⟩)) rfl rfl (by kernel_rfl) (by kernel_rfl) (by kernel_rfl) (fun _ _ _ h => h) (Or.inl ⟨by rfl, by intro W hW; clear hW; go_simp⟩) hd.out ?_
      simp only [List.setIfInBounds_toArray, List.set_cons_zero, List.set_cons_succ]
      refine takeD (i := 2) (d := 75) (v := .bool true) rfl rfl (by kernel_rfl) (by kernel_rfl) (by kernel_rfl) (fun _ _ _ h => h) (Or.inl ⟨by rfl, by intro W hW; have cc := hcH.out W hW; clear hW; go_simp⟩) hd.out ?_
      simp only [List.setIfInBounds_toArray, List.set_cons_zero, List.set_cons_succ]
      refine takeD (i := 3) (d := 76) (v := .bool false) rfl rfl (by kernel_rfl) (by kernel_rfl) (by kernel_rfl) (fun _ _ _ h => h) (Or.inl ⟨by rfl, by intro W hW; clear hW; go_simp⟩) hd.out ?_
      simp only [List.setIfInBounds_toArray, List.set_cons_zero, List.set_cons_succ]
      refine takeD (i := 4) (d := 77) (v := .bool false) rfl rfl (by kernel_rfl) (by kernel_rfl) (by kernel_rfl) (fun _ _ _ h => h) (Or.inl ⟨by rfl, by intro W hW; clear hW; go_simp⟩) hd.out ?_
      simp only [List.setIfInBounds_toArray, List.set_cons_zero, List.set_cons_succ]
      refine takeD (i := 5) (d := 78) (v := .bool true) rfl rfl (by kernel_rfl) (by kernel_rfl) (by kernel_rfl) (fun _ _ _ h => h) (Or.inl ⟨by rfl, by intro W hW; clear hW; go_simp⟩) hd.out ?_
      simp only [List.setIfInBounds_toArray, List.set_cons_zero, List.set_cons_succ]
      refine takeD (i := 6) (d := 79) (v := .bool true) rfl rfl (by kernel_rfl) (by kernel_rfl) (by kernel_rfl) (fun _ _ _ h => h) (Or.inl ⟨by rfl, by intro W hW; clear hW; go_simp⟩) hd.out ?_
      simp only [List.setIfInBounds_toArray, List.set_cons_zero, List.set_cons_succ]
      refine takeD (i := 7) (d := 80) (v := .slice (some ⟨ba, oa, none⟩) n1 c1) rfl rfl (by kernel_rfl) (by kernel_rfl) (by kernel_rfl) (fun _ _ _ h => h) (Or.inl ⟨by rfl, by intro W hW; clear hW; go_simp⟩) hd.out ?_
      simp only [List.setIfInBounds_toArray, List.set_cons_zero, List.set_cons_succ]
      refine takeD (i := 8) (d := 81) (v := .int .i64 (i : Int)) rfl rfl (by kernel_rfl) (by kernel_rfl) (by kernel_rfl) (fun _ _ _ h => h) (Or.inl ⟨by rfl, by intro W hW; clear hW; go_simp⟩) hd.out ?_
      simp only [List.setIfInBounds_toArray, List.set_cons_zero, List.set_cons_succ]
      refine takeD (i := 9) (d := 82) (v := .pointer (some ⟨ba, oa + i * 33, none⟩)) rfl rfl (by kernel_rfl) (by kernel_rfl) (by kernel_rfl) (fun _ _ _ h => h) (Or.inl ⟨by rfl, by intro W hW; clear hW; go_simp⟩) hd.out ?_
      simp only [List.setIfInBounds_toArray, List.set_cons_zero, List.set_cons_succ]
      refine takeD (i := 10) (d := 83) (v := .pointer (some ⟨ba, oa + i * 33 + 1, none⟩)) rfl rfl (by kernel_rfl) (by kernel_rfl) (by kernel_rfl) (fun _ _ _ h => h) (Or.inl ⟨by rfl, by intro W hW; clear hW; go_simp⟩) hd.out ?_
      simp only [List.setIfInBounds_toArray, List.set_cons_zero, List.set_cons_succ]
      refine takeD (i := 11) (d := 84) rfl rfl (by kernel_rfl) (by kernel_rfl) (by kernel_rfl) (fun _ _ _ h => h) (yieldsIf_load_mid (by rfl) 35 _ rfl ba (oa + i * 33 + 1) rfl (encKy x.2) _ hrXk.out Try.underlying35 rfl (by rw [l32.out]; exact hi32.out)) hd.out ?_
      simp only [List.setIfInBounds_toArray, List.set_cons_zero, List.set_cons_succ]
      refine takeD (i := 12) (d := 85) (v := .pointer (some ⟨M, 3, none⟩)) rfl rfl (by kernel_rfl) (by kernel_rfl) (by kernel_rfl) (fun _ _ _ h => h) (Or.inl ⟨by rfl, by intro W hW; clear hW; go_simp⟩) hd.out ?_
      simp only [List.setIfInBounds_toArray, List.set_cons_zero, List.set_cons_succ]
      refine takeD (i := 13) (d := 86) rfl rfl (by kernel_rfl) (by kernel_rfl) (by kernel_rfl) (fun _ _ _ h => h) (yieldsIf_load_mid (by rfl) 35 _ rfl M 3 rfl (encKy t.old) _ hrO.out Try.underlying35 rfl (by rw [l32.out]; exact hi32.out)) hd.out ?_
      simp only [List.setIfInBounds_toArray, List.set_cons_zero, List.set_cons_succ]
      refine takeD (i := 14) (d := 87) (v := .bool false) rfl rfl (by kernel_rfl) (by kernel_rfl) (by kernel_rfl) (fun _ _ _ h => h) (Or.inl ⟨by rfl, by intro W hW; clear hW; go_simp⟩) hd.out ?_
      simp only [List.setIfInBounds_toArray, List.set_cons_zero, List.set_cons_succ]
      refine takeD (i := 15) (d := 88) (v := .bool false) rfl rfl (by kernel_rfl) (by kernel_rfl) (by kernel_rfl) (fun _ _ _ h => h) (Or.inl ⟨by rfl, by intro W hW; clear hW; go_simp⟩) hd.out ?_
      simp only [List.setIfInBounds_toArray, List.set_cons_zero, List.set_cons_succ]
      refine takeD (i := 16) (d := 89) (v := .bool false) rfl rfl (by kernel_rfl) (by kernel_rfl) (by kernel_rfl) (fun _ _ _ h => h) (Or.inl ⟨by rfl, by intro W hW; clear hW; go_simp⟩) hd.out ?_
      simp only [List.setIfInBounds_toArray, List.set_cons_zero, List.set_cons_succ]
      refine takeD (i := 17) (d := 90) (v := .bool false) rfl rfl (by kernel_rfl) (by kernel_rfl) (by kernel_rfl) (fun _ _ _ h => h) (Or.inl ⟨by rfl, by intro W hW; clear hW; go_simp⟩) hd.out ?_
      simp only [List.setIfInBounds_toArray, List.set_cons_zero, List.set_cons_succ]
      refine takeD (i := 18) (d := 91) (v := .pointer (some ⟨M, 1, none⟩)) rfl rfl (by kernel_rfl) (by kernel_rfl) (by kernel_rfl) (fun _ _ _ h => h) (Or.inl ⟨by rfl, by intro W hW; clear hW; go_simp⟩) hd.out ?_
      simp only [List.setIfInBounds_toArray, List.set_cons_zero, List.set_cons_succ]
      refine takeD (i := 19) (d := 92) (v := .bool true) rfl rfl (by kernel_rfl) (by kernel_rfl) (by kernel_rfl) (fun _ _ _ h => h) (Or.inl ⟨by rfl, by intro W hW; have cc := hcH.out W hW; clear hW; go_simp⟩) hd.out ?_
      simp only [List.setIfInBounds_toArray, List.set_cons_zero, List.set_cons_succ]
      refine takeD (i := 20) (d := 93) (v := .bool false) rfl rfl (by kernel_rfl) (by kernel_rfl) (by kernel_rfl) (fun _ _ _ h => h) (Or.inl ⟨by rfl, by intro W hW; clear hW; go_simp⟩) hd.out ?_
      simp only [List.setIfInBounds_toArray, List.set_cons_zero, List.set_cons_succ]
      refine takeD (i := 21) (d := 94) (v := .bool false) rfl rfl (by kernel_rfl) (by kernel_rfl) (by kernel_rfl) (fun _ _ _ h => h) (Or.inl ⟨by rfl, by intro W hW; clear hW; go_simp⟩) hd.out ?_
      simp only [List.setIfInBounds_toArray, List.set_cons_zero, List.set_cons_succ]
      refine takeD (i := 22) (d := 95) (v := undef) rfl rfl (by kernel_rfl) (by kernel_rfl) (by kernel_rfl) (fun _ _ _ h => h) (Or.inr ⟨by rfl, rfl⟩) hd.out ?_
      simp only [List.setIfInBounds_toArray, List.set_cons_zero, List.set_cons_succ]
      refine takeD (i := 23) (d := 96) (v := undef) rfl rfl (by kernel_rfl) (by kernel_rfl) (by kernel_rfl) (fun _ _ _ h => h) (Or.inr ⟨by rfl, rfl⟩) hd.out ?_
      simp only [List.setIfInBounds_toArray, List.set_cons_zero, List.set_cons_succ]
      refine takeD (i := 24) (d := 97) (v := undef) rfl rfl (by kernel_rfl) (by kernel_rfl) (by kernel_rfl) (fun _ _ _ h => h) (Or.inr ⟨by rfl, rfl⟩) hd.out ?_
      simp only [List.setIfInBounds_toArray, List.set_cons_zero, List.set_cons_succ]
      refine takeD (i := 25) (d := 98) (v := .bool false) rfl rfl (by kernel_rfl) (by kernel_rfl) (by kernel_rfl) (fun _ _ _ h => h) (Or.inl ⟨by rfl, by intro W hW; clear hW; go_simp⟩) hd.out ?_
      simp only [List.setIfInBounds_toArray, List.set_cons_zero, List.set_cons_succ]
      refine takeD (i := 26) (d := 99) (v := .bool false) rfl rfl (by kernel_rfl) (by kernel_rfl) (by kernel_rfl) (fun _ _ _ h => h) (Or.inl ⟨by rfl, by intro W hW; clear hW; go_simp⟩) hd.out ?_
      simp only [List.setIfInBounds_toArray, List.set_cons_zero, List.set_cons_succ]
      refine takeD (i := 27) (d := 100) (v := .bool false) rfl rfl (by kernel_rfl) (by kernel_rfl) (by kernel_rfl) (fun _ _ _ h => h) (Or.inl ⟨by rfl, by intro W hW; clear hW; go_simp⟩) hd.out ?_
      simp only [List.setIfInBounds_toArray, List.set_cons_zero, List.set_cons_succ]
      refine takeD (i := 28) (d := 101) (v := .pointer (some ⟨M, 1, none⟩)) rfl rfl (by kernel_rfl) (by kernel_rfl) (by kernel_rfl) (fun _ _ _ h => h) (Or.inl ⟨by rfl, by intro W hW; clear hW; go_simp⟩) hd.out ?_
      simp only [List.setIfInBounds_toArray, List.set_cons_zero, List.set_cons_succ]
      refine takeD (i := 29) (d := 102) (v := .bool true) rfl rfl (by kernel_rfl) (by kernel_rfl) (by kernel_rfl) (fun _ _ _ h => h) (Or.inl ⟨by rfl, by intro W hW; have cc := hcH.out W hW; clear hW; go_simp⟩) hd.out ?_
      simp only [List.setIfInBounds_toArray, List.set_cons_zero, List.set_cons_succ]
      refine takeD (i := 30) (d := 103) (v := .bool true) rfl rfl (by kernel_rfl) (by kernel_rfl) (by kernel_rfl) (fun _ _ _ h => h) (Or.inl ⟨by rfl, by intro W hW; clear hW; go_simp⟩) hd.out ?_
      simp only [List.setIfInBounds_toArray, List.set_cons_zero, List.set_cons_succ]
      refine takeD (i := 31) (d := 104) (v := .pointer (some ⟨M, 2, none⟩)) rfl rfl (by kernel_rfl) (by kernel_rfl) (by kernel_rfl) (fun _ _ _ h => h) (Or.inl ⟨by rfl, by intro W hW; clear hW; go_simp⟩) hd.out ?_
      simp only [List.setIfInBounds_toArray, List.set_cons_zero, List.set_cons_succ]
      refine takeD (i := 32) (d := 105) (v := .bool true) rfl rfl (by kernel_rfl) (by kernel_rfl) (by kernel_rfl) (fun _ _ _ h => h) (Or.inl ⟨by rfl, by intro W hW; have cc := hcS.out W hW; clear hW; go_simp⟩) hd.out ?_
      simp only [List.setIfInBounds_toArray, List.set_cons_zero, List.set_cons_succ]
      refine takeD (i := 33) (d := 106) (v := .bool true) rfl rfl (by kernel_rfl) (by kernel_rfl) (by kernel_rfl) (fun _ _ _ h => h) (Or.inl ⟨by rfl, by intro W hW; clear hW; go_simp⟩) hd.out ?_
      simp only [List.setIfInBounds_toArray, List.set_cons_zero, List.set_cons_succ]
      refine takeD (i := 34) (d := 107) (v := .bool true) rfl rfl (by kernel_rfl) (by kernel_rfl) (by kernel_rfl) (fun _ _ _ h => h) (Or.inl ⟨by rfl, by intro W hW; clear hW; go_simp⟩) hd.out ?_
      simp only [List.setIfInBounds_toArray, List.set_cons_zero, List.set_cons_succ]
      refine takeD (i := 35) (d := 108) (v := .pointer (some ⟨M, 3, none⟩)) rfl rfl (by kernel_rfl) (by kernel_rfl) (by kernel_rfl) (fun _ _ _ h => h) (Or.inl ⟨by rfl, by intro W hW; clear hW; go_simp⟩) hd.out ?_
      simp only [List.setIfInBounds_toArray, List.set_cons_zero, List.set_cons_succ]
      refine takeD (i := 36) (d := 109) rfl rfl (by kernel_rfl) (by kernel_rfl) (by kernel_rfl) (fun _ _ _ h => h) (yieldsIf_load_mid (by rfl) 35 _ rfl M 3 rfl (encKy t.old) _ hrO.out Try.underlying35 rfl (by rw [l32.out]; exact hi32.out)) hd.out ?_
      simp only [List.setIfInBounds_toArray, List.set_cons_zero, List.set_cons_succ]
      refine takeD (i := 37) (d := 110) (v := .pointer (some ⟨M, 35, none⟩)) rfl rfl (by kernel_rfl) (by kernel_rfl) (by kernel_rfl) (fun _ _ _ h => h) (Or.inl ⟨by rfl, by intro W hW; clear hW; go_simp⟩) hd.out ?_
      simp only [List.setIfInBounds_toArray, List.set_cons_zero, List.set_cons_succ]
      refine takeD (i := 38) (d := 111) rfl rfl (by kernel_rfl) (by kernel_rfl) (by kernel_rfl) (fun _ _ _ h => h) (yieldsIf_load_mid (by rfl) 35 _ rfl M 35 rfl (encKy t.new) _ hrN.out Try.underlying35 rfl (by rw [l32.out]; exact hi32.out)) hd.out ?_
      simp only [List.setIfInBounds_toArray, List.set_cons_zero, List.set_cons_succ]
      refine takeD (i := 39) (d := 112) (v := .bool false) rfl rfl (by kernel_rfl) (by kernel_rfl) (by kernel_rfl) (fun _ _ _ h => h) (Or.inl ⟨by rfl, by intro W hW; clear hW; go_simp⟩) hd.out ?_
      simp only [List.setIfInBounds_toArray, List.set_cons_zero, List.set_cons_succ]
      refine takeD (i := 40) (d := 113) (v := .bool false) rfl rfl (by kernel_rfl) (by kernel_rfl) (by kernel_rfl) (fun _ _ _ h => h) (Or.inl ⟨by rfl, by intro W hW; clear hW; go_simp⟩) hd.out ?_
      simp only [List.setIfInBounds_toArray, List.set_cons_zero, List.set_cons_succ]
      refine takeD (i := 41) (d := 114) (v := .bool false) rfl rfl (by kernel_rfl) (by kernel_rfl) (by kernel_rfl) (fun _ _ _ h => h) (Or.inl ⟨by rfl, by intro W hW; clear hW; go_simp⟩) hd.out ?_
      simp only [List.setIfInBounds_toArray, List.set_cons_zero, List.set_cons_succ]
      refine wpAnyH_done (by kernel_rfl) ?_ _
      obtain ⟨w8, hw8⟩ : ∃ w8, World.drew w7 = w8 := ⟨_, rfl⟩
      have hb8 : Hid (Below w7.heap.size w7 w8) := Lib.hid (by rw [← hw8]; exact below_drewN (Below.refl _ _) 1)
      rw [hw8]
      clear hw8 hneK hguK
      have hTA8 := Lib.hid ((hTA7.out).below hb8.out hM7.out)
      have hbe := Lib.hid (hbq.out.trans ((hb7.out.trans (hb8.out.mono hb7.out.size)).mono hbq.out.size))
      have dH : w8.cell? ⟨M, 1, none⟩ = some (.bool true) := hTA8.out.hd.trans (by rw [htH.out])
      have dS : w8.cell? ⟨M, 2, none⟩ = some (.bool true) := hTA8.out.hs.trans (by rw [htS.out])
      have dN : w8.cell? ⟨M, 0, none⟩ = some (.string t.name) := hTA8.out.nm
      go_wp2_with (first
        | (refine wpList_load_mid rfl 35 _ rfl M 35 rfl (encKy t.new) _ hTA8.out.new_ Try.underlying35 rfl (by rw [l32.out]; exact hi32.out) ?_)
        | (refine wpList_bl rfl 61 _ rfl #[(0, .string t.name), (1, .agg (encKy t.new).toArray)] (by rw [List.map_toArray]; rfl) _ (fun W => buildRt t.name t.new W) ?_)
        | (go_at_call 27; refine (hrt.out _).mono ?_; rintro e w9 ⟨rfl, b9⟩; have hb9 := Lib.hid (hbe.out.trans (b9.mono hbe.out.size)); clear b9))
      go_roundw
      case rel => exact ⟨i + 1, j + 1, S ++ T, b3, by omega, by omega, rfl, by go_num, by go_num, hSn2, hM2, Lib.hid (hB.out.trans (hb9.out.mono hB.out.size))⟩
      case measure => simp [intOf]; omega
end Go.Proofs.Ytakcnkmlglkkpaa

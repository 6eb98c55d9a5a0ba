/- What the document's read makes of bytes: plain words. What is read is what is laid; the document's decoder and the program's tell the same: plain words. What was laid is read again: plain words. -/
import Derived.Test.YtkjndgapejbgcaaDoorPkD25
import Derived.Test.YtkjndgapejbgcaaDoorPkD26

namespace Go.Proofs.YtkjndgapejbgcaaDoor
open Go.RowKit

/-- What the document's read makes of bytes. -/
def rreadM (l : List Nat) (s : DSt) : ObjT × DSt :=
  let k := fixM l 1 s
  if k.1 = 1 then ({ oZ with kind := 1, data := (rawM l (leftM l.length k.2) k.2).1 }, (rawM l (leftM l.length k.2) k.2).2)
  else if k.1 = 2 then
    let n := varM l 128 k.2
    ({ oZ with kind := 2, parts := (loopM (partM l) n.1 n.2).1 }, (loopM (partM l) n.1 n.2).2)
  else if k.1 = 3 then
    let n := varM l 128 k.2
    ({ oZ with kind := 3, items := (loopM (itemM l) n.1 n.2).1 }, (loopM (itemM l) n.1 n.2).2)
  else if k.1 = 4 then
    let t := keyM l k.2
    let n := varM l 128 t.2
    let ks := loopM (keyM l) n.1 n.2
    let m := fixM l 8 ks.2
    let x := textM l 1024 m.2
    ({ oZ with kind := 4, tree := t.1, parents := ks.1, time := signed64 m.1, note := strB x.1 }, x.2)
  else ({ oZ with kind := k.1 }, k.2)
end Go.Proofs.YtkjndgapejbgcaaDoor

namespace Go.Proofs.YtkjndgapejbgcaaDoor
open Go.RowKit
set_option linter.unusedSimpArgs false
set_option linter.unusedVariables false

theorem varG_lay (most : Nat) : ∀ (f i v : Nat) (r : List Nat) (x n : Nat), (∀ y ∈ r, y < 256) → varG most f i v r = some (x, n) →
    ∃ u, x = v + u * 128 ^ i ∧ r = varF f u ++ r.drop (n - i) ∧ (0 < i → 0 < u)
  | 0, _, _, _, _, _, _, h => by simp [varG] at h
  | _ + 1, _, _, [], _, _, _, h => by simp [varG] at h
  | f + 1, i, v, c :: r, x, n, hr, h => by
    have hn := varG_count most (f + 1) i v (c :: r) x n h
    unfold varG at h
    split at h
    · cases h
    · split at h
      · split at h
        · cases h
        · rename_i h1 h2 h3
          simp only [Option.some.injEq, Prod.mk.injEq] at h
          obtain ⟨rfl, rfl⟩ := h
          refine ⟨c, rfl, ?_, fun hi => ?_⟩
          · unfold varF
            rw [if_pos h2, show i + 1 - i = 1 by omega]
            rfl
          · rcases Nat.eq_zero_or_pos c with h0 | h0
            · exact absurd (Or.inl ⟨h0, hi⟩) h3
            · exact h0
      · rename_i h1 h2
        have hn2 := varG_count most f (i + 1) _ r x n h
        obtain ⟨u, hx, hr2, hu⟩ := varG_lay most f (i + 1) _ r x n (fun y hy => hr y (by simp [hy])) h
        have hu0 := hu (by omega)
        have hc := hr c (by simp)
        refine ⟨(c - 128) + 128 * u, ?_, ?_, fun _ => by omega⟩
        · rw [hx, Nat.pow_succ, Nat.add_mul, Nat.add_assoc, Nat.mul_comm 128 u, Nat.mul_assoc, Nat.mul_comm 128 (128 ^ i)]
        · unfold varF
          rw [if_neg (by omega), show ((c - 128) + 128 * u) % 128 + 128 = c by omega, show ((c - 128) + 128 * u) / 128 = u by omega, show n - i = (n - (i + 1)) + 1 by omega]
          simp only [List.cons_append, List.drop_succ_cons]
          rw [← hr2]
theorem varG_less {m m' : Nat} (hm : m ≤ m') : ∀ (f i v : Nat) (r : List Nat), varG m f i v r = (varG m' f i v r).bind fun x => if x.1 ≤ m then some x else none
  | 0, _, _, _ => by simp [varG]
  | _ + 1, _, _, [] => by simp [varG]
  | f + 1, i, v, c :: r => by
    unfold varG
    split
    · rfl
    · split
      · by_cases h0 : c = 0 ∧ 0 < i
        · rw [if_pos (Or.inl h0), if_pos (Or.inl h0)]; rfl
        · by_cases h1 : m' < v + c * 128 ^ i
          · rw [if_pos (Or.inr (by omega)), if_pos (Or.inr h1)]; rfl
          · rw [if_neg (c := (c = 0 ∧ 0 < i) ∨ m' < v + c * 128 ^ i) (by omega)]
            by_cases h2 : m < v + c * 128 ^ i
            · rw [if_pos (Or.inr h2)]
              simp only [Option.bind_some]
              rw [if_neg (by omega)]
            · rw [if_neg (by omega)]
              simp only [Option.bind_some]
              rw [if_pos (by omega)]
      · exact varG_less hm f _ _ r
theorem varM_less (l : List Nat) {m m' : Nat} (hm : m ≤ m') (s : DSt) : varM l m s = if (varM l m' s).1 ≤ m then varM l m' s else (0, none) := by
  cases s with
  | none => simp [varM]
  | some k =>
    simp only [varM]
    rw [varG_less hm]
    obtain ⟨y, hy⟩ : ∃ y, varG m' 10 0 0 (l.drop k) = y := ⟨_, rfl⟩
    simp only [hy]
    match y with
    | none => simp
    | some (x, n) =>
      simp only [Option.bind_some]
      by_cases h2 : x ≤ m
      · simp [h2]
      · simp [h2]

section
variable {l : List Nat} (hl : ∀ x ∈ l, x < 256)
theorem rawM_step (n : Nat) (s : DSt) (j : Nat) (h : (rawM l n s).2 = some j) : ∃ k, s = some k ∧ l.drop k = (rawM l n s).1 ++ l.drop j ∧ (rawM l n s).1.length = n := by
  cases s with
  | none => cases h
  | some k =>
    obtain ⟨h1, rfl, h3⟩ := rawM_full l n k j h
    refine ⟨k, rfl, ?_, ?_⟩
    · rw [h1, ← List.drop_drop, List.take_append_drop]
    · rw [h1, List.length_take, List.length_drop]
      omega
include hl
theorem varM_step (m : Nat) (s : DSt) (j : Nat) (h : (varM l m s).2 = some j) : ∃ k, s = some k ∧ l.drop k = varL (varM l m s).1 ++ l.drop j := by
  cases s with
  | none => cases h
  | some k =>
    refine ⟨k, rfl, ?_⟩
    simp only [varM] at h ⊢
    cases hv : varG m 10 0 0 (l.drop k) with
    | none => rw [hv] at h; cases h
    | some x =>
      obtain ⟨x, n⟩ := x
      rw [hv] at h
      simp only [Option.some.injEq] at h ⊢
      subst h
      obtain ⟨u, hx, hr, _⟩ := varG_lay m 10 0 0 (l.drop k) x n (fun y hy => hl y (List.mem_of_mem_drop hy)) hv
      have : x = u := by rw [hx]; simp
      subst this
      rw [Nat.sub_zero, List.drop_drop] at hr
      exact hr
omit hl in
theorem leN_fix : ∀ r : List Nat, (∀ x ∈ r, x < 256) → fixF r.length (leN r) = r
  | [], _ => rfl
  | c :: r, h => by
    have hc := h c (by simp)
    have hr := leN_fix r fun x hx => h x (by simp [hx])
    simp only [List.length_cons, fixF, leN]
    rw [show (c + 256 * leN r) % 256 = c by omega, show (c + 256 * leN r) / 256 = leN r by omega, hr]
theorem fixM_step (n : Nat) (s : DSt) (j : Nat) (h : (fixM l n s).2 = some j) : ∃ k, s = some k ∧ l.drop k = fixF n (fixM l n s).1 ++ l.drop j := by
  obtain ⟨k, hs, h1, h2⟩ := rawM_step n s j h
  refine ⟨k, hs, ?_⟩
  have := leN_fix (rawM l n s).1 (rawM_lt hl n s)
  rw [h2] at this
  rw [h1]
  congr 1
  exact this.symm
theorem textM_step (m : Nat) (s : DSt) (j : Nat) (h : (textM l m s).2 = some j) : ∃ k, s = some k ∧ l.drop k = varL (textM l m s).1.length ++ (textM l m s).1 ++ l.drop j := by
  obtain ⟨k, h1, h2, h3⟩ := rawM_step _ _ j h
  obtain ⟨k', h4, h5⟩ := varM_step hl m s k h1
  refine ⟨k', h4, ?_⟩
  rw [h5, h2]
  rw [show (textM l m s).1.length = (varM l m s).1 from h3, List.append_assoc]
  rfl
omit hl in
theorem keyM_step (s : DSt) (j : Nat) (h : (keyM l s).2 = some j) : ∃ k, s = some k ∧ l.drop k = oneK (keyM l s).1 ++ l.drop j := by
  have h2 : (rawM l 32 s).2 = some j := by
    unfold keyM at h
    split at h <;> exact h
  obtain ⟨k, h3, h4, h5⟩ := rawM_step _ _ j h2
  refine ⟨k, h3, ?_⟩
  rw [h4]
  unfold keyM oneK
  rw [dif_pos h5]
theorem partM_step (s : DSt) (j : Nat) (h : (partM l s).2 = some j) : ∃ k, s = some k ∧ l.drop k = oneP (partM l s).1 ++ l.drop j := by
  obtain ⟨k, h1, h2⟩ := varM_step hl _ _ j h
  obtain ⟨k', h3, h4⟩ := keyM_step s k h1
  refine ⟨k', h3, ?_⟩
  rw [h4, h2, ← List.append_assoc]
  rfl
omit hl in
theorem strL_strB (x : List Nat) (hx : ∀ y ∈ x, y < 256) : strL (strB x) = x := by
  unfold strL strB
  simp only [List.map_map]
  apply List.ext_getElem (by simp)
  intro i h1 h2
  simp only [List.getElem_map, Function.comp]
  have := hx x[i] (List.getElem_mem _)
  simp [Nat.mod_eq_of_lt this]
theorem textM_lt (m : Nat) (s : DSt) : ∀ y ∈ (textM l m s).1, y < 256 := rawM_lt hl _ _
theorem itemM_step (s : DSt) (j : Nat) (h : (itemM l s).2 = some j) : ∃ k, s = some k ∧ l.drop k = oneI (itemM l s).1 ++ l.drop j := by
  obtain ⟨k1, h1, e1⟩ := keyM_step _ j h
  obtain ⟨k2, h2, e2⟩ := varM_step hl _ _ k1 h1
  obtain ⟨k3, h3, e3⟩ := fixM_step hl _ _ k2 h2
  obtain ⟨k4, h4, e4⟩ := textM_step hl _ _ k3 h3
  refine ⟨k4, h4, ?_⟩
  have hm : (fixM l 1 (textM l 64 s).2).1 < 256 := by simpa using fixM_lt hl 1 (textM l 64 s).2
  rw [e4, e3, e2, e1]
  unfold oneI itemM
  simp only [strB_size, strL_strB (textM l 64 s).1 (textM_lt hl 64 s)]
  simp only [fixF, Nat.mod_eq_of_lt hm, List.append_assoc]
  rfl
omit hl in
theorem loopM_step {α : Type} {one : DSt → α × DSt} {f : α → List Nat} (hf : ∀ s j, (one s).2 = some j → ∃ k, s = some k ∧ l.drop k = f (one s).1 ++ l.drop j) : ∀ (n : Nat) (s : DSt) (j : Nat), (loopM one n s).2 = some j →
    ∃ k, s = some k ∧ l.drop k = (loopM one n s).1.flatMap f ++ l.drop j ∧ (loopM one n s).1.length = n
  | 0, s, j, h => ⟨j, h, by simp [loopM], rfl⟩
  | n + 1, none, j, h => by cases h
  | n + 1, some k, j, h => by
    simp only [loopM] at h
    obtain ⟨k1, h1, e1, l1⟩ := loopM_step hf n _ j h
    obtain ⟨k2, h2, e2⟩ := hf _ k1 h1
    injection h2 with h2
    subst h2
    refine ⟨k, rfl, ?_, ?_⟩
    · rw [e2, e1]
      simp only [loopM, List.flatMap_cons, List.append_assoc]
    · simp only [loopM, List.length_cons, l1]
theorem rreadM_step (j : Nat) (h : (rreadM l (some 0)).2 = some j) : l = layL (rreadM l (some 0)).1 ++ l.drop j := by
  have base : ∀ k, (fixM l 1 (some 0)).2 = some k → l = [(fixM l 1 (some 0)).1] ++ l.drop k := by
    intro k hk
    obtain ⟨k0, h0, e0⟩ := fixM_step hl 1 _ k hk
    injection h0 with h0
    subst h0
    have hm : (fixM l 1 (some 0)).1 < 256 := by simpa using fixM_lt hl 1 (some 0)
    simpa [fixF, Nat.mod_eq_of_lt hm] using e0
  unfold rreadM at h ⊢
  simp only at h ⊢
  by_cases k1 : (fixM l 1 (some 0)).1 = 1
  · rw [if_pos k1] at h ⊢
    obtain ⟨k, hk, e, _⟩ := rawM_step _ _ j h
    have hb := base k hk
    rw [k1] at hb
    rw [e] at hb
    simpa [layL, oZ] using hb
  · rw [if_neg k1] at h ⊢
    by_cases k2 : (fixM l 1 (some 0)).1 = 2
    · rw [if_pos k2] at h ⊢
      obtain ⟨k, hk, e, hlen⟩ := loopM_step (partM_step hl) _ _ j h
      obtain ⟨k', hk', e'⟩ := varM_step hl _ _ k hk
      have hb := base k' hk'
      rw [k2, e', e] at hb
      simpa [layL, oZ, hlen] using hb
    · rw [if_neg k2] at h ⊢
      by_cases k3 : (fixM l 1 (some 0)).1 = 3
      · rw [if_pos k3] at h ⊢
        obtain ⟨k, hk, e, hlen⟩ := loopM_step (itemM_step hl) _ _ j h
        obtain ⟨k', hk', e'⟩ := varM_step hl _ _ k hk
        have hb := base k' hk'
        rw [k3, e', e] at hb
        simpa [layL, oZ, hlen] using hb
      · rw [if_neg k3] at h ⊢
        by_cases k4 : (fixM l 1 (some 0)).1 = 4
        · rw [if_pos k4] at h ⊢
          obtain ⟨q1, g1, e1⟩ := textM_step hl _ _ j h
          obtain ⟨q2, g2, e2⟩ := fixM_step hl _ _ q1 g1
          obtain ⟨q3, g3, e3, hlen⟩ := loopM_step (keyM_step) _ _ q2 g2
          obtain ⟨q4, g4, e4⟩ := varM_step hl _ _ q3 g3
          obtain ⟨q5, g5, e5⟩ := keyM_step _ q4 g4
          have hb := base q5 g5
          rw [k4, e5, e4, e3, e2, e1] at hb
          have hm := fixM_lt hl 8 (loopM (keyM l) (varM l 128 (keyM l (fixM l 1 (some 0)).2).2).1 (varM l 128 (keyM l (fixM l 1 (some 0)).2).2).2).2
          have hs : ∀ u, u < 256 ^ 8 → (signed64 u % 18446744073709551616).toNat = u := by
            intro u hu
            unfold signed64 wrap64
            omega
          simp only [layL, layT]
          simp only [strB_size, strL_strB _ (textM_lt hl 1024 _), hlen, hs _ hm]
          simpa [oneK, List.append_assoc] using hb
        · rw [if_neg k4] at h ⊢
          have hb := base j h
          simp only [layL, if_neg k1, if_neg k2, if_neg k3, if_neg k4, List.append_nil]
          exact hb
end
/-- What the document's Decode tells. -/
def rdecM (l : List Nat) : Nat × ObjT :=
  if 8192 < l.length then (48, oZ)
  else if (rreadM l (some 0)).2 = some l.length ∧ encE (rreadM l (some 0)).1 = 0 ∧ layL (rreadM l (some 0)).1 = l then (0, (rreadM l (some 0)).1)
  else (49, oZ)
theorem encE_may {o : ObjT} {l : List Nat} (hlay : l = layL o) (hn : l.length ≤ 8192) (hd : o.kind ≠ 1 → o.data = []) : encE o = 0 ↔ mayE o = 0 := by
  refine ⟨encE_taken, fun h => ?_⟩
  unfold encE
  rw [if_neg (by simp [h]), if_neg, if_neg (by rw [← hlay]; omega)]
  by_cases k : o.kind = 1
  · rw [hlay] at hn
    unfold layL at hn
    rw [if_pos k] at hn
    simp only [List.singleton_append, List.length_cons] at hn
    omega
  · rw [hd k]
    simp
theorem rdecM_eq {l : List Nat} (hl : ∀ x ∈ l, x < 256) : rdecM l = decM l := by
  unfold rdecM decM
  by_cases hn : 8192 < l.length
  · rw [if_pos hn, if_pos hn]
  · rw [if_neg hn, if_neg hn]
    -- the key fact
    have key : ∀ o, (rreadM l (some 0)).1 = o → (rreadM l (some 0)).2 = some l.length → layL o = l := by
      rintro o rfl h
      have := rreadM_step hl l.length h
      rw [List.drop_length, List.append_nil] at this
      exact this.symm
    have both : ∀ (r p : ObjT × DSt), rreadM l (some 0) = r → (r.1.kind ≠ 1 → r.1.data = []) → (r.2 = some l.length ∧ mayE r.1 = 0 ↔ p.2 = some l.length ∧ mayE p.1 = 0) → (r.2 = some l.length → mayE r.1 = 0 → p.1 = r.1) →
        (if (rreadM l (some 0)).2 = some l.length ∧ encE (rreadM l (some 0)).1 = 0 ∧ layL (rreadM l (some 0)).1 = l then (0, (rreadM l (some 0)).1) else (49, oZ)) = if p.2 = some l.length ∧ mayE p.1 = 0 then (0, p.1) else ((49 : Nat), oZ) := by
      rintro r p hr hd hiff heq
      rw [hr]
      by_cases hc : r.2 = some l.length ∧ mayE r.1 = 0
      · have hk := key r.1 (by rw [hr]) (by rw [hr]; exact hc.1)
        rw [if_pos ⟨hc.1, (encE_may hk.symm (by omega) hd).2 hc.2, hk⟩, if_pos (hiff.1 hc), heq hc.1 hc.2]
      · rw [if_neg (fun h => hc ⟨h.1, encE_taken h.2.1⟩), if_neg (fun h => hc (hiff.2 h))]
    by_cases hk : kindIn (fixM l 1 (some 0)).1 = false
    · rw [if_pos hk]
      have hk2 : (fixM l 1 (some 0)).1 < 1 ∨ 4 < (fixM l 1 (some 0)).1 := by
        unfold kindIn at hk
        simp only [Bool.and_eq_false_iff, decide_eq_false_iff_not] at hk
        omega
      rw [if_neg]
      intro h
      have h1 := encE_taken h.2.1
      unfold rreadM at h1
      simp only at h1
      rw [if_neg (by omega), if_neg (by omega), if_neg (by omega), if_neg (by omega)] at h1
      unfold mayE at h1
      simp only [if_pos hk2] at h1
      cases h1
    · rw [if_neg hk]
      have hk2 : 1 ≤ (fixM l 1 (some 0)).1 ∧ (fixM l 1 (some 0)).1 ≤ 4 := by
        unfold kindIn at hk
        simpa using hk
      generalize hK : fixM l 1 (some 0) = K at hk2 both ⊢
      obtain ⟨K, s0⟩ := K
      simp only at hk2 ⊢
      rcases (by omega : K = 1 ∨ K = 2 ∨ K = 3 ∨ K = 4) with rfl | rfl | rfl | rfl
      · refine both ({ oZ with kind := 1, data := (rawM l (leftM l.length s0) s0).1 }, (rawM l (leftM l.length s0) s0).2) _ (by unfold rreadM; rw [hK]; rfl) (fun h => absurd rfl h) ?_ ?_
        · simp [readM]
        · simp [readM]
      · refine both ({ oZ with kind := 2, parts := (loopM (partM l) (varM l 128 s0).1 (varM l 128 s0).2).1 }, (loopM (partM l) (varM l 128 s0).1 (varM l 128 s0).2).2) _ (by unfold rreadM; rw [hK]; rfl) (fun _ => rfl) ?_ ?_
        · simp only [readM, eachM]
          cases hs : (loopM (partM l) (varM l 128 s0).1 (varM l 128 s0).2).2 <;> simp [hs]
        · intro h _
          simp only at h
          simp [readM, eachM, h]
      · refine both ({ oZ with kind := 3, items := (loopM (itemM l) (varM l 128 s0).1 (varM l 128 s0).2).1 }, (loopM (itemM l) (varM l 128 s0).1 (varM l 128 s0).2).2) _ (by unfold rreadM; rw [hK]; rfl) (fun _ => rfl) ?_ ?_
        · simp only [readM, eachM]
          cases hs : (loopM (itemM l) (varM l 128 s0).1 (varM l 128 s0).2).2 <;> simp [hs]
        · intro h _
          simp only at h
          simp [readM, eachM, h]
      · generalize hT : keyM l s0 = t at both
        generalize hV : varM l 128 t.2 = v at both
        generalize hS : loopM (keyM l) v.1 v.2 = ks
        generalize hM : fixM l 8 ks.2 = m
        generalize hX : textM l 1024 m.2 = x
        refine both ({ oZ with kind := 4, tree := t.1, parents := ks.1, time := signed64 m.1, note := strB x.1 }, x.2) _ (by unfold rreadM; rw [hK]; simp only; rw [hT, hV, hS, hM, hX]; rfl) (fun _ => rfl) ?_ ?_
        · simp only [readM, hT]
          by_cases hv : v.1 ≤ 127
          · have hV7 : varM l 127 t.2 = v := by rw [varM_less l (by decide : 127 ≤ 128), hV, if_pos hv]
            simp only [eachM, hV7, hS]
            simp only [show ¬ (4 = 1) by decide, show ¬ (4 = 2) by decide, show ¬ (4 = 3) by decide, if_false, hM, hX]
            cases hks : ks.2 with
            | none =>
              rw [hks] at hM
              have : m.2 = none := by rw [← hM]; rfl
              rw [this] at hX
              have : x.2 = none := by rw [← hX]; rfl
              simp [this]
            | some q => simp
          · have hV7 : varM l 127 t.2 = (0, none) := by rw [varM_less l (by decide : 127 ≤ 128), hV, if_neg hv]
            have hx7 : (textM l 1024 (fixM l 8 none).2).2 = none := rfl
            simp only [eachM, hV7, loopM]
            simp only [show ¬ (4 = 1) by decide, show ¬ (4 = 2) by decide, show ¬ (4 = 3) by decide, if_false]
            rw [hx7]
            constructor
            · rintro ⟨h1, h2⟩
              exfalso
              obtain ⟨q1, g1, _⟩ := textM_step hl 1024 m.2 l.length (by rw [hX]; exact h1)
              obtain ⟨q2, g2, _⟩ := fixM_step hl 8 ks.2 q1 (by rw [hM]; exact g1)
              obtain ⟨q3, g3, _, hlen⟩ := loopM_step (keyM_step) v.1 v.2 q2 (by rw [hS]; exact g2)
              rw [hS] at hlen
              have := (mayE_bounds h2).ks
              simp only at this
              omega
            · rintro ⟨h1, _⟩
              cases h1
        · intro h h2
          simp only at h
          have hks : ∃ q, ks.2 = some q := by
            obtain ⟨q1, g1, _⟩ := textM_step hl 1024 m.2 l.length (by rw [hX]; exact h)
            obtain ⟨q2, g2, _⟩ := fixM_step hl 8 ks.2 q1 (by rw [hM]; exact g1)
            exact ⟨q2, g2⟩
          obtain ⟨q, hq⟩ := hks
          have hlen : ks.1.length = v.1 := by
            obtain ⟨_, _, _, hlen⟩ := loopM_step (keyM_step) v.1 v.2 q (by rw [hS]; exact hq)
            rw [hS] at hlen
            exact hlen
          have := (mayE_bounds h2).ks
          simp only at this
          have hV7 : varM l 127 t.2 = v := by rw [varM_less l (by decide : 127 ≤ 128), hV, if_pos (by omega)]
          simp only [readM, eachM, hT, hV7, hS]
          simp only [show ¬ (4 = 1) by decide, show ¬ (4 = 2) by decide, show ¬ (4 = 3) by decide, if_false, hM, hX]
          simp [hq, hM, hX]
end Go.Proofs.YtkjndgapejbgcaaDoor

namespace Go.Proofs.YtkjndgapejbgcaaDoor
open Go.RowKit
set_option linter.unusedSimpArgs false
set_option linter.unusedVariables false

theorem varG_back (most : Nat) (hm : most < 18446744073709551616) : ∀ (f i v u : Nat) (r : List Nat), i + f = 10 → v + u * 128 ^ i ≤ most → (0 < i → 0 < u) → varG most f i v (varF f u ++ r) = some (v + u * 128 ^ i, i + (varF f u).length)
  | 0, i, v, u, r, hi, hv, hu => by
    have : i = 10 := by omega
    subst this
    have := hu (by omega)
    have h2 : 1 * 128 ^ 10 ≤ u * 128 ^ 10 := Nat.mul_le_mul_right _ this
    omega
  | f + 1, i, v, u, r, hi, hv, hu => by
    have h9 : i = 9 → u ≤ 1 := by
      intro h
      subst h
      omega
    unfold varF
    by_cases h1 : u < 128
    · rw [if_pos h1]
      simp only [List.singleton_append]
      unfold varG
      rw [if_neg (by intro h; have := h9 h.1; omega), if_pos h1, if_neg]
      · simp
      · rintro (⟨h2, h3⟩ | h2)
        · have := hu h3; omega
        · omega
    · rw [if_neg h1]
      have hn9 : i ≠ 9 := fun h => by have := h9 h; omega
      simp only [List.cons_append]
      unfold varG
      rw [if_neg (fun h => hn9 h.1), if_neg (by omega)]
      have e1 : u % 128 + 128 - 128 = u % 128 := by omega
      have e2 : v + u % 128 * 128 ^ i + u / 128 * 128 ^ (i + 1) = v + u * 128 ^ i := by
        rw [Nat.pow_succ, Nat.mul_comm (128 ^ i) 128, ← Nat.mul_assoc, Nat.add_assoc, ← Nat.add_mul, show u % 128 + u / 128 * 128 = u by omega]
      have e3 := varG_back most hm f (i + 1) (v + u % 128 * 128 ^ i) (u / 128) r (by omega) (by rw [e2]; exact hv) (fun _ => by omega)
      rw [e2] at e3
      rw [e1, e3, List.length_cons, Nat.add_assoc, Nat.add_comm 1]
section
variable {l : List Nat}
theorem drop_on {k : Nat} {x r : List Nat} (h : l.drop k = x ++ r) (hk : k ≤ l.length) : l.drop (k + x.length) = r ∧ k + x.length ≤ l.length := by
  constructor
  · rw [← List.drop_drop, h, List.drop_left']
    rfl
  · have := congrArg List.length h
    rw [List.length_drop, List.length_append] at this
    omega
theorem varM_back {most k u : Nat} {r : List Nat} (hm : most < 18446744073709551616) (hu : u ≤ most) (h : l.drop k = varL u ++ r) (hk : k ≤ l.length) : ∃ j, varM l most (some k) = (u, some j) ∧ l.drop j = r ∧ j ≤ l.length := by
  refine ⟨k + (varL u).length, ?_, drop_on h hk⟩
  simp only [varM]
  rw [h]
  unfold varL
  rw [varG_back most hm 10 0 0 u r rfl (by omega) (fun h => absurd h (by omega))]
  simp
theorem rawM_back {n k : Nat} {x r : List Nat} (hn : x.length = n) (h : l.drop k = x ++ r) (hk : k ≤ l.length) : ∃ j, rawM l n (some k) = (x, some j) ∧ l.drop j = r ∧ j ≤ l.length := by
  subst hn
  have hd := drop_on h hk
  refine ⟨k + x.length, ?_, hd⟩
  simp only [rawM]
  rw [if_pos (by omega), h, List.take_left']
  rfl
theorem leN_fixF : ∀ n u, u < 256 ^ n → leN (fixF n u) = u
  | 0, u, h => by simp at h; simp [fixF, leN, h]
  | n + 1, u, h => by
    rw [Nat.pow_succ, Nat.mul_comm] at h
    simp only [fixF, leN]
    rw [leN_fixF n (u / 256) (Nat.div_lt_of_lt_mul h)]
    omega
theorem fixM_back {n k u : Nat} {r : List Nat} (hu : u < 256 ^ n) (h : l.drop k = fixF n u ++ r) (hk : k ≤ l.length) : ∃ j, fixM l n (some k) = (u, some j) ∧ l.drop j = r ∧ j ≤ l.length := by
  obtain ⟨j, e, hj⟩ := rawM_back (fixF_length n u) h hk
  refine ⟨j, ?_, hj⟩
  unfold fixM
  rw [e]
  simp only
  rw [leN_fixF n u hu]
theorem textM_back {most k : Nat} {x r : List Nat} (hm : most < 18446744073709551616) (hx : x.length ≤ most) (h : l.drop k = varL x.length ++ (x ++ r)) (hk : k ≤ l.length) : ∃ j, textM l most (some k) = (x, some j) ∧ l.drop j = r ∧ j ≤ l.length := by
  obtain ⟨j, e, hj, hj2⟩ := varM_back hm hx h hk
  obtain ⟨j', e', hj'⟩ := rawM_back rfl hj hj2
  refine ⟨j', ?_, hj'⟩
  unfold textM
  rw [e]
  exact e'
theorem keyM_back {k : Nat} {x : Key32} {r : List Nat} (h : l.drop k = oneK x ++ r) (hk : k ≤ l.length) : ∃ j, keyM l (some k) = (x, some j) ∧ l.drop j = r ∧ j ≤ l.length := by
  obtain ⟨j, e, hj⟩ := rawM_back x.2 h hk
  refine ⟨j, ?_, hj⟩
  unfold keyM
  rw [e]
  rw [dif_pos x.2]
theorem partM_back {k : Nat} {x : PartT} {r : List Nat} (hx : x.2 ≤ 9223372036854775807) (h : l.drop k = oneP x ++ r) (hk : k ≤ l.length) : ∃ j, partM l (some k) = (x, some j) ∧ l.drop j = r ∧ j ≤ l.length := by
  unfold oneP at h
  rw [List.append_assoc] at h
  obtain ⟨j, e, hj, hj2⟩ := keyM_back (x := x.1) h hk
  obtain ⟨j', e', hj'⟩ := varM_back (by decide) hx hj hj2
  refine ⟨j', ?_, hj'⟩
  unfold partM
  rw [e]
  simp only
  rw [e']
theorem strB_strL (s : ByteArray) : strB (strL s) = s := strL_inj (by
  unfold strL strB
  simp only [List.map_map]
  apply List.ext_getElem (by simp)
  intro i h1 h2
  simp)
theorem itemM_back {k : Nat} {x : ItemT} {r : List Nat} (hn : x.1.size ≤ 64) (hx : okI x) (h : l.drop k = oneI x ++ r) (hk : k ≤ l.length) : ∃ j, itemM l (some k) = (x, some j) ∧ l.drop j = r ∧ j ≤ l.length := by
  unfold oneI at h
  simp only [List.append_assoc] at h
  rw [← strL_length] at h hn
  obtain ⟨j1, e1, h1, k1⟩ := textM_back (most := 64) (by decide) hn h hk
  obtain ⟨j2, e2, h2, k2⟩ := fixM_back (n := 1) (u := x.2.1) (r := varL x.2.2.1 ++ (oneK x.2.2.2 ++ r)) (by have := hx.2.1; omega) (by rw [h1]; have := hx.2.1; simp [fixF, Nat.mod_eq_of_lt this, oneK]) k1
  obtain ⟨j3, e3, h3, k3⟩ := varM_back (most := 18446744073709551615) (by decide) (by have := hx.2.2.1; omega) h2 k2
  obtain ⟨j4, e4, h4⟩ := keyM_back (x := x.2.2.2) h3 k3
  refine ⟨j4, ?_, h4⟩
  unfold itemM
  simp only [e1, e2, e3, e4, strB_strL]
theorem loopM_back {α : Type} {one : DSt → α × DSt} {f : α → List Nat} {ok : α → Prop} (hf : ∀ x k r, ok x → l.drop k = f x ++ r → k ≤ l.length → ∃ j, one (some k) = (x, some j) ∧ l.drop j = r ∧ j ≤ l.length) :
    ∀ (xs : List α) (k : Nat) (r : List Nat), (∀ x ∈ xs, ok x) → l.drop k = xs.flatMap f ++ r → k ≤ l.length → ∃ j, loopM one xs.length (some k) = (xs, some j) ∧ l.drop j = r ∧ j ≤ l.length
  | [], k, r, _, h, hk => ⟨k, rfl, by simpa using h, hk⟩
  | x :: xs, k, r, ho, h, hk => by
    rw [List.flatMap_cons, List.append_assoc] at h
    obtain ⟨j, e, hj, hj2⟩ := hf x k _ (ho x (by simp)) h hk
    obtain ⟨j', e', hj'⟩ := loopM_back hf xs j r (fun y hy => ho y (by simp [hy])) hj hj2
    refine ⟨j', ?_, hj'⟩
    simp only [List.length_cons, loopM, e, e']
end
theorem partsB_each : ∀ (s : Nat) (xs : List PartT), partsB s xs = true → ∀ x ∈ xs, x.2 ≤ 9223372036854775807
  | _, [], _, x, hx => by cases hx
  | s, y :: xs, h, x, hx => by
    simp only [partsB, Bool.and_eq_true, decide_eq_true_eq] at h
    rcases List.mem_cons.1 hx with rfl | hx
    · omega
    · exact partsB_each _ xs h.2 x hx
theorem itemsE_each : ∀ (p : Option ByteArray) (xs : List ItemT), itemsE p xs = 0 → ∀ x ∈ xs, x.1.size ≤ 64
  | _, [], _, x, hx => by cases hx
  | p, y :: xs, h, x, hx => by
    unfold itemsE at h
    split at h
    · cases h
    · split at h
      · cases h
      · split at h
        · cases h
        · rcases List.mem_cons.1 hx with rfl | hx
          · rename_i h1 _ _
            have h2 : nameOk x.1 = true := by simpa using h1
            unfold nameOk Fine at h2
            simp only [Bool.and_eq_true, decide_eq_true_eq] at h2
            omega
          · exact itemsE_each _ xs h x hx
/-- What is taken is read back, whatever stands behind it (but for a blob). -/
theorem rreadM_back {o : ObjT} (ho : Taken o) {l r : List Nat} (hl : l = layL o ++ r) (hr : o.kind = 1 → r = []) : ∃ j, rreadM l (some 0) = (o, some j) ∧ l.drop j = r ∧ j ≤ l.length := by
  have hm := ho.may
  obtain ⟨a1, a2, a3, a4⟩ := refFor_own o hm.hf
  have k1 := hm.k1
  have k4 := hm.k4
  have hp := hm.ps; have hx := hm.xs; have hq := hm.ks; have hke := hm.hk
  have h0 : l.drop 0 = [o.kind] ++ ((if o.kind = 1 then o.data else if o.kind = 2 then varL o.parts.length ++ o.parts.flatMap oneP else if o.kind = 3 then varL o.items.length ++ o.items.flatMap oneI else if o.kind = 4 then layT o else []) ++ r) := by
    rw [hl]
    simp [layL]
  obtain ⟨j0, e0, h1, l1⟩ := fixM_back (n := 1) (u := o.kind) (by omega) (by rw [h0]; simp only [fixF]; rw [Nat.mod_eq_of_lt (by omega)]) (Nat.zero_le _)
  unfold rreadM
  rw [e0]
  simp only
  rcases (by omega : o.kind = 1 ∨ o.kind = 2 ∨ o.kind = 3 ∨ o.kind = 4) with k | k | k | k
  · rw [if_pos k]
    rw [if_pos k] at h1
    obtain rfl := hr k
    obtain ⟨r1, r2, r3⟩ := refFor_rest o hm.hf (by omega)
    have hlen : leftM l.length (some j0) = o.data.length := by
      have := congrArg List.length h1
      rw [List.length_drop] at this
      simpa [leftM] using this
    rw [hlen]
    obtain ⟨j, e, h⟩ := rawM_back rfl h1 l1
    refine ⟨j, ?_, h⟩
    rw [e]
    obtain ⟨kd, dd, pp, xx, tt, ks, tm, nt⟩ := o
    simp only at *
    subst k r1 r2 r3
    rw [a2 (by omega), a3 (by omega), a4 (by omega)]
    rfl
  · rw [if_neg (by omega), if_pos k]
    rw [if_neg (by omega), if_pos k, List.append_assoc] at h1
    obtain ⟨r1, r2, r3⟩ := refFor_rest o hm.hf (by omega)
    obtain ⟨j1, e1, h2, l2⟩ := varM_back (most := 128) (by decide) hp h1 l1
    have hpb : partsB 0 o.parts = true := by
      unfold kindE at hke
      rw [if_pos k] at hke
      by_cases hb : partsB 0 o.parts = true
      · exact hb
      · rw [if_neg hb] at hke; cases hke
    obtain ⟨j2, e2, h3⟩ := loopM_back (one := partM l) (f := oneP) (ok := fun x => x.2 ≤ 9223372036854775807) (fun x k r h a b => partM_back h a b) o.parts j1 r (partsB_each 0 o.parts hpb) h2 l2
    refine ⟨j2, ?_, h3⟩
    rw [e1]
    simp only
    rw [e2]
    obtain ⟨kd, dd, pp, xx, tt, ks, tm, nt⟩ := o
    simp only at *
    subst k r1 r2 r3
    rw [a1 (by omega), a3 (by omega), a4 (by omega)]
    rfl
  · rw [if_neg (by omega), if_neg (by omega), if_pos k]
    rw [if_neg (by omega), if_neg (by omega), if_pos k, List.append_assoc] at h1
    obtain ⟨r1, r2, r3⟩ := refFor_rest o hm.hf (by omega)
    obtain ⟨j1, e1, h2, l2⟩ := varM_back (most := 128) (by decide) hx h1 l1
    have hib : itemsE none o.items = 0 := by
      unfold kindE at hke
      rw [if_neg (by omega), if_pos k] at hke
      exact hke
    obtain ⟨j2, e2, h3⟩ := loopM_back (one := itemM l) (f := oneI) (ok := fun x => x.1.size ≤ 64 ∧ okI x) (fun x k r h a b => itemM_back h.1 h.2 a b) o.items j1 r (fun x h => ⟨itemsE_each none o.items hib x h, ho.good.xs x h⟩) h2 l2
    refine ⟨j2, ?_, h3⟩
    rw [e1]
    simp only
    rw [e2]
    obtain ⟨kd, dd, pp, xx, tt, ks, tm, nt⟩ := o
    simp only at *
    subst k r1 r2 r3
    rw [a1 (by omega), a2 (by omega), a4 (by omega)]
    rfl
  · rw [if_neg (by omega), if_neg (by omega), if_neg (by omega), if_pos k]
    rw [if_neg (by omega), if_neg (by omega), if_neg (by omega), if_pos k] at h1
    unfold layT at h1
    simp only [List.append_assoc] at h1
    have hnb : o.note.size ≤ 1024 := by
      unfold kindE at hke
      rw [if_neg (by omega), if_neg (by omega), if_pos k] at hke
      by_cases hb : noteB o = true
      · rw [if_pos hb] at hke; cases hke
      · unfold noteB at hb
        simp only [Bool.or_eq_true, decide_eq_true_eq, not_or] at hb
        omega
    have ht := ho.good.time
    obtain ⟨j1, e1, h2, l2⟩ := keyM_back (x := o.tree) h1 l1
    obtain ⟨j2, e2, h3, l3⟩ := varM_back (most := 128) (by decide) (by omega) h2 l2
    obtain ⟨j3, e3, h4, l4⟩ := loopM_back (one := keyM l) (f := oneK) (ok := fun _ => True) (fun x k r _ a b => keyM_back a b) o.parents j2 _ (fun _ _ => trivial) h3 l3
    obtain ⟨j4, e4, h5, l5⟩ := fixM_back (n := 8) (u := (o.time % 18446744073709551616).toNat) (by omega) h4 l4
    rw [← strL_length] at h5 hnb
    obtain ⟨j5, e5, h6⟩ := textM_back (most := 1024) (by decide) hnb h5 l5
    refine ⟨j5, ?_, h6⟩
    rw [e1]
    simp only
    rw [e2]
    simp only
    rw [e3]
    simp only
    rw [e4]
    simp only
    rw [e5]
    simp only [strB_strL]
    have hs : signed64 (o.time % 18446744073709551616).toNat = o.time := by
      unfold signed64 wrap64
      omega
    rw [hs]
    obtain ⟨kd, dd, pp, xx, tt, ks, tm, nt⟩ := o
    simp only at *
    subst k
    rw [a1 (by omega), a2 (by omega), a3 (by omega)]
    rfl
theorem encE_len {o : ObjT} (h : encE o = 0) : (layL o).length ≤ 8192 := by
  unfold encE at h
  rw [if_neg (by simp [encE_taken h])] at h
  split at h
  · cases h
  · split at h
    · cases h
    · omega
/-- What Encode makes Decode gives back. -/
theorem decM_back {o : ObjT} (he : encE o = 0) (hg : Good o) (hd : ∀ x ∈ o.data, x < 256) : decM (layL o) = (0, o) := by
  have ht : Taken o := ⟨mayE_bounds (encE_taken he), hg⟩
  have hn := encE_len he
  obtain ⟨j, e, h1, h2⟩ := rreadM_back ht (l := layL o) (r := []) (by simp) (fun _ => rfl)
  have hj : j = (layL o).length := by
    have := congrArg List.length h1
    rw [List.length_drop] at this
    simp only [List.length_nil] at this
    omega
  rw [← rdecM_eq (layL_lt hg hd hg.kind)]
  unfold rdecM
  rw [if_neg (by omega), e, if_pos ⟨by rw [hj], he, rfl⟩]
/-- A byte more is no encoding. -/
theorem decM_more {o : ObjT} (he : encE o = 0) (hg : Good o) (hd : ∀ x ∈ o.data, x < 256) (hk : 1 < o.kind) {b : Nat} (hb : b < 256) : (decM (layL o ++ [b])).1 ≠ 0 := by
  have ht : Taken o := ⟨mayE_bounds (encE_taken he), hg⟩
  obtain ⟨j, e, h1, h2⟩ := rreadM_back ht (l := layL o ++ [b]) (r := [b]) rfl (fun h => by omega)
  have hj : ¬ j = (layL o ++ [b]).length := by
    intro h
    rw [h, List.drop_length] at h1
    cases h1
  rw [← rdecM_eq (fun x hx => by
    rcases List.mem_append.1 hx with h | h
    · exact layL_lt hg hd hg.kind x h
    · simp at h; omega)]
  unfold rdecM
  split
  · simp
  · rw [e, if_neg (fun h => hj (by simpa using h.1))]
    simp
/-- What Decode takes Encode makes again. -/
theorem decM_again {l : List Nat} (hl : ∀ x ∈ l, x < 256) (h : (decM l).1 = 0) : encE (decM l).2 = 0 ∧ layL (decM l).2 = l := by
  rw [← rdecM_eq hl] at h ⊢
  unfold rdecM at h ⊢
  by_cases h1 : 8192 < l.length
  · rw [if_pos h1] at h; cases h
  · rw [if_neg h1] at h ⊢
    split
    · rename_i h2
      exact ⟨h2.2.1, h2.2.2⟩
    · rename_i h2
      rw [if_neg h2] at h
      cases h
end Go.Proofs.YtkjndgapejbgcaaDoor

/- PinsWalk: what stands pinned, plain. -/
import Derived.Test.YtgjokkjmljdmbaaPnL
namespace Go.Proofs.Ytgjokkjmljdmbaa
open Go.RowKit Go.Maps
set_option linter.unusedSimpArgs false
set_option linter.unusedVariables false

abbrev Pn := Int × List Nat
/-- The session that a number means. -/
def sk (z : Pn) : Nat := (z.1 % 16).toNat
theorem sk_lt (z : Pn) : sk z < 16 := by unfold sk; omega
def pinF (f : Nat → List (List Nat)) (s : Nat) (x : List Nat) : Nat → List (List Nat) := fun i => if i = s then insK x (f s) else f i
def fOf (xs : List Pn) : Nat → List (List Nat) := xs.foldl (fun f z => pinF f (sk z) z.2) (fun _ => [])
theorem fOf_snoc (xs : List Pn) (z : Pn) : fOf (xs ++ [z]) = pinF (fOf xs) (sk z) z.2 := by simp [fOf, List.foldl_append]
theorem mem_fold : ∀ (xs : List Pn) (f : Nat → List (List Nat)) (i : Nat) (x : List Nat), x ∈ xs.foldl (fun f z => pinF f (sk z) z.2) f i ↔ x ∈ f i ∨ ∃ z ∈ xs, sk z = i ∧ z.2 = x
  | [], f, i, x => by simp
  | z :: xs, f, i, x => by
    rw [List.foldl_cons, mem_fold xs]
    unfold pinF
    by_cases h : i = sk z
    · subst h
      rw [if_pos rfl, mem_insK]
      constructor
      · rintro ((h | h) | ⟨y, hy, h⟩)
        · exact .inr ⟨z, by simp, rfl, h.symm⟩
        · exact .inl h
        · exact .inr ⟨y, by simp [hy], h⟩
      · rintro (h | ⟨y, hy, h⟩)
        · exact .inl (.inr h)
        · rcases List.mem_cons.1 hy with rfl | hy
          · exact .inl (.inl h.2.symm)
          · exact .inr ⟨y, hy, h⟩
    · rw [if_neg h]
      constructor
      · rintro (h' | ⟨y, hy, h'⟩)
        · exact .inl h'
        · exact .inr ⟨y, by simp [hy], h'⟩
      · rintro (h' | ⟨y, hy, h'⟩)
        · exact .inl h'
        · rcases List.mem_cons.1 hy with rfl | hy
          · exact absurd h'.1.symm h
          · exact .inr ⟨y, hy, h'⟩
theorem mem_fOf {xs : List Pn} {i : Nat} {x : List Nat} : x ∈ fOf xs i ↔ ∃ z ∈ xs, sk z = i ∧ z.2 = x := by
  unfold fOf
  rw [mem_fold]
  simp
theorem rise_fold : ∀ (xs : List Pn) (f : Nat → List (List Nat)), (∀ i, Rise32 (f i)) → (∀ z ∈ xs, IsK z.2) → ∀ i, Rise32 (xs.foldl (fun f z => pinF f (sk z) z.2) f i)
  | [], f, h, _, i => h i
  | z :: xs, f, h, hk, i => by
    rw [List.foldl_cons]
    refine rise_fold xs _ (fun j => ?_) (fun y hy => hk y (by simp [hy])) i
    unfold pinF
    split
    · exact (h _).ins (hk z (by simp))
    · exact h j
theorem rise_fOf {xs : List Pn} (h : ∀ z ∈ xs, IsK z.2) (i : Nat) : Rise32 (fOf xs i) := rise_fold xs _ (fun _ => Rise32.nil) h i
theorem length_insK_le (x : List Nat) : ∀ ks : List (List Nat), (insK x ks).length ≤ ks.length + 1
  | [] => by simp [insK]
  | y :: r => by
    unfold insK
    split
    · simp
    · split
      · simp
      · have := length_insK_le x r
        simp
        omega
theorem length_fold : ∀ (xs : List Pn) (f : Nat → List (List Nat)) (i : Nat), (xs.foldl (fun f z => pinF f (sk z) z.2) f i).length ≤ (f i).length + xs.countP (fun z => decide (sk z = i))
  | [], f, i => by simp
  | z :: xs, f, i => by
    rw [List.foldl_cons]
    have h1 := length_fold xs (pinF f (sk z) z.2) i
    rw [List.countP_cons]
    unfold pinF at h1 ⊢
    by_cases h : i = sk z
    · subst h
      rw [if_pos rfl] at h1
      have := length_insK_le z.2 (f (sk z))
      simp
      omega
    · rw [if_neg h] at h1
      have : ¬ sk z = i := fun e => h e.symm
      simp [this]
      omega
theorem length_fOf (xs : List Pn) (i : Nat) : (fOf xs i).length ≤ xs.countP (fun z => decide (sk z = i)) := by
  have := length_fold xs (fun _ => []) i
  simpa [fOf] using this
/-- The next of rising keys. -/
theorem find_after : ∀ {F : List (List Nat)}, Rise32 F → ∀ {j : Nat} {l : List Nat}, F[j]? = some l → F.find? (passK false l) = F[j + 1]?
  | [], _, j, l, h => by simp at h
  | y :: r, hr, j, l, h => by
    obtain ⟨h1, h2⟩ := List.pairwise_cons.1 hr.up
    cases j with
    | zero =>
      simp only [List.getElem?_cons_zero, Option.some.injEq] at h
      subst h
      have hn : passK false y y = false := by simp [passK, cmpK_self]
      rw [List.find?_cons, hn]
      cases r with
      | nil => rfl
      | cons z r' =>
        have hz : passK false y z = true := by
          have := h1 z (by simp)
          have := cmpK_swap y z
          simp only [passK, Bool.false_or]
          exact decide_eq_true (by omega)
        simp [hz]
    | succ j =>
      have h' : r[j]? = some l := by simpa using h
      have hlt := h1 l (List.mem_of_getElem? h')
      have hn : passK false l y = false := by
        simp only [passK, Bool.false_or]
        exact decide_eq_false (by omega)
      rw [List.find?_cons, hn]
      have := find_after hr.tail h'
      simpa using this
theorem find_any (F : List (List Nat)) (af : List Nat) : F.find? (passK true af) = F[0]? := by
  cases F <;> simp [passK]
/-- All sixteen are open. -/
def All16 (L : List (Option Ses)) (f : Nat → List (List Nat)) (N : Nat) : Prop := ∀ i, i < 16 → ∃ σ, L[i]? = some (some σ) ∧ σ.ks = f i ∧ σ.busy = 0 ∧ σ.n ≤ N
def cfS (f : Nat → List (List Nat)) (x : List Nat) : Nat := (List.range 16).countP fun i => decide (x ∈ f i)
theorem cnt_all {L : List (Option Ses)} {f : Nat → List (List Nat)} {N : Nat} (hl : L.length = 16) (h : All16 L f N) (x : List Nat) : cntS L x = cfS f x := by
  have : L.map (fun y => y.any fun σ => decide (x ∈ σ.ks)) = (List.range 16).map fun i => decide (x ∈ f i) := by
    apply List.ext_getElem
    · simp [hl]
    · intro i h1 h2
      have hi : i < 16 := by simpa using h2
      obtain ⟨σ, h3, h4, _⟩ := h i hi
      rw [List.getElem_map, List.getElem_map]
      have := (List.getElem?_eq_some_iff.1 h3).2
      simp [this, h4]
  have e1 : cntS L x = (L.map (fun y => y.any fun σ => decide (x ∈ σ.ks))).countP id := by simp [cntS, List.countP_map, Function.comp_def]
  have e2 : cfS f x = ((List.range 16).map fun i => decide (x ∈ f i)).countP id := by simp [cfS, List.countP_map, Function.comp_def]
  rw [e1, e2, this]
theorem countP_set {α : Type} (p : α → Bool) : ∀ (l : List α) (i : Nat) (y z : α), l[i]? = some y → (l.set i z).countP p + (if p y then 1 else 0) = l.countP p + (if p z then 1 else 0)
  | [], i, y, z, h => by simp at h
  | a :: l, 0, y, z, h => by
    simp only [List.getElem?_cons_zero, Option.some.injEq] at h
    subst h
    simp only [List.set_cons_zero, List.countP_cons]
    omega
  | a :: l, i + 1, y, z, h => by
    have := countP_set p l i y z (by simpa using h)
    simp only [List.set_cons_succ, List.countP_cons]
    omega
theorem cnt_closed {L : List (Option Ses)} {f : Nat → List (List Nat)} {N : Nat} (hl : L.length = 16) (h : All16 L f N) (x : List Nat) {s : Nat} (hs : s < 16) :
    cntS (L.set s none) x + (if x ∈ f s then 1 else 0) = cfS f x := by
  obtain ⟨σ, h1, h2, _⟩ := h s hs
  have := countP_set (fun y : Option Ses => y.any fun σ => decide (x ∈ σ.ks)) L s (some σ) none h1
  rw [← cnt_all hl h x]
  unfold cntS
  simp only [Option.any_some, Option.any_none, Bool.false_eq_true, if_false, decide_eq_true_eq, h2] at this
  omega
theorem cf_pos {f : Nat → List (List Nat)} {x : List Nat} {i : Nat} (hi : i < 16) (hx : x ∈ f i) : 1 ≤ cfS f x := by
  unfold cfS
  exact List.countP_pos_iff.2 ⟨i, by simpa using hi, by simpa using hx⟩
/-- Behind a Pin. -/
theorem All16.pin {L : List (Option Ses)} {f : Nat → List (List Nat)} {N : Nat} (h : All16 L f N) {s : Nat} (hs : s < 16) (hl : L.length = 16) (x : List Nat) :
    All16 (pinL L s x) (pinF f s x) (N + 1) := by
  obtain ⟨σ, h1, h2, h3, h4⟩ := h s hs
  have hat : atS L s = some σ := by
    unfold atS
    rw [if_pos (by omega), Int.toNat_natCast, h1, Option.getD_some]
  unfold pinL
  rw [hat]
  intro i hi
  simp only [Int.toNat_natCast]
  unfold pinF
  rw [List.getElem?_set]
  by_cases e : s = i
  · subst e
    rw [if_pos rfl, if_pos (by omega), if_pos rfl]
    exact ⟨pinS x σ, rfl, by simp [pinS, h2], h3, by simp [pinS]; omega⟩
  · rw [if_neg e, if_neg (fun h => e h.symm)]
    obtain ⟨τ, a1, a2, a3, a4⟩ := h i hi
    exact ⟨τ, a1, a2, a3, by omega⟩
theorem at_all {L : List (Option Ses)} {f : Nat → List (List Nat)} {N : Nat} (h : All16 L f N) {s : Nat} (hs : s < 16) : ∃ σ, atS L s = some σ ∧ σ.ks = f s ∧ σ.busy = 0 ∧ σ.n ≤ N := by
  obtain ⟨σ, h1, h2⟩ := h s hs
  exact ⟨σ, by unfold atS; rw [if_pos (by omega), Int.toNat_natCast, h1, Option.getD_some], h2⟩
/-- Pins with a lower bound for what is written. -/
structure PinsB (B : Nat) (w : World) (p : Nat) (L : List (Option Ses)) : Prop where
  pins : PinsAt w p L
  lo : ∀ k, Wr p L k → B ≤ k
theorem wr_set {p : Nat} {L : List (Option Ses)} {i : Nat} {y : Option Ses} {k : Nat} (h : Wr p (L.set i y) k) : Wr p L k ∨ ∃ σ, y = some σ ∧ (k = σ.sb ∨ k = σ.mb) := by
  rcases h with h | ⟨j, σ, hj, hk⟩
  · exact .inl (.inl h)
  · rw [List.getElem?_set] at hj
    split at hj
    · split at hj
      · simp only [Option.some.injEq] at hj
        exact .inr ⟨σ, hj, hk⟩
      · cases hj
    · exact .inl (.inr ⟨j, σ, hj, hk⟩)
theorem PinsB.pin {B : Nat} {w w' : World} {p : Nat} {L : List (Option Ses)} {s : Int} {x : List Nat} (h : PinsB B w p L) (hB : B ≤ w.heap.size) (hp : PinsAt w' p (pinL L s x)) (hu : Upd (Wr p L) w w') : PinsB B w' p (pinL L s x) ∧ Below B w w' := by
  refine ⟨⟨hp, fun k hk => ?_⟩, hu.below (fun k _ hk => h.lo k hk) hB⟩
  unfold pinL at hk
  split at hk
  · exact h.lo k hk
  · rename_i σ hσ
    rcases wr_set hk with hk | ⟨τ, hτ, hk⟩
    · exact h.lo k hk
    · cases hτ
      obtain ⟨j, rfl, hj, hL⟩ := h.pins.atS_some hσ
      rename_i hk'
      exact h.lo k (.inr ⟨j, σ, hL, hk'⟩)
/-- The first n are open. -/
structure OpenN (B : Nat) (w : World) (p : Nat) (L : List (Option Ses)) (n : Nat) : Prop where
  pins : PinsB B w p L
  yes : ∀ i, i < n → ∃ σ, L[i]? = some (some σ) ∧ σ.ks = [] ∧ σ.busy = 0 ∧ σ.n ≤ 0
  no : ∀ i, n ≤ i → i < 16 → L[i]? = some none
theorem OpenN.next {B : Nat} {w w' : World} {p : Nat} {L : List (Option Ses)} {n : Nat} (h : OpenN B w p L n) (hn : n < 16) (hB : B ≤ w.heap.size) {σ : Ses} (hf : Fresh w.heap.size σ) (hp : PinsAt w' p (L.set n (some σ))) (hu : Upd (Wr p L) w w') :
    OpenN B w' p (L.set n (some σ)) (n + 1) ∧ Below B w w' := by
  have hl : L.length = 16 := h.pins.pins.len
  refine ⟨⟨⟨hp, fun k hk => ?_⟩, fun i hi => ?_, fun i hi hi2 => ?_⟩, hu.below (fun k _ hk => h.pins.lo k hk) hB⟩
  · rcases wr_set hk with hk | ⟨τ, hτ, hk⟩
    · exact h.pins.lo k hk
    · cases hτ
      have := hf.lo
      omega
  · rw [List.getElem?_set]
    by_cases e : n = i
    · subst e
      rw [if_pos rfl, if_pos (by omega)]
      exact ⟨σ, rfl, hf.ks, hf.busy, Nat.le_of_eq hf.n⟩
    · rw [if_neg e]
      exact h.yes i (by omega)
  · rw [List.getElem?_set, if_neg (by omega)]
    exact h.no i (by omega) hi2
theorem OpenN.all {B : Nat} {w : World} {p : Nat} {L : List (Option Ses)} (h : OpenN B w p L 16) : All16 L (fOf []) 0 := fun i hi => h.yes i hi
theorem openN_new {w w' : World} (h : PinsAt w' w.heap.size (List.replicate 16 none)) : OpenN w.heap.size w' w.heap.size (List.replicate 16 none) 0 := by
  refine ⟨⟨h, fun k hk => ?_⟩, fun i hi => absurd hi (by omega), fun i _ hi => by rw [List.getElem?_replicate, if_pos hi]⟩
  rcases hk with rfl | ⟨i, σ, hi, _⟩
  · exact Nat.le_refl _
  · rw [List.getElem?_replicate] at hi
    split at hi <;> cases hi
theorem PinsB.below {B B' : Nat} {w w' : World} {p : Nat} {L : List (Option Ses)} (h : PinsB B w p L) (hb : Below B' w w') (hB : w.heap.size ≤ B') : PinsB B w' p L := ⟨h.pins.below hb hB, h.lo⟩
/-- A list of pins in memory. -/
def encP (z : Pn) : List Value := .int .i64 z.1 :: u8s z.2
def PRow (w : World) (A : Option Addr) (xs : List Pn) : Prop :=
  ∀ (k : Nat) z, xs[k]? = some z → IsK z.2 ∧ (-9223372036854775808 ≤ z.1 ∧ z.1 ≤ 9223372036854775807) ∧ ∃ b off, A = some ⟨b, off, none⟩ ∧ b < w.heap.size ∧ w.rangeAt b (off + k * 33) (encP z)
theorem PRow.below {B : Nat} {w w' : World} {A : Option Addr} {xs : List Pn} (h : PRow w A xs) (hb : Below B w w') (hB : w.heap.size ≤ B) : PRow w' A xs := fun k z hz => by
  obtain ⟨h1, h2, b, off, e, hl, hr⟩ := h k z hz
  exact ⟨h1, h2, b, off, e, Nat.lt_of_lt_of_le hl hb.size, fun j v hv => (hb.cell (p := ⟨b, off + k * 33 + j, none⟩) (Nat.lt_of_lt_of_le hl hB)).trans (hr j v hv)⟩
theorem and15 (n : Int) : bits .and .i64 n 15 = n % 16 := by
  have h : (BitVec.ofInt 64 n &&& BitVec.ofInt 64 15).toNat = (n % 16).toNat := by
    rw [BitVec.toNat_and]
    have h2 : (BitVec.ofInt 64 15).toNat = 2 ^ 4 - 1 := by decide
    rw [h2, Nat.and_two_pow_sub_one_eq_mod, BitVec.toNat_ofInt]
    omega
  show IntKind.i64.wrap ((BitVec.ofInt 64 n &&& BitVec.ofInt 64 15).toNat : Int) = _
  rw [h, IntKind.wrap_i64]
  omega
end Go.Proofs.Ytgjokkjmljdmbaa

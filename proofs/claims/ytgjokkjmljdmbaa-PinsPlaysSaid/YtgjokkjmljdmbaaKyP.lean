/- Sets of keys as rising lists: plain. -/
import Derived.Test.YtgjokkjmljdmbaaKyN
namespace Go.Proofs.Ytgjokkjmljdmbaa
open Go.RowKit Go.Maps
set_option linter.unusedSimpArgs false
set_option linter.unusedVariables false

theorem cmp_trans : ∀ a b c : List UInt8, Lib.compareBytes a b < 0 → Lib.compareBytes b c < 0 → Lib.compareBytes a c < 0
  | [], [], _, h, _ => by simp [Lib.compareBytes] at h
  | [], _ :: _, [], _, h => by simp [Lib.compareBytes] at h
  | [], _ :: _, _ :: _, _, _ => by simp [Lib.compareBytes]
  | _ :: _, [], _, h, _ => by simp [Lib.compareBytes] at h
  | _ :: _, _ :: _, [], _, h => by simp [Lib.compareBytes] at h
  | a :: r1, b :: r2, c :: r3, h1, h2 => by
    have ih := cmp_trans r1 r2 r3
    unfold Lib.compareBytes at h1 h2 ⊢
    simp only [UInt8.lt_iff_toNat_lt] at h1 h2 ⊢
    split at h1
    · split at h2
      · rw [if_pos (by omega)]; decide
      · split at h2
        · omega
        · rw [if_pos (by omega)]; decide
    · split at h1
      · omega
      · split at h2
        · rw [if_pos (by omega)]; decide
        · split at h2
          · omega
          · rw [if_neg (by omega), if_neg (by omega)]
            exact ih h1 h2
/-- A key: thirty-two bytes. -/
def IsK (x : List Nat) : Prop := x.length = 32 ∧ ∀ b ∈ x, b < 256
theorem b8_inj : ∀ {x y : List Nat}, (∀ b ∈ x, b < 256) → (∀ b ∈ y, b < 256) → b8 x = b8 y → x = y
  | [], [], _, _, _ => rfl
  | [], _ :: _, _, _, h => by simp [b8] at h
  | _ :: _, [], _, _, h => by simp [b8] at h
  | a :: x, b :: y, hx, hy, h => by
    simp only [b8, List.map_cons, List.cons.injEq] at h
    have ha := hx a (by simp)
    have hb := hy b (by simp)
    have e : a = b := by
      have := congrArg UInt8.toNat h.1
      simp [Nat.toUInt8] at this
      omega
    rw [e, b8_inj (fun c hc => hx c (by simp [hc])) (fun c hc => hy c (by simp [hc])) h.2]
theorem cmpK_eq {x y : List Nat} (hx : IsK x) (hy : IsK y) (h : cmpK x y = 0) : x = y :=
  b8_inj hx.2 hy.2 (by
    have := cmp_zero (b8 x) (b8 y)
    unfold cmpK at h
    rw [h] at this
    simpa using this)
theorem cmpK_swap (x y : List Nat) : cmpK y x = -cmpK x y := cmp_neg _ _
theorem cmpK_tr {a b c : List Nat} (h1 : cmpK a b < 0) (h2 : cmpK b c < 0) : cmpK a c < 0 := cmp_trans _ _ _ h1 h2
/-- Rising keys. -/
structure Rise32 (ks : List (List Nat)) : Prop where
  ok : ∀ x ∈ ks, IsK x
  up : ks.Pairwise fun x y => cmpK x y < 0
theorem Rise32.nil : Rise32 [] := ⟨by simp, List.Pairwise.nil⟩
theorem Rise32.tail {x : List Nat} {ks : List (List Nat)} (h : Rise32 (x :: ks)) : Rise32 ks := ⟨fun y hy => h.ok y (by simp [hy]), (List.pairwise_cons.1 h.up).2⟩
theorem Rise32.not_mem {x : List Nat} {ks : List (List Nat)} (h : Rise32 (x :: ks)) : x ∉ ks := fun hm => by
  have := (List.pairwise_cons.1 h.up).1 x hm
  rw [cmpK_self] at this
  omega
/-- Two rising lists of the same keys are one. -/
theorem Rise32.ext : ∀ {a b : List (List Nat)}, Rise32 a → Rise32 b → (∀ x, x ∈ a ↔ x ∈ b) → a = b
  | [], [], _, _, _ => rfl
  | [], y :: b, _, _, h => by have := (h y).2 (by simp); simp at this
  | x :: a, [], _, _, h => by have := (h x).1 (by simp); simp at this
  | x :: a, y :: b, ha, hb, h => by
    have e : x = y := by
      rcases List.mem_cons.1 ((h x).1 (by simp)) with e | hx
      · exact e
      · rcases List.mem_cons.1 ((h y).2 (by simp)) with e | hy
        · exact e.symm
        · have h1 := (List.pairwise_cons.1 hb.up).1 x hx
          have h2 := (List.pairwise_cons.1 ha.up).1 y hy
          rw [cmpK_swap] at h1
          omega
    subst e
    rw [Rise32.ext ha.tail hb.tail fun z => ?_]
    have hz := h z
    simp only [List.mem_cons] at hz
    constructor
    · intro hm
      rcases hz.1 (.inr hm) with e | hm'
      · subst e; exact absurd hm ha.not_mem
      · exact hm'
    · intro hm
      rcases hz.2 (.inr hm) with e | hm'
      · subst e; exact absurd hm hb.not_mem
      · exact hm'
/-- A key laid in. -/
def insK (x : List Nat) : List (List Nat) → List (List Nat)
  | [] => [x]
  | y :: r => if cmpK x y < 0 then x :: y :: r else if x = y then y :: r else y :: insK x r
theorem mem_insK {x z : List Nat} : ∀ {ks : List (List Nat)}, z ∈ insK x ks ↔ z = x ∨ z ∈ ks
  | [] => by simp [insK]
  | y :: r => by
    unfold insK
    split
    · simp
    · split
      · rename_i h; subst h; simp
      · simp only [List.mem_cons, mem_insK (ks := r)]
        constructor
        · rintro (h | h | h) <;> simp [h]
        · rintro (h | h | h) <;> simp [h]
theorem Rise32.ins {x : List Nat} (hx : IsK x) : ∀ {ks : List (List Nat)}, Rise32 ks → Rise32 (insK x ks)
  | [], _ => ⟨by simp [insK]; exact hx, by simp [insK]⟩
  | y :: r, h => by
    have hy := h.ok y (by simp)
    obtain ⟨h1, h2⟩ := List.pairwise_cons.1 h.up
    unfold insK
    split
    · rename_i hlt
      exact ⟨fun z hz => by rcases List.mem_cons.1 hz with rfl | hz; exact hx; exact h.ok z hz, List.pairwise_cons.2 ⟨fun z hz => by
        rcases List.mem_cons.1 hz with rfl | hz
        · exact hlt
        · exact cmpK_tr hlt (h1 z hz), h.up⟩⟩
    · split
      · exact h
      · rename_i hge hne
        have ih := Rise32.ins hx h.tail
        refine ⟨fun z hz => ?_, List.pairwise_cons.2 ⟨fun z hz => ?_, ih.up⟩⟩
        · rcases List.mem_cons.1 hz with rfl | hz
          · exact hy
          · exact ih.ok z hz
        · rcases mem_insK.1 hz with rfl | hz
          · have h0 : cmpK z y ≠ 0 := fun e => hne (cmpK_eq hx hy e)
            have := cmpK_swap y z
            omega
          · exact h1 z hz
theorem insK_of_mem {x : List Nat} {ks : List (List Nat)} (h : Rise32 ks) (hm : x ∈ ks) : insK x ks = ks :=
  Rise32.ext (h.ins (h.ok x hm)) h fun z => by rw [mem_insK]; exact ⟨fun e => by rcases e with rfl | e; exact hm; exact e, .inr⟩
theorem length_insK {x : List Nat} : ∀ {ks : List (List Nat)}, Rise32 ks → x ∉ ks → (insK x ks).length = ks.length + 1
  | [], _, _ => rfl
  | y :: r, h, hm => by
    unfold insK
    split
    · rfl
    · split
      · rename_i e; subst e; simp at hm
      · have ih := length_insK h.tail (x := x) (fun hr => hm (List.mem_cons_of_mem _ hr))
        simp only [List.length_cons, ih]
/-- A key struck out. -/
def delK (x : List Nat) (ks : List (List Nat)) : List (List Nat) := ks.filter fun y => y != x
theorem mem_delK {x z : List Nat} {ks : List (List Nat)} : z ∈ delK x ks ↔ z ∈ ks ∧ z ≠ x := by simp [delK]
theorem Rise32.filter {ks : List (List Nat)} (h : Rise32 ks) (p : List Nat → Bool) : Rise32 (ks.filter p) := ⟨fun y hy => h.ok y (List.mem_filter.1 hy).1, h.up.filter p⟩
theorem Rise32.del {x : List Nat} {ks : List (List Nat)} (h : Rise32 ks) : Rise32 (delK x ks) := h.filter _
theorem delK_of_not {x : List Nat} {ks : List (List Nat)} (hm : x ∉ ks) : delK x ks = ks := List.filter_eq_self.2 fun y hy => by
  have : y ≠ x := fun e => hm (e ▸ hy)
  simpa using this
/-- The keys of many, in a row. -/
def insAll (xs : List (List Nat)) (ks : List (List Nat)) : List (List Nat) := xs.foldl (fun l x => insK x l) ks
theorem mem_insAll {z : List Nat} : ∀ {xs ks : List (List Nat)}, z ∈ insAll xs ks ↔ z ∈ xs ∨ z ∈ ks
  | [], ks => by simp [insAll]
  | x :: xs, ks => by
    show z ∈ insAll xs (insK x ks) ↔ _
    rw [mem_insAll, mem_insK, List.mem_cons]
    constructor
    · rintro (h | h | h) <;> simp [h]
    · rintro ((h | h) | h) <;> simp [h]
theorem Rise32.insAll : ∀ {xs ks : List (List Nat)}, (∀ x ∈ xs, IsK x) → Rise32 ks → Rise32 (insAll xs ks)
  | [], _, _, h => h
  | x :: xs, ks, hx, h => Rise32.insAll (xs := xs) (fun y hy => hx y (by simp [hy])) (h.ins (hx x (by simp)))

/-- The keys of a set that reads as D. -/
structure KsOf (D : DataW Unit) (ks : List (List Nat)) : Prop where
  rise : Rise32 ks
  tidy : Tidy D
  size : Maps.size D = ks.length
  iff : ∀ x l, keyOf Try.prog 29 (.agg (u8s x).toArray) = some l → (Maps.has D l = true ↔ x ∈ ks)
section
variable {D : DataW Unit} {ks : List (List Nat)} {x : List Nat} {l : Lit}
theorem isK_of_key (h : keyOf Try.prog 29 (.agg (u8s x).toArray) = some l) : IsK x := by
  obtain ⟨y, e, h1, h2⟩ := keyOf_inv h
  have : x = y := u8s_inj (by simpa using Value.agg.inj e)
  subst this
  exact ⟨h1, h2⟩
theorem key_is (h : keyOf Try.prog 29 (.agg (u8s x).toArray) = some l) : WideAt.IsKeyLit l := lawK.key h
theorem KsOf.empty : KsOf (.map []) [] := ⟨Rise32.nil, tidy_empty, rfl, fun x l _ => by simp [Maps.has]⟩
theorem KsOf.has (h : KsOf D ks) (hk : keyOf Try.prog 29 (.agg (u8s x).toArray) = some l) : Maps.has D l = decide (x ∈ ks) := by
  have := h.iff x l hk
  by_cases hm : x ∈ ks
  · rw [this.2 hm]; simp [hm]
  · cases hh : Maps.has D l
    · simp [hm]
    · exact absurd (this.1 hh) hm
theorem KsOf.put (h : KsOf D ks) (hk : keyOf Try.prog 29 (.agg (u8s x).toArray) = some l) : KsOf (D.put l (.agg [])) (insK x ks) := by
  have hx := isK_of_key hk
  refine ⟨h.rise.ins hx, h.tidy.put (key_is hk) _, ?_, fun y ly hy => ?_⟩
  · rw [size_put h.tidy, h.has hk]
    by_cases hm : x ∈ ks
    · simp only [hm, decide_true, if_true]
      rw [insK_of_mem h.rise hm]
      exact h.size
    · simp only [hm, decide_false, Bool.false_eq_true, if_false]
      rw [length_insK h.rise hm, h.size]
  · rw [mem_insK]
    by_cases e : ly = l
    · subst e
      rw [has_put_same h.tidy.isMap (key_is hk)]
      exact ⟨fun _ => .inl (key_inj hy hk), fun _ => rfl⟩
    · rw [has_put_other e, h.iff y ly hy]
      refine ⟨.inr, fun h' => ?_⟩
      rcases h' with rfl | h'
      · rw [hk] at hy
        exact absurd (Option.some.inj hy).symm e
      · exact h'
theorem KsOf.del (h : KsOf D ks) (hk : keyOf Try.prog 29 (.agg (u8s x).toArray) = some l) : KsOf (D.del l) (delK x ks) := by
  have hx := isK_of_key hk
  have hiff : ∀ y ly, keyOf Try.prog 29 (.agg (u8s y).toArray) = some ly → (Maps.has (D.del l) ly = true ↔ y ∈ delK x ks) := fun y ly hy => by
    rw [mem_delK]
    by_cases e : ly = l
    · subst e
      rw [has_del_same]
      exact ⟨(fun h' => by cases h'), fun h' => absurd (key_inj hy hk) h'.2⟩
    · rw [has_del_other e, h.iff y ly hy]
      refine ⟨fun h' => ⟨h', fun e2 => ?_⟩, fun h' => h'.1⟩
      subst e2
      rw [hk] at hy
      exact e (Option.some.inj hy).symm
  refine ⟨h.rise.del, h.tidy.del l, ?_, hiff⟩
  have hs := size_del (k := l) h.tidy
  rw [h.has hk, h.size] at hs
  by_cases hm : x ∈ ks
  · simp only [hm, decide_true, if_true] at hs
    have hl : ∀ {ks : List (List Nat)}, Rise32 ks → x ∈ ks → (delK x ks).length + 1 = ks.length := by
      intro ks
      induction ks with
      | nil => intro _ hm; simp at hm
      | cons y r ih =>
        intro hr hm
        rcases List.mem_cons.1 hm with rfl | hm
        · have := delK_of_not hr.not_mem
          unfold delK at this ⊢
          rw [List.filter_cons]
          simp [this]
        · have hne : y ≠ x := fun e => hr.not_mem (e ▸ hm)
          have := ih hr.tail hm
          unfold delK at this ⊢
          rw [List.filter_cons]
          simp [hne]
          exact this
    have := hl h.rise hm
    omega
  · simp only [hm, decide_false, Bool.false_eq_true, if_false] at hs
    rw [delK_of_not hm]
    omega
/-- What Next tells. -/
theorem KsOf.next {any F : Bool} {af L : List Nat} (h : KsOf D ks) (hn : NxL D any af (fun _ => false) F L) : F = (ks.find? (passK any af)).isSome ∧ L = (ks.find? (passK any af)).getD (zeros 32) := by
  cases F with
  | false =>
    obtain ⟨h1, h2⟩ := hn.no rfl
    have hf : ks.find? (passK any af) = none := List.find?_eq_none.2 fun y hy hp => by
      have hk := h.rise.ok y hy
      obtain ⟨l, hl⟩ := keyOf_u8s y hk.1 hk.2
      have := h2 y l hl ((h.iff y l hl).2 hy) hp
      cases this
    rw [hf]
    exact ⟨rfl, h1⟩
  | true =>
    obtain ⟨⟨l, hl, hh⟩, hp, hmin⟩ := hn.yes rfl
    have hm := (h.iff L l hl).1 hh
    have hf : ks.find? (passK any af) = some L := by
      have : ∀ {ks : List (List Nat)}, Rise32 ks → L ∈ ks → (∀ y ∈ ks, passK any af y = true → ¬ cmpK y L < 0) → ks.find? (passK any af) = some L := by
        intro ks
        induction ks with
        | nil => intro _ hm; simp at hm
        | cons y r ih =>
          intro hr hm hmin
          by_cases e : y = L
          · subst e; simp [hp]
          · have hmr : L ∈ r := by rcases List.mem_cons.1 hm with e' | hm; exact absurd e'.symm e; exact hm
            have hlt := (List.pairwise_cons.1 hr.up).1 L hmr
            have hpy : passK any af y = false := by
              cases hpy : passK any af y
              · rfl
              · exact absurd hlt (hmin y (by simp) hpy)
            rw [List.find?_cons, hpy]
            exact ih hr.tail hmr fun z hz => hmin z (by simp [hz])
      refine this h.rise hm fun y hy hpy => ?_
      have hk := h.rise.ok y hy
      obtain ⟨ly, hly⟩ := keyOf_u8s y hk.1 hk.2
      exact hmin y ly hly ((h.iff y ly hly).2 hy) hpy rfl
    rw [hf]
    exact ⟨rfl, rfl⟩
end
theorem ksOf_fold : ∀ (xs : List (List Nat)) (ls : List Lit) (D : DataW Unit) (ks : List (List Nat)), KsOf D ks → xs.length = ls.length → (∀ (k : Nat) x l, xs[k]? = some x → ls[k]? = some l → keyOf Try.prog 29 (.agg (u8s x).toArray) = some l) →
    KsOf (ls.foldl (fun m x => m.put x (.agg [])) D) (insAll xs ks)
  | [], [], _, _, h, _, _ => h
  | [], _ :: _, _, _, _, h, _ => by simp at h
  | _ :: _, [], _, _, _, h, _ => by simp at h
  | x :: xs, l :: ls, D, ks, h, hl, hk => by
    rw [List.foldl_cons]
    exact ksOf_fold xs ls _ _ (h.put (hk 0 x l rfl rfl)) (by simpa using hl) fun k x' l' h1 h2 => hk (k + 1) x' l' (by simpa using h1) (by simpa using h2)
end Go.Proofs.Ytgjokkjmljdmbaa

/- Next of a set of keys. -/
import Derived.Test.YtgjokkjmljdmbaaKyA
import Derived.Test.YtgjokkjmljdmbaaCmp
import Derived.Maps.RangeWalk
namespace Go.Proofs.Ytgjokkjmljdmbaa
open Go.RowKit Go.Maps
set_option linter.unusedSimpArgs false
set_option linter.unusedVariables false

/-- Thirty-two bytes. -/
def K32 : Type := { x : List Nat // x.length = 32 ∧ ∀ b ∈ x, b < 256 }
def kv32 (x : K32) : Value := .agg (u8s x.1).toArray
theorem kv32_inv (key : Value) (kl : Lit) (h : keyOf Try.prog 29 key = some kl) : ∃ x : K32, key = kv32 x := by
  obtain ⟨x, rfl, h1, h2⟩ := keyOf_inv h
  exact ⟨⟨x, h1, h2⟩, rfl⟩
theorem unit_inv (v : Value) (y : DataW Unit × List MemPlace) (h : unitElem (H := Unit) v = some y) : ∃ c : Unit, v = (fun _ : Unit => Value.agg #[]) c := by
  obtain ⟨rfl, _⟩ := unitElem_inv h
  exact ⟨(), rfl⟩
theorem u8s_inj {x y : List Nat} (h : u8s x = u8s y) : x = y := by
  have : (u8s x).map (fun v => match v with | .int _ n => n.toNat | _ => 0) = (u8s y).map (fun v => match v with | .int _ n => n.toNat | _ => 0) := by rw [h]
  simpa [u8s, Function.comp_def] using this
theorem key_inj {x y : List Nat} {l : Lit} (hx : keyOf Try.prog 29 (.agg (u8s x).toArray) = some l) (hy : keyOf Try.prog 29 (.agg (u8s y).toArray) = some l) : x = y := by
  exact u8s_inj (by simpa using Value.agg.inj (lawK.inj hx hy))
def cmpK (x y : List Nat) : Int := Lib.compareBytes (b8 x) (b8 y)
/-- Does Next look at the key x? -/
def passK (any : Bool) (af x : List Nat) : Bool := any || decide (0 < cmpK x af)
/-- x is in the set that reads as D. -/
def InD (D : DataW Unit) (x : List Nat) : Prop := ∃ l, keyOf Try.prog 29 (.agg (u8s x).toArray) = some l ∧ Maps.has D l = true
structure NxL (D : DataW Unit) (any : Bool) (af : List Nat) (left : Lit → Bool) (F : Bool) (L : List Nat) : Prop where
  len : L.length = 32
  lt : ∀ b ∈ L, b < 256
  no : F = false → L = zeros 32 ∧ ∀ x l, keyOf Try.prog 29 (.agg (u8s x).toArray) = some l → Maps.has D l = true → passK any af x = true → left l = true
  yes : F = true → InD D L ∧ passK any af L = true ∧ ∀ x l, keyOf Try.prog 29 (.agg (u8s x).toArray) = some l → Maps.has D l = true → passK any af x = true → left l = false → ¬ cmpK x L < 0
theorem NxL.start (D : DataW Unit) (any : Bool) (af : List Nat) : NxL D any af (Maps.has D) false (zeros 32) :=
  ⟨by simp [zeros], by simp [zeros], fun _ => ⟨rfl, fun x l _ h _ => h⟩, fun h => by cases h⟩
section
variable {D : DataW Unit} {any : Bool} {af : List Nat} {left : Lit → Bool} {F : Bool} {L x : List Nat} {kl : Lit}
theorem NxL.skip (h : NxL D any af left F L) (hk : keyOf Try.prog 29 (.agg (u8s x).toArray) = some kl) (hs : passK any af x = false ∨ (F = true ∧ ¬ cmpK x L < 0)) :
    NxL D any af (fun z => left z && !z.sameKey kl) F L := by
  refine ⟨h.len, h.lt, fun hF => ⟨(h.no hF).1, fun y l h1 h2 h3 => ?_⟩, fun hF => ⟨(h.yes hF).1, (h.yes hF).2.1, fun y l h1 h2 h3 h4 => ?_⟩⟩
  · have h5 := (h.no hF).2 y l h1 h2 h3
    rw [h5, Bool.true_and]
    cases hs' : l.sameKey kl
    · rfl
    · have e := WideAt.sameKey_eq hs'
      subst e
      have e2 := key_inj h1 hk
      subst e2
      rcases hs with hs | hs
      · rw [hs] at h3; cases h3
      · rw [hF] at hs; cases hs.1
  · cases hl : left l
    · exact (h.yes hF).2.2 y l h1 h2 h3 hl
    · rw [hl, Bool.true_and] at h4
      have hs' : l.sameKey kl = true := by simpa using h4
      have e := WideAt.sameKey_eq hs'
      subst e
      have e2 := key_inj h1 hk
      subst e2
      rcases hs with hs | hs
      · rw [hs] at h3; cases h3
      · exact hs.2
theorem cmpK_self (x : List Nat) : cmpK x x = 0 := by
  have := cmp_zero (b8 x) (b8 x)
  unfold cmpK
  simpa using this
theorem NxL.take (ht : ∀ a b c : List Nat, a.length = 32 → b.length = 32 → c.length = 32 → cmpK a b < 0 → cmpK b c < 0 → cmpK a c < 0) (h : NxL D any af left F L) (hx : x.length = 32) (hx2 : ∀ b ∈ x, b < 256) (hk : keyOf Try.prog 29 (.agg (u8s x).toArray) = some kl) (hD : Maps.has D kl = true) (hp : passK any af x = true)
    (hs : F = false ∨ cmpK x L < 0) : NxL D any af (fun z => left z && !z.sameKey kl) true x := by
  refine ⟨hx, hx2, fun hF => (by cases hF), fun _ => ⟨⟨kl, hk, hD⟩, hp, fun y l h1 h2 h3 h4 => ?_⟩⟩
  by_cases hs' : l.sameKey kl = true
  · have e := WideAt.sameKey_eq hs'
    subst e
    have e2 := key_inj h1 hk
    subst e2
    rw [cmpK_self]
    omega
  · have hl : left l = false := by
      cases hl : left l
      · rfl
      · rw [hl] at h4
        simp at h4
        exact absurd h4 hs'
    rcases hs with hs | hs
    · have := (h.no hs).2 y l h1 h2 h3
      rw [hl] at this
      cases this
    · cases F with
      | false =>
        have := (h.no rfl).2 y l h1 h2 h3
        rw [hl] at this
        cases this
      | true =>
        intro hlt
        obtain ⟨y', e', hyl, _⟩ := keyOf_inv h1
        have ey := u8s_inj (show u8s y = u8s y' by simpa using Value.agg.inj e')
        subst ey
        exact (h.yes rfl).2.2 y l h1 h2 h3 hl (ht y x L hyl hx h.len hlt hs)
end
end Go.Proofs.Ytgjokkjmljdmbaa

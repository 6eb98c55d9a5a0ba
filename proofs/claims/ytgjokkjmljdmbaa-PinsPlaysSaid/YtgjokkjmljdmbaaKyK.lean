/- Sets of keys as rising lists: the calls. -/
import Derived.Test.YtgjokkjmljdmbaaPnS0
namespace Go.Proofs.Ytgjokkjmljdmbaa
open Go.RowKit Go.Maps
set_option linter.unusedSimpArgs false
set_option linter.unusedVariables false

theorem hasK_any (w : World) (s m n : Nat) (ks : List (List Nat)) (h : SetK w s m n ks) (x : List Nat) (hx : IsK x) :
    Calls Try.prog 22 #[.pointer (some ⟨s, 0, none⟩), .agg (u8s x).toArray] w fun e w' => e = .returned (.bool (decide (x ∈ ks))) ∧ Below w.heap.size w w' := by
  obtain ⟨D, h1, h2⟩ := h
  obtain ⟨l, hl⟩ := keyOf_u8s x hx.1 hx.2
  have := setHas_any w s m n D h1 x hx.1 l hl
  rw [h2.has hl] at this
  exact this
def AddK (w : World) (s m n : Nat) (ks : List (List Nat)) (x : List Nat) (e : Ending) (w' : World) : Prop :=
  e = .returned (.bool (!decide (x ∈ ks))) ∧ SetK w' s m (n + 1) (insK x ks) ∧ w.grownBy w' (some m)
theorem addK_any (w : World) (s m n : Nat) (ks : List (List Nat)) (h : SetK w s m n ks) (hn : n < 140737488355328) (x : List Nat) (hx : IsK x) :
    Calls Try.prog 19 #[.pointer (some ⟨s, 0, none⟩), .agg (u8s x).toArray] w (AddK w s m n ks x) := by
  obtain ⟨D, h1, h2⟩ := h
  obtain ⟨l, hl⟩ := keyOf_u8s x hx.1 hx.2
  refine (setAdd_any w s m n D h1 hn x hx.1 l hl).mono ?_
  rintro e w' ⟨he, hs, hg⟩
  refine ⟨by rw [he, h2.has hl], ⟨_, hs, ?_⟩, hg⟩
  unfold addD
  split
  · rename_i hh
    rw [h2.has hl] at hh
    rw [insK_of_mem h2.rise (of_decide_eq_true hh)]
    exact h2
  · exact h2.put hl
def NextK (w : World) (ks : List (List Nat)) (any : Bool) (af : List Nat) (e : Ending) (w' : World) : Prop :=
  e = .returned (.tuple #[.agg (u8s ((ks.find? (passK any af)).getD (zeros 32))).toArray, .bool (ks.find? (passK any af)).isSome]) ∧ Below w.heap.size w w'
theorem nextK_any (w : World) (s m n : Nat) (ks : List (List Nat)) (h : SetK w s m n ks) (any : Bool) (af : List Nat) (haf : IsK af) :
    Calls Try.prog 21 #[.pointer (some ⟨s, 0, none⟩), .agg (u8s af).toArray, .bool any] w (NextK w ks any af) := by
  obtain ⟨D, h1, h2⟩ := h
  refine (next_any w s m n D h1 any af haf.1 haf.2).mono ?_
  rintro e w' ⟨F, L, he, hn, hb⟩
  obtain ⟨rfl, rfl⟩ := h2.next hn
  exact ⟨he, hb⟩
/-- A list of keys in memory. -/
def KeyRow (w : World) (A : Option Addr) (xs : List (List Nat)) : Prop :=
  ∀ (k : Nat) x, xs[k]? = some x → IsK x ∧ ∃ b off, A = some ⟨b, off, none⟩ ∧ b < w.heap.size ∧ w.rangeAt b (off + k * 32) (u8s x)
theorem KeyRow.nil (w : World) (A : Option Addr) : KeyRow w A [] := fun k x h => by simp at h
def NewK (w : World) (xs : List (List Nat)) (e : Ending) (w' : World) : Prop :=
  e = .returned (.pointer (some ⟨w.heap.size + 1, 0, none⟩)) ∧ SetK w' (w.heap.size + 1) w.heap.size xs.length (insAll xs []) ∧ Below w.heap.size w w'
theorem lits_of : ∀ xs : List (List Nat), (∀ x ∈ xs, IsK x) → ∃ ls : List Lit, ls.length = xs.length ∧ ∀ (k : Nat) x l, xs[k]? = some x → ls[k]? = some l → keyOf Try.prog 29 (.agg (u8s x).toArray) = some l
  | [], _ => ⟨[], rfl, fun k x l h => by simp at h⟩
  | x :: xs, h => by
    obtain ⟨l, hl⟩ := keyOf_u8s x (h x (by simp)).1 (h x (by simp)).2
    obtain ⟨ls, h1, h2⟩ := lits_of xs fun y hy => h y (by simp [hy])
    refine ⟨l :: ls, by simp [h1], fun k y l' h3 h4 => ?_⟩
    cases k with
    | zero => simp at h3 h4; rw [← h3, ← h4]; exact hl
    | succ k => exact h2 k y l' (by simpa using h3) (by simpa using h4)
theorem newK_any (w : World) (A : Option Addr) (xs : List (List Nat)) (n c : Nat) (hn : xs.length = n) (hL : n < 140737488355328) (hA : KeyRow w A xs) :
    Calls Try.prog 17 #[.slice A n c] w (NewK w xs) := by
  have hok : ∀ x ∈ xs, IsK x := fun x hx => by
    obtain ⟨k, hk, rfl⟩ := List.mem_iff_getElem.1 hx
    exact (hA k _ (List.getElem?_eq_getElem hk)).1
  obtain ⟨ls, h1, h2⟩ := lits_of xs hok
  have hK : KeysAt w A ls := fun k l hl => by
    have hkl := (List.getElem?_eq_some_iff.1 hl).1
    obtain ⟨h3, b, off, e, hb, hr⟩ := hA k xs[k] (List.getElem?_eq_getElem (by omega))
    exact ⟨b, off, xs[k]'(by omega), e, hb, h3.1, hr, h2 k _ l (List.getElem?_eq_getElem (by omega)) hl⟩
  refine (newSet_any w A ls n c (by omega) hL hK).mono ?_
  rintro e w' ⟨he, hs, hb⟩
  refine ⟨he, ⟨_, by rw [List.take_length] at hs; rw [← h1]; exact hs, ?_⟩, hb⟩
  exact ksOf_fold xs ls _ _ KsOf.empty h1.symm h2
end Go.Proofs.Ytgjokkjmljdmbaa

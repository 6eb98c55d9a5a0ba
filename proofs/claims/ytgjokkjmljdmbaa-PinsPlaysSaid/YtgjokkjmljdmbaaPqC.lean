/- The document's Pins and the program's: one content; Count. -/
import Derived.Test.YtgjokkjmljdmbaaPqN
import Derived.Test.YtgjokkjmljdmbaaPqA
namespace Go.Proofs.Ytgjokkjmljdmbaa
open Go.RowKit Go.Maps
set_option linter.unusedSimpArgs false
set_option linter.unusedVariables false

/-- One content. -/
def One1 : Option Ses → RSes → Prop
  | none, r => r = ⟨false, 0, [], none, 0⟩
  | some σ, r => r.op = true ∧ r.busy = σ.busy ∧ r.ks = σ.ks
def Rel (L : List (Option Ses)) (f : Nat → RSes) : Prop := L.length = 16 ∧ ∀ (i : Nat) y, L[i]? = some y → One1 y (f i)
section
variable {L : List (Option Ses)} {f : Nat → RSes}
theorem Rel.get (h : Rel L f) {k : Nat} (hk : k < 16) : L[k]? = some (atS L k) := by
  unfold atS
  have hl : k < L.length := by rw [h.1]; exact hk
  rw [if_pos (by omega)]
  simp [List.getElem?_eq_getElem hl]
theorem Rel.at (h : Rel L f) {s : Int} {σ : Ses} (ha : atS L s = some σ) : ∃ k : Nat, s = k ∧ k < 16 ∧ L[k]? = some (some σ) ∧ (f k).op = true ∧ (f k).busy = σ.busy ∧ (f k).ks = σ.ks := by
  have hr : 0 ≤ s ∧ s < 16 := by
    unfold atS at ha
    split at ha
    · assumption
    · cases ha
  have hg := h.get (k := s.toNat) (by omega)
  rw [Int.toNat_of_nonneg hr.1, ha] at hg
  obtain ⟨a, b, c⟩ := h.2 _ _ hg
  exact ⟨s.toNat, by omega, by omega, hg, a, b, c⟩
theorem Rel.no (h : Rel L f) {s : Int} (ha : atS L s = none) : opR f s = false := by
  unfold opR
  split
  · rename_i hr
    have hg := h.get (k := s.toNat) (by omega)
    rw [Int.toNat_of_nonneg hr.1, ha] at hg
    have : f s.toNat = ⟨false, 0, [], none, 0⟩ := h.2 _ _ hg
    rw [this]
  · rfl
theorem Rel.set (h : Rel L f) {k : Nat} {y : Option Ses} {r : RSes} (h1 : One1 y r) : Rel (L.set k y) (updR f k r) :=
  ⟨by rw [List.length_set]; exact h.1, fun i z hz => by
    rw [List.getElem?_set] at hz
    by_cases e : k = i
    · subst e
      rw [updR_same]
      split at hz
      · split at hz
        · cases hz; exact h1
        · cases hz
      · rename_i hne; exact absurd rfl hne
    · rw [if_neg e] at hz
      rw [updR_other f _ (Ne.symm e)]
      exact h.2 i z hz⟩
end
theorem rHas_any (w : World) (q : Nat) (f : Nat → RSes) (L : List (Option Ses)) (h : RefAt w q f) (hL : Rel L f) (hn : ∀ i, i < 16 → (f i).ks.length < 140737488355328) (s : Int) (x : List Nat) (hx : IsK x) :
    Calls Try.prog 38 #[.pointer (some ⟨q, 0, none⟩), .int .i64 s, .agg (u8s x).toArray] w fun e w' => e = .returned (.bool ((atS L s).any fun σ => decide (x ∈ σ.ks))) ∧ Below w.heap.size w w' := by
  cases ha : atS L s with
  | none => exact rHas_no w q f h s (hL.no ha) x
  | some σ =>
    obtain ⟨k, rfl, hk, _, h1, h2, h3⟩ := hL.at ha
    have := rHas_ok w q f h k hk h1 (hn k hk) x hx
    rw [h3] at this
    exact this
theorem rNext_any (w : World) (q : Nat) (f : Nat → RSes) (L : List (Option Ses)) (h : RefAt w q f) (hL : Rel L f) (hn : ∀ i, i < 16 → (f i).ks.length < 140737488355328) (s : Int) (x : List Nat) (hx : IsK x) (any : Bool) :
    Calls Try.prog 40 #[.pointer (some ⟨q, 0, none⟩), .int .i64 s, .agg (u8s x).toArray, .bool any] w (RNextQ w (nextS (atS L s) any x)) := by
  cases ha : atS L s with
  | none => exact rNext_no w q f h s (hL.no ha) x any
  | some σ =>
    obtain ⟨k, rfl, hk, _, h1, h2, h3⟩ := hL.at ha
    have := rNext_ok w q f h k hk h1 (hn k hk) x hx any
    rw [h3] at this
    exact this
theorem rOpened_any (w : World) (q : Nat) (f : Nat → RSes) (L : List (Option Ses)) (h : RefAt w q f) (hL : Rel L f) (s : Int) :
    Calls Try.prog 37 #[.pointer (some ⟨q, 0, none⟩), .int .i64 s] w fun e w' => e = .returned (.bool (atS L s).isSome) ∧ w' = w := by
  have := rIsOpen_any w q f h s
  cases ha : atS L s with
  | none => rw [hL.no ha] at this; exact this
  | some σ =>
    obtain ⟨k, rfl, hk, _, h1, _⟩ := hL.at ha
    rw [opR_nat f hk, h1] at this
    exact this
theorem rBusied_any (w : World) (q : Nat) (f : Nat → RSes) (L : List (Option Ses)) (h : RefAt w q f) (hL : Rel L f) (s : Int) :
    Calls Try.prog 39 #[.pointer (some ⟨q, 0, none⟩), .int .i64 s] w fun e w' => e = .returned (.int .i64 (((atS L s).map (·.busy)).getD 0 : Nat)) ∧ w' = w := by
  cases ha : atS L s with
  | none => exact rBusy_any w q f h s 0 (.inl ⟨hL.no ha, rfl⟩)
  | some σ =>
    obtain ⟨k, rfl, hk, _, h1, h2, _⟩ := hL.at ha
    exact rBusy_any w q f h k σ.busy (.inr ⟨k, rfl, hk, h1, h2⟩)
set_option maxRecDepth 100000 in
set_option maxHeartbeats 1000000 in
theorem rCount_any (w : World) (p : Nat) (f : Nat → RSes) (L : List (Option Ses)) (h : RefAt w p f) (hL : Rel L f) (hn : ∀ i, i < 16 → (f i).ks.length < 140737488355328) (x : List Nat) (hx : IsK x) :
    Calls Try.prog 41 #[.pointer (some ⟨p, 0, none⟩), .agg (u8s x).toArray] w (CountP w L x) := by
  obtain ⟨g, hg⟩ : ∃ g, w.heap.size = g := ⟨_, rfl⟩
  obtain ⟨w1, hw1⟩ : ∃ w1, w.alloc (.cells (u8s x).toArray 29) = w1 := ⟨_, rfl⟩
  have hB : Hid (Below w.heap.size w w1) := Lib.hid (by rw [← hw1]; exact (Below.refl _ _).alloc (Nat.le_refl _) _)
  have h1 : Hid (RefAt w1 p f) := Lib.hid (h.below hB.out (Nat.le_refl _))
  have hk1 : Hid (w1.heap[g]? = some (.cells (u8s x).toArray 29 (0, 0))) := Lib.hid (by rw [← hw1, ← hg]; exact heap_alloc_new w _)
  have hi32 : Hid ((Try.prog.info? 29).map (·.size) = some 32) := Lib.hid (by kernel_rfl)
  have hs32 : Hid ((u8s x).toArray.size = 32) := Lib.hid (by simp [u8s, hx.1])
  have hx' := Lib.hid hx
  have hle : ∀ k, cntS (L.take k) x ≤ k := fun k => Nat.le_trans List.countP_le_length (List.length_take_le _ _)
  have hle' := Lib.hid hle
  have hL16 : Hid (L.take 16 = L) := Lib.hid (List.take_of_length_le (by rw [hL.1]; omega))
  have hL' := Lib.hid hL
  have hn' := Lib.hid hn
  clear h hx hle hL hn
  go_enter Try.func41, Try.ntmps41
  go_wp2_with fail
  go_loopw [5, 6] (fun n iv wr => ∃ k c : Nat, k ≤ 16 ∧ c ≤ k ∧ iv = .int .i64 (k : Int) ∧ n = .int .i64 (c : Int) ∧ Hid (c = cntS (L.take k) x) ∧ Hid (Below w1.heap.size w1 wr)) (fun _ iv _ => 16 - (intOf iv).toNat)
  case atStart => exact ⟨0, 0, by omega, by omega, rfl, rfl, Lib.hid (by simp [cntS]), Lib.hid (Below.refl _ _)⟩
  case round =>
    obtain ⟨k, c, hk, hck, rfl, rfl, hc, hb⟩ := hrel
    by_cases hlt : k < 16
    · have hH := Lib.hid (rHas_any wr p f L (h1.out.below hb.out (Nat.le_refl _)) hL'.out hn'.out k x hx'.out)
      have hkr := Lib.hid ((hb.out.block _ (Array.getElem?_eq_some_iff.1 hk1.out).1).trans hk1.out)
      have hst := Lib.hid (cntS_take (x := x) (hL'.out.get hlt))
      generalize ((atS L (k : Int)).any fun σ => decide (x ∈ σ.ks)) = B at hH hst
      cases B
      · have hcn : Hid (c = cntS (L.take (k + 1)) x) := Lib.hid (by rw [hst.out, hc.out]; simp)
        go_wp2_with (first
          | (refine wpList_load_row rfl 29 _ rfl g rfl 29 (u8s x).toArray (0, 0) _ hkr.out Try.underlying29 rfl (by rw [hs32.out]; exact hi32.out) ?_)
          | (go_at_call 38; refine hH.out.mono ?_; rintro e w6 ⟨rfl, b6⟩; have b6' := Lib.hid b6; clear b6 hH))
        go_roundw
        case rel => exact ⟨k + 1, c, by omega, by omega, by go_num, rfl, hcn, Lib.hid (hb.out.trans (b6'.out.mono hb.out.size))⟩
        case measure => simp [intOf]; omega
      · have hcn : Hid (c + 1 = cntS (L.take (k + 1)) x) := Lib.hid (by rw [hst.out, hc.out]; simp)
        go_wp2_with (first
          | (refine wpList_load_row rfl 29 _ rfl g rfl 29 (u8s x).toArray (0, 0) _ hkr.out Try.underlying29 rfl (by rw [hs32.out]; exact hi32.out) ?_)
          | (go_at_call 38; refine hH.out.mono ?_; rintro e w6 ⟨rfl, b6⟩; have b6' := Lib.hid b6; clear b6 hH))
        go_roundw
        case rel => exact ⟨k + 1, c + 1, by omega, by omega, by go_num, by go_num, hcn, Lib.hid (hb.out.trans (b6'.out.mono hb.out.size))⟩
        case measure => simp [intOf]; omega
    · obtain rfl : k = 16 := by omega
      go_wp2_with fail
      go_ret
      exact ⟨ret_int (by rw [hc.out, hL16.out]), hB.out.trans (hb.out.mono hB.out.size)⟩
end Go.Proofs.Ytgjokkjmljdmbaa

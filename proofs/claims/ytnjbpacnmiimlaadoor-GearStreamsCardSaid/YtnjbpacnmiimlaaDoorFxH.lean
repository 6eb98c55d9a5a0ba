/- A region that draws, in a round of a range over a function: by the words of a plain function's. No program is named here. -/
import Derived.Test.YtnjbpacnmiimlaaDoorRange
import Derived.BigQuiet
import Derived.OrdersHeld
import Derived.OrdersIn
namespace Go.Proofs.YtnjbpacnmiimlaaDoor
open Go.RowKit
set_option linter.unusedSimpArgs false
set_option linter.unusedVariables false

section
variable {P : Program} {ops : Array Oper} {Q : Exit → Act → World → Prop} {md : Region.Mode} {l : Nat}
theorem rows_wide_in {n : Nat} {P : Program} {row : String} {args : Array Value} {w : World} {R : Value → World → Prop} (h : Rows P row args w R) : RowsIn (Fence.wide.inRound l) n P row args w R :=
  fun c cs _ => let ⟨v, w', r, s⟩ := h c cs; ⟨v, w', r, stepsIn_wide.2 s⟩
theorem oper_in_round {o : Oper} {a : Act} {w : World} {K : Act → World → Prop} (hnd : ∀ c : Call, o.op ≠ Op.defer c) (h : o.wp P a w K Q) : o.wpIn (Fence.wide.inRound l) 0 P a w K Q := by
  refine ⟨fun _ _ => trivial, ?_⟩
  rw [Oper.semAt_eq _ _ _ hnd]
  unfold Oper.wp at h
  generalize (execOp a.eval o).run P w = r at h ⊢
  cases r with
  | ok x w' =>
    cases x with
    | value v => exact h
    | skip => exact h
    | defer d => exact h
    | enter f args => exact ⟨fun hd => by simp [Fence.wide] at hd, CallsIn.inRound l (callsIn_wide.2 h)⟩
    | row r args => exact ⟨fun hd => by simp [Fence.wide] at hd, rows_wide_in h⟩
    | _ => exact h.elim
  | halt x w' => cases x <;> exact h
theorem wpOp_in_round (hQ : ¬ LetsOut Q) {i : Nat} {a : Act} {w : World} {K K' : Act → World → Prop} (hnd : ∀ o : Oper, ops[i]? = some o → ∀ c : Call, o.op ≠ Op.defer c) (hK : ∀ a w, K a w → K' a w) (h : wpOp P ops Q i K a w) : wpOpIn (Fence.wide.inRound l) 0 P ops Q i K' a w := by
  refine wpOpIn_mono hK ?_
  unfold wpOp at h
  unfold wpOpIn
  cases ho : ops[i]? with
  | none => rw [ho] at h; exact h
  | some o =>
    rw [ho] at h
    simp only at h ⊢
    split
    · rename_i hw
      rw [if_pos hw] at h
      exact oper_in_round (hnd o ho) (h.resolve_right fun hr => hQ hr.2)
    · rename_i hw
      rw [if_neg hw] at h
      exact ⟨fun _ _ => trivial, h⟩
theorem wpAny_in_round (hQ : ¬ LetsOut Q) (hnd : ∀ (i : Nat) (o : Oper), ops[i]? = some o → ∀ c : Call, o.op ≠ Op.defer c) : ∀ (fuel : Nat) (listed : Array Bool) (a : Act) (w : World), wpAny P md ops Q fuel listed a w → wpAnyIn (Fence.wide.inRound l) 0 P md ops Q fuel listed a w
  | 0, _, _, _, h => h
  | fuel + 1, listed, a, w, h => ⟨h.1, fun i hi => wpOp_in_round hQ (hnd i) (wpAny_in_round hQ hnd fuel _) (h.2 i hi)⟩
/-- The region, held. -/
theorem wpIn_region_held {S : World → Prop} {id : Nat} {a : Act} {w : World} (hm : P.follows .mixedOrders = true) (hQ : ¬ LetsOut Q) (hnd : ∀ (i : Nat) (o : Oper), ops[i]? = some o → ∀ c : Call, o.op ≠ Op.defer c)
    (h : wpAnyH P .any ops Q S ops.size (Array.replicate ops.size false) a { w with drawn := w.drawn + 1 }) : (Code.region id ops true).wpIn (Fence.wide.inRound l) 0 P Q a w :=
  wpIn_region_any hm (wpAny_in_round hQ hnd _ _ _ _ (wpAny_of_held _ _ _ _ h))
/-- What a region that only reads is left by. -/
def CalmQ (Q : Exit → Act → World → Prop) : Exit → Act → World → Prop := fun e a w => e = .normal ∧ Q .normal a w
/-- A region that only reads, whatever its post. -/
theorem wpIn_region_calm {S : World → Prop} {id : Nat} {a : Act} {w : World} (hm : P.follows .mixedOrders = true) (hnd : ∀ (i : Nat) (o : Oper), ops[i]? = some o → ∀ c : Call, o.op ≠ Op.defer c)
    (h : wpAnyH P .any ops (CalmQ Q) S ops.size (Array.replicate ops.size false) a { w with drawn := w.drawn + 1 }) : (Code.region id ops true).wpIn (Fence.wide.inRound l) 0 P Q a w :=
  wpIn_mono (wpIn_region_held (Q := CalmQ Q) hm (by rintro ⟨a, w, h, _⟩; cases h) hnd h) (fun e a w h => by obtain ⟨rfl, h⟩ := h; exact h)
theorem calm_panic {oi : Oper} {v : Value} : ∀ (c : List PanicEntry) (a : Act) (w : World), CalmQ Q (.panic c) (a.put oi.dst v) w → CalmQ Q (.panic c) a w := fun _ _ _ h => by cases h.1
/-- No operation defers. -/
def noDefer (L : List Oper) : Bool := L.all fun o => match o.op with
  | .defer _ => false
  | _ => true
theorem hnd_of {L : List Oper} (h : noDefer L = true) (i : Nat) (o : Oper) (ho : L.toArray[i]? = some o) (c : Call) : o.op ≠ Op.defer c := fun e => by
  have hm : o ∈ L := by
    rw [List.getElem?_toArray] at ho
    exact List.mem_of_getElem? ho
  have := List.all_eq_true.1 h o hm
  rw [e] at this
  cases this
/-- A region that only reads, in a round: by the words of 'go_quiet'. -/
theorem wpIn_region_quiet_round {id : Nat} {a : Act} {w : World} {L : List Oper} (hm : P.follows .mixedOrders = true) (hB : Region.lexB .any L.toArray = true) (hnd : ∀ (i : Nat) (o : Oper), L.toArray[i]? = some o → ∀ c : Call, o.op ≠ Op.defer c)
    (h : wpQuiet P L.toArray (fun w' => ∃ n, w' = w.drewN n) (fun a' => ∀ w', (∃ n, w' = w.drewN n) → Q .normal a' w') L a) : (Code.region id L.toArray true).wpIn (Fence.wide.inRound l) 0 P Q a w := by
  have hB2 := hB
  simp only [Region.lexB, Bool.and_eq_true] at hB2
  refine wpIn_mono (wpIn_region_any hm (wpAny_in_round (Q := CalmQ Q) (by rintro ⟨a, w, h, _⟩; cases h) hnd _ _ _ _
    (wpAny_of_quiet (C := fun w' => ∃ n, w' = w.drewN n) (Q := fun a' => ∀ w', (∃ n, w' = w.drewN n) → Q .normal a' w') (fun _ w' hw' h => ⟨rfl, h w' hw'⟩) _ _ _ _ ⟨1, rfl⟩ ?_))) (fun e a w h => by obtain ⟨rfl, h⟩ := h; exact h)
  have := wpAnyQ_lex (C := fun w' => ∃ n, w' = w.drewN n) (md := .any) hB2.1 L 0 (Array.replicate L.toArray.size false) a (by simp) (by simpa using hB2.2) h
  simpa using this
end
end Go.Proofs.YtnjbpacnmiimlaaDoor

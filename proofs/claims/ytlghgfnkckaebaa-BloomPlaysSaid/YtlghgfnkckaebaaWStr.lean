/- Bytes as a string; a filter's bytes and what is read of them. (The first half: cut out of XObjM.) -/
import Derived.Test.YtlghgfnkckaebaaWByt
import Derived.Laws.IdiomStrings
import Derived.Laws.BytesArg
namespace Go.Proofs.Ytlghgfnkckaebaa
open Go.RowKit
set_option linter.unusedSimpArgs false
set_option linter.unusedVariables false

theorem bytes_eq (a b : ByteArray) : (a.toList == b.toList) = decide (a = b) := by
  rw [Bool.eq_iff_iff, beq_iff_eq, decide_eq_true_iff, ByteArray.toList_eq, ByteArray.toList_eq]
  obtain ⟨⟨x⟩⟩ := a
  obtain ⟨⟨y⟩⟩ := b
  simp
/-- The text of some bytes. -/
def strB (l : List Nat) : ByteArray := ⟨(l.map fun x : Nat => x.toUInt8).toArray⟩
theorem u8_inj {x y : Nat} (hx : x < 256) (hy : y < 256) (h : x.toUInt8 = y.toUInt8) : x = y := by
  have := congrArg UInt8.toNat h
  simpa [Nat.mod_eq_of_lt hx, Nat.mod_eq_of_lt hy] using this
theorem map_inj8 : ∀ (a b : List Nat), (∀ x ∈ a, x < 256) → (∀ x ∈ b, x < 256) → a.map (fun x : Nat => x.toUInt8) = b.map (fun x : Nat => x.toUInt8) → a = b
  | [], [], _, _, _ => rfl
  | [], _ :: _, _, _, h => by simp at h
  | _ :: _, [], _, _, h => by simp at h
  | x :: a, y :: b, ha, hb, h => by
    simp only [List.map_cons, List.cons.injEq] at h
    rw [u8_inj (ha x (by simp)) (hb y (by simp)) h.1, map_inj8 a b (fun z hz => ha z (by simp [hz])) (fun z hz => hb z (by simp [hz])) h.2]
theorem strB_eq (a b : List Nat) (ha : ∀ x ∈ a, x < 256) (hb : ∀ x ∈ b, x < 256) : ((strB a).toList == (strB b).toList) = decide (a = b) := by
  rw [bytes_eq]
  have h : strB a = strB b ↔ a = b := ⟨fun h => map_inj8 a b ha hb (by simpa [strB] using h), fun h => by rw [h]⟩
  rw [Bool.eq_iff_iff, decide_eq_true_iff, decide_eq_true_iff, h]
theorem conv_bytes (w : World) (l : List Nat) (A : Option Addr) (c B : Nat) (h : Byt w B A l) (hb : ∀ x ∈ l, x < 256) : (convert 39 9 (.slice A l.length c)).run Try.prog w = .ok (.string (strB l)) w := by
  have key : ∀ (b off : Nat), (∀ j, j < l.length → w.cell? ⟨b, off + j, none⟩ = some (.int .u8 ((l[j]?.getD 0 : Nat) : Int))) → (convert 39 9 (.slice (some ⟨b, off, none⟩) l.length c)).run Try.prog w = .ok (.string (strB l)) w := fun b off hc => by
    have := run_convert_bytes_back (P := Try.prog) w 39 9 5 ⟨b, off, none⟩ c (l.map fun x : Nat => x.toUInt8) Try.underlying39 Try.underlying5 Try.underlying9 (fun j hj => by
      have hj2 : j < l.length := by simpa using hj
      rw [Addr.add_lit, hc j hj2, List.getElem?_eq_getElem hj2, Option.getD_some]
      have := hb _ (List.getElem_mem hj2)
      simp [Nat.mod_eq_of_lt this])
    simpa [strB] using this
  rcases Nat.eq_zero_or_pos l.length with h0 | h0
  · obtain rfl : l = [] := List.length_eq_zero_iff.1 h0
    cases A with
    | none =>
      have := run_convert_bytes_nil (P := Try.prog) w 39 5 Try.underlying39 Try.underlying5 0 c 9 Try.underlying9
      exact this
    | some a =>
      have := run_convert_bytes_back (P := Try.prog) w 39 9 5 a c [] Try.underlying39 Try.underlying5 Try.underlying9 (fun j hj => by simp at hj)
      exact this
  · obtain ⟨b, off, rfl, _, hc⟩ := h h0
    exact key b off hc
theorem fixF_leN : ∀ (r : List Nat), (∀ x ∈ r, x < 256) → fixF r.length (leN r) = r
  | [], _ => rfl
  | x :: r, h => by
    have hx : x < 256 := h x (by simp)
    rw [List.length_cons, fixF, leN]
    have h1 : (x + 256 * leN r) % 256 = x := by omega
    have h2 : (x + 256 * leN r) / 256 = leN r := by omega
    rw [h1, h2, fixF_leN r fun y hy => h y (by simp [hy])]
theorem flat_words (l : List Nat) (n : Nat) (hl : l.length = 3 + 8 * n) (h : ∀ x ∈ l, x < 256) : ∀ k ≤ n, ((wordsQ l n).take k).flatMap (fixF 8) = (l.drop 3).take (8 * k)
  | 0, _ => rfl
  | k + 1, hk => by
    rw [wordsQ_take l n k hk, List.flatMap_append, flat_words l n hl h k (by omega)]
    have h8 : ((l.drop (3 + 8 * k)).take 8).length = 8 := by rw [List.length_take, List.length_drop]; omega
    have h9 := fixF_leN ((l.drop (3 + 8 * k)).take 8) fun y hy => h y (List.mem_of_mem_drop (List.mem_of_mem_take hy))
    rw [h8] at h9
    rw [List.flatMap_cons, List.flatMap_nil, List.append_nil, h9, show 8 * (k + 1) = 8 * k + 8 by omega, List.take_add, List.drop_drop]
theorem fBy_words {l : List Nat} (ho : okF l) (h : ∀ x ∈ l, x < 256) : fBy (l[0]?.getD 0) (wordsQ l (l[1]?.getD 0 + 256 * l[2]?.getD 0)) = l := by
  obtain ⟨q1, q2, q3, q4, q5, q6⟩ := ho
  have hf := flat_words l _ q6 h _ (Nat.le_refl _)
  unfold fBy
  rw [wordsQ_length]
  rw [List.take_of_length_le (by rw [wordsQ_length]; exact Nat.le_refl _)] at hf
  rw [hf]
  clear hf
  match l, q1, h with
  | a :: b :: c :: r, _, h =>
    have ha := h a (by simp)
    have hb := h b (by simp)
    have hc := h c (by simp)
    simp only [List.getElem?_cons_zero, List.getElem?_cons_succ, Option.getD_some, List.length_cons, List.drop_succ_cons, List.drop_zero] at *
    rw [List.take_of_length_le (by omega)]
    have h1 : (b + 256 * c) % 256 = b := by omega
    have h2 : (b + 256 * c) / 256 % 256 = c := by omega
    have h3 : a % 256 = a := by omega
    simp [fixF, h1, h2, h3]
end Go.Proofs.Ytlghgfnkckaebaa

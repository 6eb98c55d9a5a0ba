/- What is read of a filter's bytes: that filter. Plain. -/
import Derived.Test.YtlghgfnkckaebaaWStr
namespace Go.Proofs.Ytlghgfnkckaebaa
open Go.RowKit
set_option linter.unusedVariables false
set_option linter.unusedSimpArgs false

theorem leN_fix : ∀ n u, u < 256 ^ n → leN (fixF n u) = u
  | 0, u, h => by simp at h; subst h; rfl
  | n + 1, u, h => by
    rw [fixF, leN, leN_fix n (u / 256) (by rw [Nat.pow_succ, Nat.mul_comm] at h; exact Nat.div_lt_of_lt_mul h)]
    omega
theorem fBy_head (H : Nat) (ws : List Nat) (hH : H < 256) (hw : ws.length < 65536) : (fBy H ws)[0]?.getD 0 = H ∧ (fBy H ws)[1]?.getD 0 + 256 * (fBy H ws)[2]?.getD 0 = ws.length := by
  unfold fBy
  simp only [fixF, List.cons_append, List.nil_append, List.getElem?_cons_zero, List.getElem?_cons_succ, Option.getD_some]
  omega
theorem fBy_ok (H : Nat) (ws : List Nat) (h1 : 1 ≤ H) (h2 : H ≤ 16) (n1 : 1 ≤ ws.length) (n2 : ws.length ≤ 16384) : okF (fBy H ws) := by
  obtain ⟨e1, e2⟩ := fBy_head H ws (by omega) (by omega)
  unfold okF
  rw [e1, e2, fBy_length]
  omega
theorem drop_past {α : Type} (a b : List α) (n k : Nat) (h : a.length = n) : (a ++ b).drop (n + k) = b.drop k := by
  subst h
  rw [← List.drop_drop, List.drop_left]
theorem flat8_at : ∀ (ws : List Nat) (k x : Nat), ws[k]? = some x → ((ws.flatMap (fixF 8)).drop (8 * k)).take 8 = fixF 8 x
  | w :: ws, 0, x, h => by
    simp at h
    subst h
    rw [Nat.mul_zero, List.drop_zero, List.flatMap_cons, List.take_append_of_le_length (by rw [fixF_length]; exact Nat.le_refl _)]
    exact List.take_of_length_le (by rw [fixF_length]; exact Nat.le_refl _)
  | w :: ws, k + 1, x, h => by
    simp only [List.getElem?_cons_succ] at h
    rw [List.flatMap_cons, show 8 * (k + 1) = 8 + 8 * k by omega, drop_past _ _ _ _ (fixF_length 8 w)]
    exact flat8_at ws k x h
theorem wordsQ_fBy (H : Nat) (ws : List Nat) (h : ∀ x ∈ ws, x < 18446744073709551616) : wordsQ (fBy H ws) ws.length = ws := by
  apply List.ext_getElem?
  intro k
  rcases Nat.lt_or_ge k ws.length with hk | hk
  · unfold wordsQ
    rw [List.getElem?_map, List.getElem?_range hk, Option.map_some, List.getElem?_eq_getElem hk]
    congr 1
    unfold fBy
    have e3 : (fixF 1 H ++ fixF 2 ws.length).length = 3 := by rw [List.length_append, fixF_length, fixF_length]
    rw [drop_past _ _ _ _ e3, flat8_at ws k ws[k] (List.getElem?_eq_getElem hk)]
    exact leN_fix 8 _ (h _ (List.getElem_mem hk))
  · rw [List.getElem?_eq_none hk, List.getElem?_eq_none (by rw [wordsQ_length]; exact hk)]
theorem fBy_lt (H : Nat) (ws : List Nat) : ∀ x ∈ fBy H ws, x < 256 := fun x hx => by
  unfold fBy at hx
  rcases List.mem_append.1 hx with hx | hx
  · rcases List.mem_append.1 hx with hx | hx
    · exact fixF_lt _ _ x hx
    · exact fixF_lt _ _ x hx
  · obtain ⟨y, _, hy⟩ := List.mem_flatMap.1 hx
    exact fixF_lt _ _ x hy
/-- Open of a filter's bytes. -/
theorem reopen_any (w : World) (A : Option Addr) (H : Nat) (ws : List Nat) (n c : Nat) (hn : (fBy H ws).length = n) (hb : Byt w w.heap.size A (fBy H ws)) (h1 : 1 ≤ H) (h2 : H ≤ 16) (n1 : 1 ≤ ws.length) (n2 : ws.length ≤ 16384) (hlt : ∀ x ∈ ws, x < 18446744073709551616) :
    Calls Try.prog 20 #[.slice A n c] w fun e w' => (∃ g A c, e = .returned (.tuple #[.pointer (some ⟨g, 0, none⟩), .int .i64 0]) ∧ Flt w' w.heap.size g A c ws H) ∧ Below w.heap.size w w' := by
  have hl := fBy_length H ws
  refine (fopen_any w A (fBy H ws) n c hn hb (fun e => ?_) (by omega) (fBy_lt H ws)).mono ?_
  · subst e
    obtain ⟨b, off, e, _⟩ := hb (by omega)
    cases e
  · rintro e w' ⟨h | ⟨h, _⟩, hB⟩
    · obtain ⟨_, g, A3, c3, he, hf⟩ := h
      rw [(fBy_head H ws (by omega) (by omega)).1, (fBy_head H ws (by omega) (by omega)).2, wordsQ_fBy H ws hlt] at hf
      exact ⟨⟨g, A3, c3, he, hf⟩, hB⟩
    · exact absurd (fBy_ok H ws h1 h2 n1 n2) h
end Go.Proofs.Ytlghgfnkckaebaa

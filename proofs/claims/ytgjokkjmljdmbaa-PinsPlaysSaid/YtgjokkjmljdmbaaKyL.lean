/- What reads as a key: thirty-two bytes, and these alone. -/
import Derived.Test.YtgjokkjmljdmbaaKxS
namespace Go.Proofs.Ytgjokkjmljdmbaa
open Go.RowKit Go.Maps
set_option linter.unusedSimpArgs false
set_option linter.unusedVariables false

theorem mapM_all {α β : Type} {f : α → Option β} : ∀ (L : List α), (∀ i ∈ L, ∃ y, f i = some y) → ∃ ys, L.mapM f = some ys
  | [], _ => ⟨[], rfl⟩
  | i :: L, h => by
    obtain ⟨y, hy⟩ := h i (by simp)
    obtain ⟨ys, hys⟩ := mapM_all L fun j hj => h j (by simp [hj])
    exact ⟨y :: ys, by simp [List.mapM_cons, hy, hys]⟩
theorem mapM_each {α β : Type} {f : α → Option β} : ∀ (L : List α) (ys : List β), L.mapM f = some ys → ∀ i ∈ L, ∃ y, f i = some y
  | [], _, _, i, hi => by cases hi
  | a :: L, ys, h, i, hi => by
    rw [List.mapM_cons] at h
    simp only [bind, Option.bind_eq_some_iff, pure, Option.some.injEq] at h
    obtain ⟨y, hy, ys', hys, _⟩ := h
    rcases List.mem_cons.1 hi with rfl | hi
    · exact ⟨y, hy⟩
    · exact mapM_each L ys' hys i hi
theorem all_u8s : ∀ cs : List Value, (∀ i, i < cs.length → ∃ b : Nat, cs[i]? = some (.int .u8 (b : Int)) ∧ b < 256) → ∃ l : List Nat, cs = u8s l ∧ ∀ b ∈ l, b < 256
  | [], _ => ⟨[], rfl, by simp⟩
  | c :: cs, h => by
    obtain ⟨b, hb, hlt⟩ := h 0 (by simp)
    obtain ⟨l, rfl, hl⟩ := all_u8s cs fun i hi => by simpa using h (i + 1) (by simpa using hi)
    simp only [List.getElem?_cons_zero, Option.some.injEq] at hb
    refine ⟨b :: l, by rw [hb]; rfl, ?_⟩
    intro x hx
    rcases List.mem_cons.1 hx with rfl | hx
    · exact hlt
    · exact hl x hx
theorem keyTypeK : Try.prog.keyType 29 = true := by kernel_rfl
theorem cellsK : Try.prog.cellsOf 29 = 32 := by kernel_rfl
theorem cellsU : Try.prog.cellsOf 5 = 1 := by kernel_rfl
theorem typesK : ∃ m, Try.prog.types.size = m + 1 := Nat.exists_eq_succ_of_ne_zero (Nat.ne_of_gt (Nat.lt_of_le_of_lt (Nat.zero_le _) rowK))
theorem keyOf_u8s (x : List Nat) (hx : x.length = 32) (hb : ∀ b ∈ x, b < 256) : ∃ l, keyOf Try.prog 29 (.agg (u8s x).toArray) = some l := by
  obtain ⟨m, hm⟩ := typesK
  unfold keyOf
  simp only [Try.underlying29]
  rw [if_pos (by simp [keyTypeK, Value.formed, Try.underlying29, cellsK, u8s_length, hx])]
  unfold Program.keyLits
  simp only [Try.underlying29, Value.cells]
  rw [if_pos (by simp [cellsK, u8s_length, hx])]
  obtain ⟨ys, hys⟩ := mapM_all (f := fun i => Try.prog.keyLits Try.prog.types.size 5 (((u8s x).toArray.toList.drop (i * Try.prog.cellsOf 5)).take (Try.prog.cellsOf 5))) (List.range 32) (fun i hi => by
    have hi := List.mem_range.1 hi
    have hlt := hb _ (List.getElem_mem (show i < x.length by omega))
    refine ⟨[.int .u8 (x[i] : Nat)], ?_⟩
    rw [cellsU, Nat.mul_one, hm, List.drop_eq_getElem_cons (by simp [u8s_length, hx, hi])]
    simp only [List.take_succ_cons, List.take_zero]
    unfold Program.keyLits
    simp only [Try.underlying5]
    have e : ((u8s x).toArray.toList)[i]'(by simp [u8s_length, hx, hi]) = .int .u8 ((x[i]'(by omega) : Nat) : Int) := by simp [u8s]
    rw [e]
    have hwf : (Lit.int .u8 ((x[i]'(by omega) : Nat) : Int)).wf = true := by
      simp [Lit.wf, IntKind.min, IntKind.max, IntKind.signed, IntKind.bits]
      omega
    simp [hwf])
  rw [hys]
  exact ⟨_, rfl⟩
theorem keyOf_inv {v : Value} {l : Lit} (h : keyOf Try.prog 29 v = some l) : ∃ x : List Nat, v = .agg (u8s x).toArray ∧ x.length = 32 ∧ ∀ b ∈ x, b < 256 := by
  obtain ⟨m, hm⟩ := typesK
  unfold keyOf at h
  simp only [Try.underlying29] at h
  split at h
  · rename_i hc
    rw [Bool.and_eq_true] at hc
    cases v with
    | agg cs =>
      have hs : cs.size = 32 := by
        have := hc.2
        simpa [Value.formed, Try.underlying29, cellsK] using this
      rw [Option.map_eq_some_iff] at h
      obtain ⟨ls, h1, _⟩ := h
      unfold Program.keyLits at h1
      simp only [Try.underlying29, Value.cells] at h1
      rw [if_pos (by simp [cellsK, hs])] at h1
      rw [Option.map_eq_some_iff] at h1
      obtain ⟨ys, h2, _⟩ := h1
      have h3 := mapM_each _ _ h2
      obtain ⟨x, hx, hb⟩ := all_u8s cs.toList (fun i hi => by
        have hi32 : i < 32 := by simpa [hs] using hi
        obtain ⟨y, hy⟩ := h3 i (List.mem_range.2 hi32)
        rw [cellsU, Nat.mul_one, hm, List.drop_eq_getElem_cons hi] at hy
        simp only [List.take_succ_cons, List.take_zero] at hy
        unfold Program.keyLits at hy
        simp only [Try.underlying5] at hy
        generalize hcv : cs.toList[i] = cv at hy
        cases cv with
        | int q n0 =>
          simp at hy
          obtain ⟨⟨rfl, hw⟩, _⟩ := hy
          simp [Lit.wf, IntKind.min, IntKind.max, IntKind.signed, IntKind.bits] at hw
          exact ⟨n0.toNat, by rw [List.getElem?_eq_getElem hi, hcv, Int.toNat_of_nonneg hw.1], by omega⟩
        | _ => simp at hy)
      refine ⟨x, ?_, ?_, hb⟩
      · rw [← hx]
      · have := congrArg List.length hx
        rw [u8s_length, Array.length_toList, hs] at this
        exact this.symm
    | _ => simp [Value.formed, Try.underlying29] at hc
  · cases h
end Go.Proofs.Ytgjokkjmljdmbaa

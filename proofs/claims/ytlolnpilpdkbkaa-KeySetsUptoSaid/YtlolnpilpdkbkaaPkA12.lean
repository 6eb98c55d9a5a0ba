/- strings.HasPrefix, laid by the shelf. Find: the key that digits begin; what it answers at digits that are none. How many of a key's digits tell it from the others: plain. -/
import Derived.Shelf.Strings.Prefix
import Derived.Test.YtlolnpilpdkbkaaProg
import Derived.Test.YtlolnpilpdkbkaaPkA11

namespace Go.Proofs.Ytlolnpilpdkbkaa
open Go.RowKit
def ren99 : Go.Shelf.Ren := ⟨fun | 99 => 37 | 206 => 57 | n => n, fun | 3 => 3 | 4 => 4 | 9 => 9 | n => n, fun  n => n⟩
theorem lays99 : Go.Proofs.Lays.n99 Try.prog ren99 := {
  mixed := by kernel_rfl
  f99 := Try.func37.trans (congrArg some (by kernel_rfl))
  f206 := Try.func57.trans (congrArg some (by kernel_rfl))
  t3 := Try.underlying3
  a3 := Try.isAgg3
  z3 := Try.sizeOf3
  v3 := Try.zeroValue3
  t4 := Try.underlying4
  a4 := Try.isAgg4
  z4 := Try.sizeOf4
  v4 := Try.zeroValue4
  t9 := Try.underlying9
  a9 := Try.isAgg9
  z9 := Try.sizeOf9
  v9 := Try.zeroValue9
  }
theorem pfx_any (s p : ByteArray) (w : World) :
    Calls Try.prog 37 #[.string s, .string p] w fun e w' => e = .returned (.bool (Lib.hasPrefix s.data.toList p.data.toList)) ∧ w' = w :=
  Any.strings_HasPrefix lays99 s p w
end Go.Proofs.Ytlolnpilpdkbkaa

namespace Go.Proofs.Ytlolnpilpdkbkaa
open Go.RowKit Go.Maps Go.Shelf
set_option linter.unusedSimpArgs false
set_option linter.unusedVariables false
attribute [local go_sem] Oper.semAt_some

section
variable {P : Program} {ops : Array Oper} {rest : List Oper} {o : Oper} {a : Act} {w : World} {Q : Exit → Act → World → Prop}
/-- A literal. -/
theorem wpList_blF (hg : o.guard = none) (t : TypeId) (parts : Array (Nat × Operand)) (ho : o.op = .build t parts) (vs : Array (Nat × Value)) (hv : (parts.map fun (i, x) => (i, a.eval x)) = vs) (v : Value)
    (hr : ∀ w, (Instr.build t vs).run P w = .ok v w) (h : wpList P ops Q rest (a.put o.dst v) w) : wpList P ops Q (o :: rest) a w :=
  wpList_plain hg fun K hK => by
    unfold Oper.wp execOp
    simp only [ho, hv, Sem.run_bind, hr w, Result.andThen_ok, Sem.run_pure]
    exact hK _ _ h
end
theorem zeroKf (w : World) : (Instr.build 25 #[]).run Try.prog w = .ok (.agg (u8s (zeros 32)).toArray) w :=
  run_build w _ _ _ (by kernel_rfl)
/-- Whether a key's digits begin so. -/
def begK (p : List UInt8) (x : List Nat) : Bool := Lib.hasPrefix (hexL x) p
/-- What Find tells of those that begin so. -/
def findL : List (List Nat) → List Nat × Nat
  | [] => (zeros 32, 31)
  | [x] => (x, 0)
  | _ => (zeros 32, 32)
/-- What Find tells. -/
def findQ (ks : List (List Nat)) (p : List UInt8) : List Nat × Nat :=
  if 64 < p.length ∨ allDig p = false then (zeros 32, 30) else findL (ks.filter (begK p))
def FindP (w : World) (r : List Nat × Nat) (e : Ending) (w' : World) : Prop :=
  e = .returned (.tuple #[.agg (u8s r.1).toArray, .int .i64 r.2]) ∧ Below w.heap.size w w'
set_option maxRecDepth 100000 in
set_option maxHeartbeats 2000000 in
theorem find_bad (w : World) (v : Value) (p : ByteArray) (hp : p.size ≤ 9223372036854775807) (hbad : 64 < p.size ∨ allDig p.data.toList = false) :
    Calls Try.prog 19 #[v, .string p] w (FindP w (zeros 32, 30)) := by
  have hz := zeroKy
  have hbl := zeroKf
  have hi32 : Hid ((Try.prog.info? 25).map (·.size) = some 32) := Lib.hid (by kernel_rfl)
  have hs32 : Hid ((u8s (zeros 32)).toArray.size = 32) := Lib.hid (by simp [u8s, zeros])
  obtain ⟨w1, hw1⟩ : ∃ w1, w.alloc (.cells #[.string p] 9) = w1 := ⟨_, rfl⟩
  obtain ⟨w2, hw2⟩ : ∃ w2, w1.alloc (.cells (u8s (zeros 32)).toArray 25) = w2 := ⟨_, rfl⟩
  have hB1 : Below w.heap.size w w1 := by rw [← hw1]; exact (Below.refl _ _).alloc (Nat.le_refl _) _
  have hB : Hid (Below w.heap.size w w2) := Lib.hid (by rw [← hw2]; exact hB1.alloc hB1.size _)
  have hk : Hid (w2.heap[w1.heap.size]? = some (.cells (u8s (zeros 32)).toArray 25 (0, 0))) := Lib.hid (by rw [← hw2]; exact heap_alloc_new w1 _)
  have hst : w2.heap[w.heap.size]? = some (.cells #[.string p] 9 (0, 0)) := by
    rw [← hw2, heap_alloc_old _ _ (by rw [← hw1]; simp), ← hw1]
    exact heap_alloc_new w _
  have hc : w2.cell? ⟨w.heap.size, 0, none⟩ = some (.string p) := by simp [World.cell?, hst]
  have hle : Hid (w.heap.size ≤ w1.heap.size) := Lib.hid hB1.size
  have hA := Lib.hid (areDigits_any p w2 hp)
  have hset := Lib.hid (setRow_heap w2 w1.heap.size _ (u8s (zeros 32)).toArray 25 _ hk.out)
  have hw1' := Lib.hid hw1
  have hw2' := Lib.hid hw2
  clear hw1 hw2 hB1 hst
  by_cases hg : 64 < p.size
  · have hg1 : (64 : Int) < (p.size : Int) := by omega
    clear hbad hA hg
    go_enter Try.func19, Try.ntmps19
    go_wp2_with (first
      | (rw [hw1'.out])
      | (rw [hw2'.out])
      | (refine wpList_store_row rfl 25 _ _ rfl w1.heap.size (u8s (zeros 32)).toArray rfl rfl 25 _ hk.out (by rw [hs32.out]; exact hi32.out) (by rw [hs32.out]) (all_oneCell_toArray u8s_one) ?_))
    refine bodyPost_ret (res_row_tmp rfl _ _ w1.heap.size 25 (u8s (zeros 32)).toArray (0, 0) _ _ rfl rfl hset.out Try.underlying25 rfl (by rw [hs32.out]; exact hi32.out)) rfl ⟨rfl, setRow_below hB.out hle.out _⟩
  · have hg1 : decide ((64 : Int) < (p.size : Int)) = false := by simp; omega
    have hA2 := Lib.hid (show Calls Try.prog 29 #[.string p] w2 fun e w' => e = .returned (.bool false) ∧ w' = w2 from by
      have := hA.out
      rwa [hbad.resolve_left hg] at this)
    clear hbad hA hg
    go_enter Try.func19, Try.ntmps19
    go_wp2_with (first
      | (rw [hw1'.out])
      | (rw [hw2'.out])
      | (go_at_call 29; refine hA2.out.mono ?_; rintro e wq ⟨rfl, rfl⟩)
      | (refine wpList_store_row rfl 25 _ _ rfl w1.heap.size (u8s (zeros 32)).toArray rfl rfl 25 _ hk.out (by rw [hs32.out]; exact hi32.out) (by rw [hs32.out]) (all_oneCell_toArray u8s_one) ?_))
    refine bodyPost_ret (res_row_tmp rfl _ _ w1.heap.size 25 (u8s (zeros 32)).toArray (0, 0) _ _ rfl rfl hset.out Try.underlying25 rfl (by rw [hs32.out]; exact hi32.out)) rfl ⟨rfl, setRow_below hB.out hle.out _⟩
end Go.Proofs.Ytlolnpilpdkbkaa

namespace Go.Proofs.Ytlolnpilpdkbkaa
set_option linter.unusedSimpArgs false
set_option linter.unusedVariables false

/-- How far two texts are alike. -/
def cpl : List UInt8 → List UInt8 → Nat
  | x :: a, y :: b => if x = y then cpl a b + 1 else 0
  | _, _ => 0
theorem cpl_get : ∀ {a b : List UInt8} {i : Nat}, i < cpl a b → ∃ c, a[i]? = some c ∧ b[i]? = some c
  | [], _, i, h => by simp [cpl] at h
  | _ :: _, [], i, h => by simp [cpl] at h
  | x :: a, y :: b, i, h => by
    unfold cpl at h
    split at h
    · rename_i e
      subst e
      cases i with
      | zero => exact ⟨x, rfl, rfl⟩
      | succ i => simpa using cpl_get (a := a) (b := b) (i := i) (by omega)
    · omega
theorem cpl_ne : ∀ {a b : List UInt8}, a.length = b.length → a ≠ b → ∃ c d, a[cpl a b]? = some c ∧ b[cpl a b]? = some d ∧ c ≠ d
  | [], [], _, h => absurd rfl h
  | [], _ :: _, h, _ => by simp at h
  | _ :: _, [], h, _ => by simp at h
  | x :: a, y :: b, hl, h => by
    unfold cpl
    by_cases e : x = y
    · subst e
      rw [if_pos rfl]
      simpa using cpl_ne (a := a) (b := b) (by simpa using hl) (fun e => h (by rw [e]))
    · rw [if_neg e]
      exact ⟨x, y, rfl, rfl, e⟩
theorem cpl_le : ∀ (a b : List UInt8), cpl a b ≤ a.length
  | [], _ => by simp [cpl]
  | _ :: _, [] => by simp [cpl]
  | x :: a, y :: b => by
    have := cpl_le a b
    unfold cpl
    split <;> simp <;> omega
theorem cpl_lt {a b : List UInt8} (hl : a.length = b.length) (h : a ≠ b) : cpl a b < a.length := by
  obtain ⟨c, d, h1, _, _⟩ := cpl_ne hl h
  exact (List.getElem?_eq_some_iff.1 h1).1
/-- A text that begins as another does: as far as both are alike. -/
theorem cpl_pre : ∀ {a b : List UInt8} {n : Nat}, n ≤ b.length → ((b.take n).isPrefixOf a = true ↔ n ≤ cpl a b)
  | a, b, 0, _ => by simp
  | a, [], n + 1, h => by simp at h
  | [], y :: b, n + 1, h => by simp [cpl]
  | x :: a, y :: b, n + 1, h => by
    have ih := cpl_pre (a := a) (b := b) (n := n) (by simpa using h)
    unfold cpl
    simp only [List.take_succ_cons, List.isPrefixOf_cons_cons, Bool.and_eq_true, beq_iff_eq]
    by_cases e : x = y
    · subst e
      simp [ih]
    · rw [if_neg e]
      simp
      intro e2
      exact absurd e2.symm e
theorem cpl_self : ∀ a : List UInt8, cpl a a = a.length
  | [] => rfl
  | x :: a => by simp [cpl, cpl_self a]
theorem hexL_inj {a b : List Nat} (ha : ∀ x ∈ a, x < 256) (hb : ∀ x ∈ b, x < 256) (h : hexL a = hexL b) : a = b := by
  rw [← parsed_hex a ha, h, parsed_hex b hb]
/-- How many digits of x, of those that have been seen, are wanted. -/
def shortN (x : List Nat) (ys : List (List Nat)) : Nat := ys.foldl (fun n y => if y = x then n else max n (cpl (hexL y) (hexL x) + 1)) 4
theorem shortN_nil (x : List Nat) : shortN x [] = 4 := rfl
theorem shortN_snoc (x : List Nat) (ys : List (List Nat)) (y : List Nat) : shortN x (ys ++ [y]) = if y = x then shortN x ys else max (shortN x ys) (cpl (hexL y) (hexL x) + 1) := by
  simp [shortN, List.foldl_append]
theorem shortN_ge (x : List Nat) (ys : List (List Nat)) : 4 ≤ shortN x ys := by
  unfold shortN
  suffices ∀ n, 4 ≤ n → 4 ≤ ys.foldl (fun n y => if y = x then n else max n (cpl (hexL y) (hexL x) + 1)) n from this 4 (Nat.le_refl _)
  induction ys with
  | nil => intro n h; exact h
  | cons y ys ih =>
    intro n h
    simp only [List.foldl_cons]
    split
    · exact ih n h
    · exact ih _ (by omega)
theorem shortN_le {x : List Nat} (hx : IsK x) {ys : List (List Nat)} (hy : ∀ y ∈ ys, IsK y) : shortN x ys ≤ 64 := by
  unfold shortN
  suffices ∀ n, n ≤ 64 → ys.foldl (fun n y => if y = x then n else max n (cpl (hexL y) (hexL x) + 1)) n ≤ 64 from this 4 (by omega)
  induction ys with
  | nil => intro n h; exact h
  | cons y ys ih =>
    intro n h
    simp only [List.foldl_cons]
    have hyk := hy y (by simp)
    split
    · exact ih (fun z hz => hy z (by simp [hz])) n h
    · rename_i e
      refine ih (fun z hz => hy z (by simp [hz])) _ ?_
      have := cpl_lt (a := hexL y) (b := hexL x) (by rw [hexL_length, hexL_length, hx.1, hyk.1]) (fun h => e (hexL_inj hyk.2 hx.2 h))
      rw [hexL_length, hyk.1] at this
      omega
/-- Every other key is told apart. -/
theorem shortN_lt {x : List Nat} {ys : List (List Nat)} {y : List Nat} (hy : y ∈ ys) (hne : y ≠ x) : cpl (hexL y) (hexL x) < shortN x ys := by
  have mono : ∀ (zs : List (List Nat)) n, n ≤ zs.foldl (fun n y => if y = x then n else max n (cpl (hexL y) (hexL x) + 1)) n := by
    intro zs
    induction zs with
    | nil => intro n; exact Nat.le_refl _
    | cons z zs ih =>
      intro n
      simp only [List.foldl_cons]
      split
      · exact ih n
      · exact Nat.le_trans (by omega) (ih _)
  unfold shortN
  generalize 4 = n0
  induction ys generalizing n0 with
  | nil => simp at hy
  | cons z zs ih =>
    simp only [List.foldl_cons]
    rcases List.mem_cons.1 hy with rfl | hy
    · rw [if_neg hne]
      have := mono zs (max n0 (cpl (hexL y) (hexL x) + 1))
      omega
    · exact ih hy _
/-- With one digit less one is not. -/
theorem shortN_has {x : List Nat} {ys : List (List Nat)} (h : 4 < shortN x ys) : ∃ y ∈ ys, y ≠ x ∧ cpl (hexL y) (hexL x) + 1 = shortN x ys := by
  unfold shortN at h ⊢
  suffices ∀ n, n < ys.foldl (fun n y => if y = x then n else max n (cpl (hexL y) (hexL x) + 1)) n → ∃ y ∈ ys, y ≠ x ∧ cpl (hexL y) (hexL x) + 1 = ys.foldl (fun n y => if y = x then n else max n (cpl (hexL y) (hexL x) + 1)) n from this 4 h
  clear h
  induction ys with
  | nil => intro n h; simp at h
  | cons z zs ih =>
    intro n h
    simp only [List.foldl_cons] at h ⊢
    by_cases e : z = x
    · rw [if_pos e] at h ⊢
      obtain ⟨y, h1, h2, h3⟩ := ih n h
      exact ⟨y, by simp [h1], h2, h3⟩
    · rw [if_neg e] at h ⊢
      by_cases h2 : max n (cpl (hexL z) (hexL x) + 1) < zs.foldl (fun n y => if y = x then n else max n (cpl (hexL y) (hexL x) + 1)) (max n (cpl (hexL z) (hexL x) + 1))
      · obtain ⟨y, h3, h4, h5⟩ := ih _ h2
        exact ⟨y, by simp [h3], h4, h5⟩
      · refine ⟨z, by simp, e, ?_⟩
        have mono : ∀ (zs : List (List Nat)) n, n ≤ zs.foldl (fun n y => if y = x then n else max n (cpl (hexL y) (hexL x) + 1)) n := by
          intro zs
          induction zs with
          | nil => intro n; exact Nat.le_refl _
          | cons z zs ih =>
            intro n
            simp only [List.foldl_cons]
            split
            · exact ih n
            · exact Nat.le_trans (by omega) (ih _)
        have := mono zs (max n (cpl (hexL z) (hexL x) + 1))
        omega
theorem rise_nodup : ∀ {ks : List (List Nat)}, Rise32 ks → ks.Nodup
  | [], _ => List.nodup_nil
  | _ :: _, h => List.nodup_cons.2 ⟨h.not_mem, rise_nodup h.tail⟩
/-- What Short tells, Find finds. -/
theorem find_short {ks : List (List Nat)} (hr : Rise32 ks) {x : List Nat} (hx : x ∈ ks) : findQ ks ((hexL x).take (shortN x ks)) = (x, 0) := by
  have hxk := hr.ok x hx
  have hle := shortN_le hxk hr.ok
  have h64 : (hexL x).length = 64 := by rw [hexL_length, hxk.1]
  unfold findQ
  rw [if_neg (by
    rintro (h | h)
    · simp at h; omega
    · rw [allDig] at h
      have h2 := hexL_dig x hxk.2
      unfold allDig at h2
      rw [List.all_eq_false] at h
      obtain ⟨c, h3, h4⟩ := h
      exact h4 (List.all_eq_true.1 h2 c (List.mem_of_mem_take h3)))]
  have : ks.filter (begK ((hexL x).take (shortN x ks))) = [x] := by
    have hmem : ∀ y, y ∈ ks.filter (begK ((hexL x).take (shortN x ks))) ↔ y = x := by
      intro y
      rw [List.mem_filter]
      unfold begK Lib.hasPrefix
      rw [cpl_pre (by omega)]
      constructor
      · rintro ⟨h1, h2⟩
        apply Classical.byContradiction
        intro h3
        have := shortN_lt h1 h3
        omega
      · rintro rfl
        rw [cpl_self]
        exact ⟨hx, by omega⟩
    have hnd := (rise_nodup hr).filter (begK ((hexL x).take (shortN x ks)))
    revert hmem hnd
    generalize ks.filter (begK ((hexL x).take (shortN x ks))) = L
    intro hmem hnd
    match L, hmem, hnd with
    | [], hmem, _ => have := (hmem x).2 rfl; simp at this
    | [y], hmem, _ => rw [(hmem y).1 (by simp)]
    | y :: z :: L, hmem, hnd =>
      have h1 := (hmem y).1 (by simp)
      have h2 := (hmem z).1 (by simp)
      exact absurd (by simp [h1, h2]) (List.nodup_cons.1 hnd).1
  rw [this]
  rfl
/-- With one digit less it does not. -/
theorem find_less {ks : List (List Nat)} (hr : Rise32 ks) {x : List Nat} (hx : x ∈ ks) (h4 : 4 < shortN x ks) : findQ ks ((hexL x).take (shortN x ks - 1)) = (zeros 32, 32) := by
  have hxk := hr.ok x hx
  have hle := shortN_le hxk hr.ok
  have h64 : (hexL x).length = 64 := by rw [hexL_length, hxk.1]
  obtain ⟨y, h1, h2, h3⟩ := shortN_has h4
  unfold findQ
  rw [if_neg (by
    rintro (h | h)
    · simp at h; omega
    · rw [allDig] at h
      have h2 := hexL_dig x hxk.2
      unfold allDig at h2
      rw [List.all_eq_false] at h
      obtain ⟨c, h3, h4⟩ := h
      exact h4 (List.all_eq_true.1 h2 c (List.mem_of_mem_take h3)))]
  have hmy : y ∈ ks.filter (begK ((hexL x).take (shortN x ks - 1))) := by
    rw [List.mem_filter]
    unfold begK Lib.hasPrefix
    rw [cpl_pre (by omega)]
    exact ⟨h1, by omega⟩
  have hmx : x ∈ ks.filter (begK ((hexL x).take (shortN x ks - 1))) := by
    rw [List.mem_filter]
    unfold begK Lib.hasPrefix
    rw [cpl_pre (by omega), cpl_self]
    exact ⟨hx, by omega⟩
  revert hmy hmx
  generalize ks.filter (begK ((hexL x).take (shortN x ks - 1))) = L
  intro hmy hmx
  match L, hmy, hmx with
  | [], h, _ => simp at h
  | [z], h, h' =>
    simp at h h'
    exact absurd (h.trans h'.symm) h2
  | _ :: _ :: _, _, _ => rfl
end Go.Proofs.Ytlolnpilpdkbkaa

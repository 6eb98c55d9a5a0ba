/- The document's table in memory: now, Version, New, place. The document's set and drop by places: plain words. The document's table: All, At, Get, Next. -/
import Derived.Test.YtakcnkmlglkkpaaPkR21

namespace Go.Proofs.Ytakcnkmlglkkpaa
open Go.RowKit
set_option linter.unusedSimpArgs false
set_option linter.unusedVariables false
open Classical

theorem elLs : ElemOk Try.prog 94 24 (.slice none 0 0) 1 24 := ⟨Try.underlying94, by kernel_rfl, rfl, by decide⟩
/-- The document's table: its versions as lists, each in a row of its own. -/
structure Doc (w : World) (B g : Nat) (A : Option Addr) (c : Nat) (L : Lists) (ps : List Value) : Prop where
  blk : w.heap[g]? = some (.cells #[.slice A L.length c] 96 (0, 0))
  gB : B ≤ g
  own : Own w B 24 1 A L.length c ps
  rows : ∀ (i : Nat) (l : List RootT), L[i]? = some l → ∃ Al cl, ps[i]? = some (.slice Al l.length cl) ∧ Own w B 61 33 Al l.length cl (rowsR l)
  ne : 0 < L.length
  few : ∀ l ∈ L, l.length ≤ 64
  many : L.length ≤ 100000
section
variable {w w' : World} {B g c : Nat} {A : Option Addr} {L : Lists} {ps : List Value}
theorem Doc.lt (h : Doc w B g A c L ps) : g < w.heap.size := (Array.getElem?_eq_some_iff.1 h.blk).1
theorem Doc.below (h : Doc w B g A c L ps) (hb : Below w.heap.size w w') : Doc w' B g A c L ps :=
  ⟨(hb.block g h.lt).trans h.blk, h.gB, h.own.below hb (fun k hk => (h.own.lt k hk).2), fun i l hl => by
    obtain ⟨Al, cl, h1, h2⟩ := h.rows i l hl
    exact ⟨Al, cl, h1, h2.below hb (fun k hk => (h2.lt k hk).2)⟩, h.ne, h.few, h.many⟩
theorem Doc.cell (h : Doc w B g A c L ps) : w.cell? ⟨g, 0, none⟩ = some (.slice A L.length c) := by simp [World.cell?, h.blk]
theorem Doc.frozen (h : Doc w B g A c L ps) : w.frozen? ⟨g, 0, none⟩ = false := by simp [World.frozen?, h.blk]
theorem Doc.at (h : Doc w B g A c L ps) {i : Nat} {l : List RootT} (hl : L[i]? = some l) : ∃ a Al cl, A = some ⟨a, 0, none⟩ ∧ w.cell? ⟨a, i, none⟩ = some (.slice Al l.length cl) ∧ Own w B 61 33 Al l.length cl (rowsR l) := by
  obtain ⟨Al, cl, h1, h2⟩ := h.rows i l hl
  obtain ⟨a, rfl⟩ := h.own.head h.ne
  have hi := (List.getElem?_eq_some_iff.1 hl).1
  exact ⟨a, Al, cl, rfl, (h.own.cell i (by omega)).trans h1, h2⟩
theorem Doc.dis (h : Doc w B g A c L ps) : blockOf A ≠ some g := fun e => by
  obtain ⟨cs, fr, hk⟩ := h.own.type e
  rw [h.blk] at hk
  cases hk
theorem Doc.gro {S : Nat → Prop} (h : Doc w B g A c L ps) (hg : Gro S w w') (hS : ∀ j, S j → j ≠ g ∧ blockOf A ≠ some j ∧ ∀ cs fr, w.heap[j]? ≠ some (.cells cs 61 fr)) : Doc w' B g A c L ps := by
  refine ⟨(hg.block g h.lt (fun hs => (hS g hs).1 rfl)).trans h.blk, h.gB, h.own.same (fun k hk => hg.block k (h.own.lt k hk).2 (fun hs => (hS k hs).2.1 hk)), ?_, h.ne, h.few, h.many⟩
  intro i l hl
  obtain ⟨Al, cl, h1, h2⟩ := h.rows i l hl
  exact ⟨Al, cl, h1, h2.same (fun k hk => hg.block k (h2.lt k hk).2 (fun hs => by
    obtain ⟨cs, fr, hc⟩ := h2.type hk
    exact (hS k hs).2.2 cs fr hc))⟩
end
theorem present_last {L : Lists} (h : 0 < L.length) : L[L.length - 1]? = some (present L) := by
  unfold present
  rw [List.getElem?_eq_getElem (by omega)]
  rfl
set_option maxRecDepth 20000 in
theorem dnow_any (w : World) {B g c : Nat} {A : Option Addr} {L : Lists} {ps : List Value} (h : Doc w B g A c L ps) :
    Calls Try.prog 53 #[.pointer (some ⟨g, 0, none⟩)] w fun e w' => (∃ Al cl, e = .returned (.slice Al (present L).length cl) ∧ Own w B 61 33 Al (present L).length cl (rowsR (present L))) ∧ ∃ m, w' = w.drewN m := by
  obtain ⟨N, hN⟩ : ∃ N, L.length = N + 1 := ⟨L.length - 1, by have := h.ne; omega⟩
  have hm := h.many
  have c0 := h.cell
  have hlast := present_last h.ne
  obtain ⟨a, Al, cl, rfl, c1, hp⟩ := h.at hlast
  rw [hN] at c0 c1 hm
  simp only [Nat.add_sub_cancel] at c1
  have w1 : IntKind.i64.wrap (N : Int) = (N : Int) := by rw [IntKind.wrap_i64]; omega
  have b1 : (0 : Int) ≤ (N : Int) := by omega
  have b2 : (N : Int) < (N : Int) + 1 := by omega
  have hp' := Lib.hid hp
  clear h hlast hp hm hN
  go_enter Try.func53, Try.ntmps53
  go_wp2_with fail
  go_quiet (fail)
  go_wp2_with fail
  go_ret
  exact ⟨⟨_, _, rfl, hp'.out⟩, _, rfl⟩
theorem dversion_any (w : World) {B g c : Nat} {A : Option Addr} {L : Lists} {ps : List Value} (h : Doc w B g A c L ps) :
    Calls Try.prog 41 #[.pointer (some ⟨g, 0, none⟩)] w fun e w' => e = .returned (.int .u64 (L.length - 1 : Nat)) ∧ Below w.heap.size w w' := by
  obtain ⟨N, hN⟩ : ∃ N, L.length = N + 1 := ⟨L.length - 1, by have := h.ne; omega⟩
  have hm := h.many
  have c0 := h.cell
  rw [hN] at c0 hm ⊢
  have w1 : IntKind.i64.wrap (N : Int) = (N : Int) := by rw [IntKind.wrap_i64]; omega
  have w2 : IntKind.u64.wrap (N : Int) = (N : Int) := by rw [IntKind.wrap_u64]; omega
  clear h hm hN
  go_enter Try.func41, Try.ntmps41
  go_wp2_with fail
  go_ret
  exact ⟨rfl, Below.refl _ _⟩
theorem dnew_any (w : World) : Calls Try.prog 30 #[] w fun e w' => (∃ g A c ps, e = .returned (.pointer (some ⟨g, 0, none⟩)) ∧ Doc w' w.heap.size g A c [[]] ps) ∧ Below w.heap.size w w' := by
  go_enter Try.func30, Try.ntmps30
  go_wp2_with fail
  go_ret
  have hb : Below w.heap.size w ((w.alloc (.cells #[.slice none 0 0] 24)).alloc (.cells #[.slice (some ⟨w.heap.size, 0, none⟩) 1 1] 96)) := ((Below.refl _ _).alloc (Nat.le_refl _) _).alloc (by simp) _
  refine ⟨⟨w.heap.size + 1, some ⟨w.heap.size, 0, none⟩, 1, [.slice none 0 0], rfl, ?_, by omega, ?_, ?_, by simp, by simp, by simp⟩, hb⟩
  · have := heap_alloc_new (w.alloc (.cells #[.slice none 0 0] 24)) (.cells #[.slice (some ⟨w.heap.size, 0, none⟩) 1 1] 96)
    rwa [World.size_alloc] at this
  · exact (Own.lit w w.heap.size 24 1 1 #[.slice none 0 0] rfl (by decide) (Nat.le_refl _)).alloc _
  · intro i l hl
    cases i with
    | zero =>
      cases hl
      exact ⟨none, 0, rfl, Own.nil _ _ _ _⟩
    | succ i => cases hl
/-- Where a name stands in a list, or would stand. -/
def placeQ (s : ByteArray) (l : List RootT) : Nat := (l.takeWhile fun r => ltS r.1 s).length
def thereQ (s : ByteArray) (l : List RootT) : Bool := match l[placeQ s l]? with | some r => r.1.toList == s.toList | none => false
theorem placeQ_le (s : ByteArray) (l : List RootT) : placeQ s l ≤ l.length := by
  unfold placeQ
  exact (List.takeWhile_sublist _).length_le
theorem placeQ_lt {s : ByteArray} : ∀ {l : List RootT} {j : Nat} {x : RootT}, j < placeQ s l → l[j]? = some x → ltS x.1 s = true
  | y :: l, 0, x, hj, hx => by
    cases hx
    cases h : ltS y.1 s with
    | true => rfl
    | false => simp [placeQ, List.takeWhile, h] at hj
  | y :: l, j + 1, x, hj, hx => by
    cases h : ltS y.1 s with
    | true =>
      have : j < placeQ s l := by simp [placeQ, List.takeWhile, h] at hj ⊢; exact hj
      exact placeQ_lt this hx
    | false => simp [placeQ, List.takeWhile, h] at hj
theorem placeQ_at {s : ByteArray} : ∀ {l : List RootT} {k : Nat}, (∀ j x, j < k → l[j]? = some x → ltS x.1 s = true) → (k = l.length ∨ ∃ x, l[k]? = some x ∧ ltS x.1 s = false) → placeQ s l = k
  | [], k, _, h => by
    rcases h with h | ⟨x, h, _⟩
    · simp [placeQ, h]
    · cases h
  | y :: l, 0, _, h => by
    rcases h with h | ⟨x, h, hl⟩
    · simp at h
    · cases h
      simp [placeQ, List.takeWhile, hl]
  | y :: l, k + 1, hp, h => by
    have h0 := hp 0 y (by omega) rfl
    have := placeQ_at (s := s) (l := l) (k := k) (fun j x hj hx => hp (j + 1) x (by omega) hx) (by
      rcases h with h | ⟨x, h, hl⟩
      · exact .inl (by simpa using h)
      · exact .inr ⟨x, h, hl⟩)
    unfold placeQ at this ⊢
    simp [List.takeWhile, h0, this]
set_option maxRecDepth 20000 in
set_option maxHeartbeats 2000000 in
theorem place_any (w : World) (l : List RootT) (A : Option Addr) (n c B : Nat) (s : ByteArray) (hl : l.length = n) (hn : n ≤ 1000000) (hR : RowR w B A l) :
    Calls Try.prog 54 #[.slice A n c, .string s] w fun e w' => e = .returned (.tuple #[.int .i64 (placeQ s l : Nat), .bool (thereQ s l)]) ∧ ∃ m, w' = w.drewN m := by
  have hR' := Lib.hid hR
  have hl' := Lib.hid hl
  clear hR hl
  go_enter Try.func54, Try.ntmps54
  go_wp2_with fail
  go_loop [6] (fun i => ∃ k : Nat, k ≤ n ∧ i = .int .i64 k ∧ Hid (∀ j x, j < k → l[j]? = some x → ltS x.1 s = true)) (fun i => n - (intOf i).toNat)
  case atStart => exact ⟨0, by omega, rfl, Lib.hid fun j x hj => absurd hj (by omega)⟩
  case round =>
    obtain ⟨k, hk, rfl, hp⟩ := hrel
    by_cases hlt : k < n
    · obtain ⟨x, hx⟩ : ∃ x, l[k]? = some x := ⟨_, List.getElem?_eq_getElem (by have := hl'.out; omega)⟩
      obtain ⟨b, off, rfl, hbb, hrg⟩ := RowR.range hR'.out hx
      have dx : w.cell? ⟨b, off + k * 33, none⟩ = some (.string x.1) := by simpa using hrg 0 _ (show (encR x)[0]? = some (.string x.1) from rfl)
      have hx' := Lib.hid hx
      clear hrg hx
      cases hlx : ltS x.1 s with
      | true =>
        have q1 : Op.bytesLess x.1.toList s.toList = true := hlx
        have q2 : (x.1.toList == s.toList) = false := by simpa using fun e => by rw [name_less e] at hlx; cases hlx
        go_wp2_with fail
        go_round
        case rel => exact ⟨k + 1, by omega, by go_num, Lib.hid fun j y hj hy => by
          rcases Nat.lt_or_ge j k with h | h
          · exact hp.out j y h hy
          · obtain rfl : j = k := by omega
            rw [hx'.out] at hy
            cases hy
            exact hlx⟩
        case measure => simp [intOf]; omega
      | false =>
        have q1 : Op.bytesLess x.1.toList s.toList = false := hlx
        have hpl : Hid (placeQ s l = k) := Lib.hid (placeQ_at hp.out (.inr ⟨x, hx'.out, hlx⟩))
        have hth : Hid (thereQ s l = (x.1.toList == s.toList)) := Lib.hid (by unfold thereQ; rw [hpl.out, hx'.out])
        obtain ⟨b1, hb1⟩ : ∃ b1 : Bool, (x.1.toList == s.toList) = b1 := ⟨_, rfl⟩
        rw [hb1] at hth
        go_wp2_with fail
        go_quiet (fail)
        go_wp2_with fail
        go_ret2
        exact ⟨by rw [hpl.out, hth.out]; rfl, _, rfl⟩
    · obtain rfl : k = n := by omega
      have hpl : Hid (placeQ s l = k) := Lib.hid (placeQ_at hp.out (.inl hl'.out.symm))
      have hth : Hid (thereQ s l = false) := Lib.hid (by unfold thereQ; rw [hpl.out, List.getElem?_eq_none (by rw [hl'.out]; exact Nat.le_refl _)])
      go_wp2_with fail
      go_ret2
      exact ⟨by rw [hpl.out, hth.out]; rfl, 0, rfl⟩
end Go.Proofs.Ytakcnkmlglkkpaa

namespace Go.Proofs.Ytakcnkmlglkkpaa
open Go.RowKit
set_option linter.unusedSimpArgs false
set_option linter.unusedVariables false
open Classical

theorem placeQ_step {s : ByteArray} {x : RootT} {l : List RootT} (h : ltS x.1 s = true) : placeQ s (x :: l) = placeQ s l + 1 ∧ thereQ s (x :: l) = thereQ s l := by
  have h1 : placeQ s (x :: l) = placeQ s l + 1 := by simp [placeQ, List.takeWhile, h]
  refine ⟨h1, ?_⟩
  unfold thereQ
  rw [h1, List.getElem?_cons_succ]
theorem placeQ_stop {s : ByteArray} {x : RootT} {l : List RootT} (h : ltS x.1 s = false) : placeQ s (x :: l) = 0 ∧ thereQ s (x :: l) = (x.1.toList == s.toList) := by
  have h1 : placeQ s (x :: l) = 0 := by simp [placeQ, List.takeWhile, h]
  refine ⟨h1, ?_⟩
  unfold thereQ
  rw [h1]
  rfl
theorem setL_place (r : RootT) : ∀ l : List RootT, setL r l = l.take (placeQ r.1 l) ++ r :: l.drop (if thereQ r.1 l = true then placeQ r.1 l + 1 else placeQ r.1 l)
  | [] => by simp [setL, placeQ, thereQ]
  | x :: l => by
    simp only [setL]
    cases h1 : ltS r.1 x.1 with
    | true =>
      obtain ⟨h2, h3⟩ := placeQ_stop (l := l) (ltS_asymm h1)
      have h4 : (x.1.toList == r.1.toList) = false := by simpa using fun e => by rw [name_less e.symm] at h1; cases h1
      rw [if_pos rfl, h2, h3, h4]
      simp
    | false =>
      rw [if_neg (by decide)]
      cases h2 : ltS x.1 r.1 with
      | true =>
        obtain ⟨h3, h4⟩ := placeQ_step (l := l) h2
        rw [if_pos rfl, h3, h4, setL_place r l]
        cases thereQ r.1 l <;> simp
      | false =>
        obtain ⟨h3, h4⟩ := placeQ_stop (l := l) h2
        have h5 : (x.1.toList == r.1.toList) = true := by simpa using ltS_three h2 h1
        rw [if_neg (by decide), h3, h4, h5]
        simp
theorem dropL_place (s : ByteArray) : ∀ l : List RootT, thereQ s l = true → dropL s l = l.take (placeQ s l) ++ l.drop (placeQ s l + 1)
  | [], h => by simp [thereQ] at h
  | x :: l, h => by
    simp only [dropL]
    cases h2 : ltS x.1 s with
    | true =>
      obtain ⟨h3, h4⟩ := placeQ_step (l := l) h2
      rw [h4] at h
      rw [if_neg (by rw [ltS_asymm h2]; decide), if_pos rfl, h3, dropL_place s l h]
      simp
    | false =>
      obtain ⟨h3, h4⟩ := placeQ_stop (l := l) h2
      rw [h4] at h
      have he : x.1.toList = s.toList := by simpa using h
      rw [if_neg (by rw [name_less he.symm]; decide), if_neg (by decide), h3]
      simp
theorem thereQ_has {s : ByteArray} : ∀ {l : List RootT}, Rise l → (thereQ s l = true ↔ hasL s l)
  | [], _ => by simp [thereQ, hasL]
  | x :: l, hr => by
    cases h2 : ltS x.1 s with
    | true =>
      rw [(placeQ_step (l := l) h2).2, thereQ_has hr.2]
      constructor
      · rintro ⟨y, hy, he⟩
        exact ⟨y, by simp [hy], he⟩
      · rintro ⟨y, hy, he⟩
        rcases List.mem_cons.1 hy with rfl | hy
        · rw [name_less he] at h2
          cases h2
        · exact ⟨y, hy, he⟩
    | false =>
      rw [(placeQ_stop (l := l) h2).2]
      constructor
      · intro h
        exact ⟨x, by simp, by simpa using h⟩
      · rintro ⟨y, hy, he⟩
        rcases List.mem_cons.1 hy with rfl | hy
        · simpa using he
        · have := hr.1 y hy
          rw [ltS_right he, h2] at this
          cases this
theorem there_at {s : ByteArray} {l : List RootT} (h : thereQ s l = true) : ∃ x, l[placeQ s l]? = some x ∧ x.1.toList = s.toList := by
  unfold thereQ at h
  cases hx : l[placeQ s l]? with
  | none => rw [hx] at h; cases h
  | some x =>
    rw [hx] at h
    exact ⟨x, rfl, by simpa using h⟩
theorem keyL_place {s : ByteArray} {l : List RootT} (hr : Rise l) : keyL s l = if thereQ s l = true then (l[placeQ s l]?).map (·.2) else none := by
  split
  · rename_i h
    obtain ⟨x, hx, he⟩ := there_at h
    rw [hx, keyL_some hr (List.mem_of_getElem? hx) he]
    rfl
  · rename_i h
    exact keyL_none fun hh => h ((thereQ_has hr).2 hh)
end Go.Proofs.Ytakcnkmlglkkpaa

namespace Go.Proofs.Ytakcnkmlglkkpaa
open Go.RowKit
set_option linter.unusedSimpArgs false
set_option linter.unusedVariables false
open Classical

theorem rows_one (l : List RootT) : ∀ j, j < l.length * 33 → ((fun j => (flat encR l)[j]?.getD undef) j).oneCell' = true := fun j hj => by
  have hl : (flat encR l).length = l.length * 33 := flat_length encR_length l
  have hj' : j < (flat encR l).length := by omega
  simp only [List.getElem?_eq_getElem hj', Option.getD_some]
  have hm := List.getElem_mem hj'
  obtain ⟨x, _, hx⟩ := List.mem_flatMap.1 hm
  exact encR_one x _ hx
theorem rows_range (l : List RootT) : (List.range (l.length * 33)).map (fun j => (flat encR l)[j]?.getD undef) = rowsR l := by
  have hl : (flat encR l).length = l.length * 33 := flat_length encR_length l
  apply List.ext_getElem
  · rw [List.length_map, List.length_range, rowsR_length]
  · intro j hj _
    have hj' : j < (flat encR l).length := by simpa [hl] using hj
    simp [List.getElem?_eq_getElem hj', rowsR_flat]
section
variable {ops : Array Oper} {rest : List Oper} {o : Oper} {a : Act} {Q : Exit → Act → World → Prop}
/-- append(s, l...) of rows of roots. -/
theorem wpList_appR (w : World) (hgd : o.guard = none) (s x : Operand)
    (ho : o.op = .call { callee := .builtin .append, args := #[s, x], argTypes := #[24, 24] })
    {B : Nat} {A : Option Addr} {n c : Nat} {xs : List Value} (hs : a.eval s = .slice A n c) (hown : Own w B 61 33 A n c xs)
    {B2 : Nat} {A2 : Option Addr} {m c2 : Nat} (l : List RootT) (hm : l.length = m) (hx : a.eval x = .slice A2 m c2) (hr : RowR w B2 A2 l) (hn : n + m ≤ 1000000) (hB : B ≤ w.heap.size)
    (N : Nat) (hN : n + m = N) (h : ∀ A' c' w', Own w' B 61 33 A' N c' (xs ++ rowsR l) → AppAt w w' A A' → Below B w w' → wpList Try.prog ops Q rest (a.put o.dst (.slice A' N c')) w') :
    wpList Try.prog ops Q (o :: rest) a w := by
  subst hm
  exact wpList_app elR w hgd s x ho hs hown hx hr (rows_one l) (by unfold maxLen; omega) (by omega) hB N hN _ (by rw [rows_range]) h
end
set_option maxRecDepth 20000 in
set_option maxHeartbeats 2000000 in
theorem dall_any (w : World) {B g c : Nat} {A : Option Addr} {L : Lists} {ps : List Value} (h : Doc w B g A c L ps) :
    Calls Try.prog 40 #[.pointer (some ⟨g, 0, none⟩)] w fun e w' => (∃ A' c', e = .returned (.slice A' (present L).length c') ∧ Own w' w.heap.size 61 33 A' (present L).length c' (rowsR (present L))) ∧ Below w.heap.size w w' := by
  have hn := Lib.hid (dnow_any w h)
  have h64 : (present L).length ≤ 64 := h.few _ (List.mem_of_getElem? (present_last h.ne))
  obtain ⟨n, hnn⟩ : ∃ n, Hid (∀ _ : Unit, (present L).length = n) := ⟨_, Lib.hid fun _ => rfl⟩
  rw [hnn.out ()] at hn h64 ⊢
  clear h
  go_enter Try.func40, Try.ntmps40
  go_wp2_with (first
    | (go_at_call 53; refine hn.out.mono ?_; rintro e w1 ⟨⟨Al, cl, rfl, ol⟩, m, rfl⟩; have ol' := Lib.hid (RowR.of_own (w := w) (by rw [hnn.out ()]; exact ol)); clear ol)
    | (at_builtin; refine wpList_appR (w.drewN m) rfl _ _ rfl rfl (Own.nil _ w.heap.size _ _) (present L) (hnn.out ()) rfl (show RowR (w.drewN m) _ _ _ from ol'.out) (by omega) (Nat.le_refl _) n (by omega) ?_
       intro A' c' w' o2 at2 b2
       have o2' := Lib.hid o2
       have b2' := Lib.hid b2
       clear o2 at2 b2))
  go_ret
  exact ⟨⟨A', c', rfl, by simpa using o2'.out⟩, (below_drewN (Below.refl _ _) m).trans b2'.out⟩
/-- What At answers. -/
def AtP (w : World) (L : Lists) (v : Nat) (e : Ending) (w' : World) : Prop :=
  ((∃ l A' c', L[v]? = some l ∧ e = .returned (.tuple #[.slice A' l.length c', .int .i64 0]) ∧ Own w' w.heap.size 61 33 A' l.length c' (rowsR l)) ∨ (L.length ≤ v ∧ e = .returned (.tuple #[.slice none 0 0, .int .i64 133]))) ∧ Below w.heap.size w w'
theorem dat_any (w : World) {B g c : Nat} {A : Option Addr} {L : Lists} {ps : List Value} (h : Doc w B g A c L ps) (v : Nat) :
    Calls Try.prog 42 #[.pointer (some ⟨g, 0, none⟩), .int .u64 (v : Int)] w (AtP w L v) := by
  have hm := h.many
  have c0 := h.cell
  have w2 : IntKind.u64.wrap (L.length : Int) = (L.length : Int) := by rw [IntKind.wrap_u64]; omega
  by_cases hv : v < L.length
  · obtain ⟨l, hl⟩ : ∃ l, L[v]? = some l := ⟨_, List.getElem?_eq_getElem hv⟩
    obtain ⟨a, Al, cl, rfl, c1, ho⟩ := h.at hl
    have h64 := h.few l (List.mem_of_getElem? hl)
    have g1 : ¬ (L.length : Int) ≤ (v : Int) := by omega
    have b1 : (0 : Int) ≤ (v : Int) := by omega
    have b2 : (v : Int) < (L.length : Int) := by omega
    have ho' := Lib.hid (RowR.of_own ho)
    have hl' := Lib.hid hl
    obtain ⟨n, hnn⟩ : ∃ n, Hid (∀ _ : Unit, l.length = n) := ⟨_, Lib.hid fun _ => rfl⟩
    rw [hnn.out ()] at c1 h64
    clear h hl ho hm
    go_enter Try.func42, Try.ntmps42
    go_wp2_with (first
      | (at_builtin; refine wpList_appR w rfl _ _ rfl rfl (Own.nil _ w.heap.size _ _) l (hnn.out ()) rfl ho'.out (by omega) (Nat.le_refl _) n (by omega) ?_
         intro A' c' w' o2 at2 b2
         have o2' := Lib.hid o2
         have b2' := Lib.hid b2
         clear o2 at2 b2))
    go_ret2
    refine ⟨.inl ⟨l, A', c', hl'.out, ?_, ?_⟩, b2'.out⟩
    · rw [hnn.out ()]; rfl
    · rw [hnn.out ()]; simpa using o2'.out
  · have g1 : (L.length : Int) ≤ (v : Int) := by omega
    have hv' := Lib.hid hv
    clear h hm hv
    go_enter Try.func42, Try.ntmps42
    go_wp2_with fail
    go_ret2
    exact ⟨.inr ⟨by have := hv'.out; omega, rfl⟩, Below.refl _ _⟩
end Go.Proofs.Ytakcnkmlglkkpaa

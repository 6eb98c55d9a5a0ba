/- RootsNamed: names of roots, both sides. A table of versions in memory; now, named, Len, Version, All. -/
import Derived.Test.YtakcnkmlglkkpaaProg
import Derived.Test.YtakcnkmlglkkpaaPkR1
import Derived.ChangeMaps5
import Derived.ProofKit
import Derived.OpenShut
import Derived.Test.YtakcnkmlglkkpaaPkR5
import Derived.Test.YtakcnkmlglkkpaaPkR13
import Derived.BigQuiet
import Derived.Deep.QuietTactic

namespace Go.Proofs.Ytakcnkmlglkkpaa
open Go.RowKit
set_option linter.unusedSimpArgs false

/-- A letter of a name. -/
def okC (c : Nat) : Prop := (97 ≤ c ∧ c ≤ 122) ∨ (48 ≤ c ∧ c ≤ 57) ∨ c = 45 ∨ c = 95 ∨ c = 46 ∨ c = 47
def chOf (s : ByteArray) (k : Nat) : Nat := if h : k < s.size then s[k].toNat else 0
def Name (s : ByteArray) : Prop := 1 ≤ s.size ∧ s.size ≤ 32 ∧ ∀ k, k < s.size → okC (chOf s k)
theorem chOf_at {s : ByteArray} {k : Nat} (h : k < s.size) : s[k].toNat = chOf s k := by rw [chOf, dif_pos h]
theorem chOf_lt (s : ByteArray) (k : Nat) : chOf s k < 256 := by
  unfold chOf
  split
  · exact UInt8.toNat_lt _
  · decide
theorem str_empty {s : ByteArray} (h : s.size = 0) : s.toList = [] := by
  rw [ByteArray.toList_eq]
  exact List.eq_nil_of_length_eq_zero (by simpa using h)
theorem str_some {s : ByteArray} (h : ¬ s.size = 0) : s.toList.isEmpty = false ∧ ¬ s.toList = [] := by
  have h1 : ¬ s.toList = [] := fun e => h (by
    rw [ByteArray.toList_eq] at e
    have := congrArg List.length e
    simpa using this)
  exact ⟨by simp [h1], h1⟩

set_option maxRecDepth 20000 in
set_option maxHeartbeats 1000000 in
theorem isName_any (s : ByteArray) (w : World) :
    Calls Try.prog 10 #[.string s] w fun e w' => (e = .returned (.bool true) ∧ Name s ∨ e = .returned (.bool false) ∧ ¬ Name s) ∧ w = w' := by
  by_cases h0 : s.size = 0
  · have e0 := str_empty h0
    go_enter Try.func10, Try.ntmps10
    go_wp2_with fail
    go_ret
    exact ⟨.inr ⟨rfl, fun h => by have := h.1; omega⟩, rfl⟩
  · obtain ⟨e0, e1⟩ := str_some h0
    by_cases h1 : s.size ≤ 32
    · go_enter Try.func10, Try.ntmps10
      go_wp2_with fail
      go_loop [14] (fun i => ∃ k : Nat, k ≤ s.size ∧ i = .int .i64 k ∧ Hid (∀ j, j < k → okC (chOf s j))) (fun i => s.size - (intOf i).toNat)
      case atStart => exact ⟨0, by omega, rfl, Lib.hid (fun j hj => absurd hj (by omega))⟩
      case round =>
        obtain ⟨k, hk, rfl, ho⟩ := hrel
        by_cases hlt : k < s.size
        · have hc := chOf_at hlt
          have hc2 := chOf_lt s k
          have ho2 : okC (chOf s k) → Hid (∀ j, j < k + 1 → okC (chOf s j)) := fun h => Lib.hid (fun j hj => by
            rcases Nat.lt_succ_iff_lt_or_eq.1 hj with h2 | h2
            · exact ho.out j h2
            · subst h2
              exact h)
          have hno : ¬ okC (chOf s k) → ¬ Name s := fun h hn => h (hn.2.2 k hlt)
          have ho3 := Lib.hid ho2
          have hno2 := Lib.hid hno
          clear ho2 hno
          generalize chOf s k = c at hc hc2 ho3 hno2
          go_wp2_with fail
          all_goals first
            | (go_ret; exact ⟨.inr ⟨rfl, hno2.out (by unfold okC; (try simp only [bne_iff_ne, bne_eq_false_iff_eq, beq_iff_eq, beq_eq_false_iff_ne, Bool.not_eq_false', Bool.not_eq_true', decide_eq_true_eq, decide_eq_false_iff_not, ne_eq] at *); omega)⟩, rfl⟩)
            | (go_round
               case rel => exact ⟨k + 1, by omega, by go_num, ho3.out (by unfold okC; (try simp only [bne_iff_ne, bne_eq_false_iff_eq, beq_iff_eq, beq_eq_false_iff_ne, Bool.not_eq_false', Bool.not_eq_true', decide_eq_true_eq, decide_eq_false_iff_not, ne_eq] at *); omega)⟩
               case measure => simp [intOf]; omega)
        · go_wp2_with fail
          go_ret
          exact ⟨.inl ⟨rfl, by omega, h1, fun j hj => ho.out j (by omega)⟩, rfl⟩
    · go_enter Try.func10, Try.ntmps10
      go_wp2_with fail
      go_ret
      exact ⟨.inr ⟨rfl, fun h => by have := h.2.1; omega⟩, rfl⟩

set_option maxRecDepth 20000 in
set_option maxHeartbeats 1000000 in
theorem refNamed_any (s : ByteArray) (w : World) :
    Calls Try.prog 11 #[.string s] w fun e w' => (e = .returned (.bool true) ∧ Name s ∨ e = .returned (.bool false) ∧ ¬ Name s) ∧ w = w' := by
  by_cases h0 : s.size = 0
  · go_enter Try.func11, Try.ntmps11
    go_wp2_with fail
    go_ret
    exact ⟨.inr ⟨rfl, fun h => by have := h.1; omega⟩, rfl⟩
  · by_cases h1 : s.size ≤ 32
    · go_enter Try.func11, Try.ntmps11
      go_wp2_with fail
      go_loop [3] (fun i => ∃ k : Nat, k ≤ s.size ∧ i = .int .i64 k ∧ Hid (∀ j, j < k → okC (chOf s j))) (fun i => s.size - (intOf i).toNat)
      case atStart => exact ⟨0, by omega, rfl, Lib.hid (fun j hj => absurd hj (by omega))⟩
      case round =>
        obtain ⟨k, hk, rfl, ho⟩ := hrel
        by_cases hlt : k < s.size
        · have hc := chOf_at hlt
          have hc2 := chOf_lt s k
          have ho2 : okC (chOf s k) → Hid (∀ j, j < k + 1 → okC (chOf s j)) := fun h => Lib.hid (fun j hj => by
            rcases Nat.lt_succ_iff_lt_or_eq.1 hj with h2 | h2
            · exact ho.out j h2
            · subst h2
              exact h)
          have hno : ¬ okC (chOf s k) → ¬ Name s := fun h hn => h (hn.2.2 k hlt)
          have ho3 := Lib.hid ho2
          have hno2 := Lib.hid hno
          clear ho2 hno
          generalize chOf s k = c at hc hc2 ho3 hno2
          go_wp2_with fail
          all_goals first
            | (go_ret; exact ⟨.inr ⟨rfl, hno2.out (by unfold okC; (try simp only [bne_iff_ne, bne_eq_false_iff_eq, beq_iff_eq, beq_eq_false_iff_ne, Bool.not_eq_false', Bool.not_eq_true', decide_eq_true_eq, decide_eq_false_iff_not, ne_eq] at *); omega)⟩, rfl⟩)
            | (go_round
               case rel => exact ⟨k + 1, by omega, by go_num, ho3.out (by unfold okC; (try simp only [bne_iff_ne, bne_eq_false_iff_eq, beq_iff_eq, beq_eq_false_iff_ne, Bool.not_eq_false', Bool.not_eq_true', decide_eq_true_eq, decide_eq_false_iff_not, ne_eq] at *); omega)⟩
               case measure => simp [intOf]; omega)
        · go_wp2_with fail
          go_ret
          exact ⟨.inl ⟨rfl, by omega, h1, fun j hj => ho.out j (by omega)⟩, rfl⟩
    · go_enter Try.func11, Try.ntmps11
      go_wp2_with fail
      go_ret
      exact ⟨.inr ⟨rfl, fun h => by have := h.2.1; omega⟩, rfl⟩

theorem named_any (s : ByteArray) (w : World) : Calls Try.prog 4 #[.string s] w fun e w' => e = .returned (.bool true) ∧ w = w' := by
  go_enter Try.func4, Try.ntmps4
  go_wp2_with fail
  refine (isName_any s w).mono ?_
  rintro e w' ⟨h, rfl⟩
  rcases h with ⟨rfl, h1⟩ | ⟨rfl, h1⟩
  all_goals go_wp2_with fail
  all_goals refine (refNamed_any s _).mono ?_
  all_goals rintro e w' ⟨h, rfl⟩
  all_goals rcases h with ⟨rfl, h2⟩ | ⟨rfl, h2⟩
  all_goals first | exact absurd h1 h2 | exact absurd h2 h1 | skip
  all_goals go_wp2_with fail
  all_goals go_ret
  all_goals exact ⟨rfl, rfl⟩

set_option maxRecDepth 100000 in
open Go.ChangeShapes Go.WideShapes in
theorem rootsNamed_calls {H : Type} {enc : TypeId × Value → H} (W : World) (base : Nat) (v0 : Value) (d0 : DataW H) (p0 : List MemPlace)
    (o0 : Value.okWide Try.prog W .any base 9 v0) (h0 : DataW.Trod enc Try.prog W 0 (fun _ => true) true 9 v0 d0 p0)
    (_hsz : (DataW.weightsEach Try.prog [9] [d0]).all (· ≤ reachBytes) = true) :
    Calls Try.prog 4 #[v0] W fun e W' => e = .returned (.bool true) ∧ Below W.heap.size W W' := by
  obtain ⟨s, rfl, _⟩ := Go.ChangeMaps.open_string Try.underlying9 o0 h0
  exact (named_any s W).mono fun _ _ ⟨he, hw⟩ => ⟨he, by rw [← hw]; exact Below.refl _ _⟩
end Go.Proofs.Ytakcnkmlglkkpaa

namespace Go.Proofs.Ytakcnkmlglkkpaa
open Go.RowKit
set_option linter.unusedSimpArgs false
set_option linter.unusedVariables false

/-- A table: its versions as trees, their pointers in a row of its own. -/
structure Tbl (w : World) (B g : Nat) (A : Option Addr) (c : Nat) (vs : List Tr) (ps : List Value) : Prop where
  blk : w.heap[g]? = some (.cells #[.slice A vs.length c] 68 (0, 0))
  gB : B ≤ g
  own : Own w B 81 1 A vs.length c ps
  tree : ∀ (i : Nat) (t : Tr), vs[i]? = some t → ∃ p, ps[i]? = some p ∧ TreeAt w t p
  ne : 0 < vs.length
  few : ∀ t ∈ vs, t.cnt ≤ 64
  many : vs.length ≤ 100000
  rise : ∀ t ∈ vs, Rise t.list
  nam : ∀ t ∈ vs, ∀ r ∈ t.list, Name r.1
section
variable {w w' : World} {B g c : Nat} {A : Option Addr} {vs : List Tr} {ps : List Value}
theorem Tbl.lt (h : Tbl w B g A c vs ps) : g < w.heap.size := (Array.getElem?_eq_some_iff.1 h.blk).1
theorem Tbl.below (h : Tbl w B g A c vs ps) (hb : Below w.heap.size w w') : Tbl w' B g A c vs ps :=
  ⟨(hb.block g h.lt).trans h.blk, h.gB, h.own.below hb (fun k hk => (h.own.lt k hk).2), fun i t ht => by
    obtain ⟨p, h1, h2⟩ := h.tree i t ht
    exact ⟨p, h1, TreeAt.below hb _ _ h2⟩, h.ne, h.few, h.many, h.rise, h.nam⟩
theorem Tbl.cell (h : Tbl w B g A c vs ps) : w.cell? ⟨g, 0, none⟩ = some (.slice A vs.length c) := by simp [World.cell?, h.blk]
theorem Tbl.frozen (h : Tbl w B g A c vs ps) : w.frozen? ⟨g, 0, none⟩ = false := by simp [World.frozen?, h.blk]
theorem Tbl.at (h : Tbl w B g A c vs ps) {i : Nat} {t : Tr} (ht : vs[i]? = some t) : ∃ a p, A = some ⟨a, 0, none⟩ ∧ w.cell? ⟨a, i, none⟩ = some (.pointer p) ∧ TreeAt w t (.pointer p) := by
  obtain ⟨p, h1, h2⟩ := h.tree i t ht
  obtain ⟨q, rfl⟩ := h2.ptr
  obtain ⟨a, rfl⟩ := h.own.head h.ne
  have hi := (List.getElem?_eq_some_iff.1 ht).1
  exact ⟨a, q, rfl, (h.own.cell i (by omega)).trans h1, h2⟩
end
set_option maxRecDepth 20000 in
theorem now_any (w : World) {B g c : Nat} {A : Option Addr} {vs : List Tr} {ps : List Value} (h : Tbl w B g A c vs ps) {t : Tr} (ht : vs[vs.length - 1]? = some t) :
    Calls Try.prog 44 #[.pointer (some ⟨g, 0, none⟩)] w fun e w' => (∃ p, e = .returned (.tuple #[p, .bool true]) ∧ TreeAt w t p) ∧ ∃ m, w' = w.drewN m := by
  obtain ⟨N, hN⟩ : ∃ N, vs.length = N + 1 := ⟨vs.length - 1, by have := h.ne; omega⟩
  have hm := h.many
  have c0 := h.cell
  obtain ⟨a, p, rfl, c1, hp⟩ := h.at ht
  rw [hN] at c0 c1 hm
  simp only [Nat.add_sub_cancel] at c1
  have w1 : IntKind.i64.wrap (N : Int) = (N : Int) := by rw [IntKind.wrap_i64]; omega
  have b1 : (0 : Int) ≤ (N : Int) := by omega
  have b2 : (N : Int) < (N : Int) + 1 := by omega
  have hp' := Lib.hid hp
  clear h ht hp hm hN
  go_enter Try.func44, Try.ntmps44
  go_wp2_with fail
  go_quiet (fail)
  go_wp2_with fail
  go_ret2
  exact ⟨⟨_, rfl, hp'.out⟩, _, rfl⟩
theorem TreeAt.drew {w : World} {t : Tr} {v : Value} (h : TreeAt w t v) (m : Nat) : TreeAt (w.drewN m) t v := TreeAt.below (below_drewN (Below.refl _ _) m) _ _ h
theorem len_any (w : World) {B g c : Nat} {A : Option Addr} {vs : List Tr} {ps : List Value} (h : Tbl w B g A c vs ps) {t : Tr} (ht : vs[vs.length - 1]? = some t) :
    Calls Try.prog 24 #[.pointer (some ⟨g, 0, none⟩)] w fun e w' => e = .returned (.int .i64 (t.cnt : Nat)) ∧ ∃ m, w' = w.drewN m := by
  have hn := Lib.hid (now_any w h ht)
  clear h ht
  go_enter Try.func24, Try.ntmps24
  go_wp2_with (first
    | (go_at_call 44; refine hn.out.mono ?_; rintro e w1 ⟨⟨p, rfl, tp⟩, m, rfl⟩; have hc := Lib.hid (count_any (w.drewN m) t p (tp.drew m)); clear tp)
    | (go_at_call 47; refine hc.out.mono ?_; rintro e w2 ⟨rfl, rfl⟩))
  go_ret
  exact ⟨rfl, m, rfl⟩
theorem all_any (w : World) {B g c : Nat} {A : Option Addr} {vs : List Tr} {ps : List Value} (h : Tbl w B g A c vs ps) {t : Tr} (ht : vs[vs.length - 1]? = some t) :
    Calls Try.prog 17 #[.pointer (some ⟨g, 0, none⟩)] w fun e w' => (∃ A' c', e = .returned (.slice A' t.cnt c') ∧ Own w' w.heap.size 61 33 A' t.cnt c' (rowsR t.list)) ∧ Below w.heap.size w w' := by
  have hn := Lib.hid (now_any w h ht)
  have hf : t.cnt ≤ 999000 := by have := h.few t (List.mem_of_getElem? ht); omega
  clear h ht
  go_enter Try.func17, Try.ntmps17
  go_wp2_with (first
    | (go_at_call 44; refine hn.out.mono ?_; rintro e w1 ⟨⟨p, rfl, tp⟩, m, rfl⟩; have hc := Lib.hid (listed_any (w.drewN m) t p (tp.drew m) hf); clear tp)
    | (go_at_call 45; refine hc.out.mono ?_; rintro e w2 ⟨⟨A', c', rfl, o2⟩, b2⟩; have o2' := Lib.hid o2; have b2' := Lib.hid b2; clear o2 b2))
  go_ret
  exact ⟨⟨A', c', rfl, o2'.out⟩, (below_drewN (Below.refl _ _) m).trans b2'.out⟩
theorem version_any (w : World) {B g c : Nat} {A : Option Addr} {vs : List Tr} {ps : List Value} (h : Tbl w B g A c vs ps) :
    Calls Try.prog 18 #[.pointer (some ⟨g, 0, none⟩)] w fun e w' => e = .returned (.int .u64 (vs.length - 1 : Nat)) ∧ ∃ m, w' = w.drewN m := by
  obtain ⟨N, hN⟩ : ∃ N, vs.length = N + 1 := ⟨vs.length - 1, by have := h.ne; omega⟩
  obtain ⟨t, ht⟩ : ∃ t, vs[vs.length - 1]? = some t := ⟨_, List.getElem?_eq_getElem (by omega)⟩
  have hn := Lib.hid (now_any w h ht)
  have hm := h.many
  have c0 := h.cell
  rw [hN] at c0 hm ⊢
  have w1 : IntKind.i64.wrap (N : Int) = (N : Int) := by rw [IntKind.wrap_i64]; omega
  have w2 : IntKind.u64.wrap (N : Int) = (N : Int) := by rw [IntKind.wrap_u64]; omega
  clear h ht hm hN
  go_enter Try.func18, Try.ntmps18
  go_wp2_with (go_at_call 44; refine hn.out.mono ?_; rintro e w1 ⟨⟨p, rfl, tp⟩, m, rfl⟩; clear tp)
  go_ret
  exact ⟨rfl, m, rfl⟩
theorem atv_any (w : World) {B g c : Nat} {A : Option Addr} {vs : List Tr} {ps : List Value} (h : Tbl w B g A c vs ps) (v : Nat) :
    Calls Try.prog 19 #[.pointer (some ⟨g, 0, none⟩), .int .u64 (v : Int)] w fun e w' => ((∃ t A' c', vs[v]? = some t ∧ e = .returned (.tuple #[.slice A' t.cnt c', .int .i64 0]) ∧ Own w' w.heap.size 61 33 A' t.cnt c' (rowsR t.list)) ∨ (vs.length ≤ v ∧ e = .returned (.tuple #[.slice none 0 0, .int .i64 133]))) ∧ Below w.heap.size w w' := by
  obtain ⟨N, hN⟩ : ∃ N, vs.length = N + 1 := ⟨vs.length - 1, by have := h.ne; omega⟩
  obtain ⟨t0, ht0⟩ : ∃ t, vs[vs.length - 1]? = some t := ⟨_, List.getElem?_eq_getElem (by omega)⟩
  have hn := Lib.hid (now_any w h ht0)
  have hm := h.many
  have c0 := h.cell
  have hv := version_any w h
  rw [hN] at c0 hm hv
  simp only [Nat.add_sub_cancel] at hv
  have hv' : Hid (∀ m, Calls Try.prog 18 #[.pointer (some ⟨g, 0, none⟩)] (w.drewN m) fun e w' => e = .returned (.int .u64 (N : Int)) ∧ ∃ m, w' = w.drewN m) := Lib.hid fun m => by
    have := version_any (w.drewN m) (h.below (below_drewN (Below.refl _ _) m))
    rw [hN] at this
    refine this.mono ?_
    rintro e w' ⟨rfl, k, rfl⟩
    exact ⟨rfl, m + k, by simp⟩
  by_cases hle : v ≤ N
  · obtain ⟨t, ht⟩ : ∃ t, vs[v]? = some t := ⟨_, List.getElem?_eq_getElem (by omega)⟩
    obtain ⟨a, p, rfl, c1, hp⟩ := h.at ht
    have hf : t.cnt ≤ 999000 := by have := h.few t (List.mem_of_getElem? ht); omega
    have hli : Hid (∀ m, Calls Try.prog 45 #[.pointer p] (w.drewN m) fun e w' => (∃ A c, e = .returned (.slice A t.cnt c) ∧ Own w' w.heap.size 61 33 A t.cnt c (rowsR t.list)) ∧ Below w.heap.size w w') := Lib.hid fun m => by
      refine (listed_any (w.drewN m) t _ (hp.drew m) hf).mono ?_
      rintro e w' ⟨h1, h2⟩
      exact ⟨h1, (below_drewN (Below.refl _ _) m).trans h2⟩
    have g1 : ¬ (N : Int) < (v : Int) := by omega
    have b1 : (0 : Int) ≤ (v : Int) := by omega
    have b2 : (v : Int) < (N : Int) + 1 := by omega
    have ht' := Lib.hid ht
    clear h ht ht0 hp hf hm hN hv hle
    go_enter Try.func19, Try.ntmps19
    go_wp2_with (first
      | (go_at_call 44; refine hn.out.mono ?_; rintro e w1 ⟨⟨p0, rfl, tp⟩, m, rfl⟩; clear tp)
      | (go_at_call 18; refine (hv'.out m).mono ?_; rintro e w2 ⟨rfl, m2, rfl⟩)
      | (go_at_call 45; refine (hli.out m2).mono ?_; rintro e w3 ⟨⟨A', c', rfl, o2⟩, b2⟩; have o2' := Lib.hid o2; have b2' := Lib.hid b2; clear o2 b2))
    go_ret2
    exact ⟨.inl ⟨t, A', c', ht'.out, rfl, o2'.out⟩, b2'.out⟩
  · have g1 : (N : Int) < (v : Int) := by omega
    have hle' := Lib.hid hle
    have hN' := Lib.hid hN
    clear h ht0 hm hN hv hle
    go_enter Try.func19, Try.ntmps19
    go_wp2_with (first
      | (go_at_call 44; refine hn.out.mono ?_; rintro e w1 ⟨⟨p0, rfl, tp⟩, m, rfl⟩; clear tp)
      | (go_at_call 18; refine (hv'.out m).mono ?_; rintro e w2 ⟨rfl, m2, rfl⟩))
    go_ret2
    exact ⟨.inr ⟨by rw [hN'.out]; have := hle'.out; omega, rfl⟩, below_drewN (Below.refl _ _) _⟩
theorem namedT_any (w : World) {B g c : Nat} {A : Option Addr} {vs : List Tr} {ps : List Value} (h : Tbl w B g A c vs ps) {t : Tr} (ht : vs[vs.length - 1]? = some t) (s : ByteArray) :
    Calls Try.prog 46 #[.pointer (some ⟨g, 0, none⟩), .string s] w fun e w' => ((∃ p, e = .returned (.tuple #[p, .int .i64 0]) ∧ Name s ∧ TreeAt w t p) ∨ (e = .returned (.tuple #[.pointer none, .int .i64 130]) ∧ ¬ Name s)) ∧ ∃ m, w' = w.drewN m := by
  have hn := Lib.hid (now_any w h ht)
  have hi := Lib.hid fun W => isName_any s W
  clear h ht
  go_enter Try.func46, Try.ntmps46
  go_wp2_with (first
    | (go_at_call 44; refine hn.out.mono ?_; rintro e w1 ⟨⟨p, rfl, tp⟩, m, rfl⟩; have tp' := Lib.hid tp; clear tp)
    | (go_at_call 10; refine (hi.out _).mono ?_; rintro e w2 ⟨(⟨rfl, hs⟩ | ⟨rfl, hs⟩), rfl⟩))
  · go_ret2
    exact ⟨.inl ⟨_, rfl, hs, tp'.out⟩, m, rfl⟩
  · go_ret2
    exact ⟨.inr ⟨rfl, hs⟩, m, rfl⟩
end Go.Proofs.Ytakcnkmlglkkpaa

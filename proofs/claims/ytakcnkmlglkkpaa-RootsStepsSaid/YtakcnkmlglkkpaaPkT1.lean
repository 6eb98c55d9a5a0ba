/- What the laws lean on: plain words; roots and keys compared. RootsSteps, walked. (Printed by tools/gensteps.py.) RootsSteps: the argument opened. -/
import Derived.Test.YtakcnkmlglkkpaaPkR39
import Derived.Test.YtakcnkmlglkkpaaPkR41

namespace Go.Proofs.Ytakcnkmlglkkpaa
open Go.RowKit
set_option linter.unusedSimpArgs false
set_option linter.unusedVariables false
open Classical

section
variable {P : Program} {ops : Array Oper} {rest : List Oper} {o : Oper} {a : Act} {w : World} {Q : Exit → Act → World → Prop}
/-- A guarded load of a whole row, its guard met. -/
theorem wpList_loadg (hw : Region.wanted o (yielded ops a.tmps) = true) (ty : TypeId) (x : Operand) (ho : o.op = .load ty x)
    (b k : Nat) (hx : a.eval x = .pointer (some ⟨b, k, none⟩)) (cs : List Value) (d : TypeDesc) (hc : w.rangeAt b k cs)
    (hu : P.underlying ty = some d) (hd : d.isRow = true) (hi : (P.info? ty).map (·.size) = some cs.length)
    (h : wpList P ops Q rest (a.put o.dst (.agg cs.toArray)) w) : wpList P ops Q (o :: rest) a w :=
  wpList_step fun K hK => by
    rw [if_pos hw]
    exact wp_load_mid ty x ho b k hx cs d hc hu hd hi (hK _ _ h)
end
theorem equal_root (a b : RootT) (w : World) : (Op.equalIn 10000 61 (.agg (encR a).toArray) (.agg (encR b).toArray)).run Try.prog w = .ok (decide (a = b)) w := by
  have hS : Try.prog.underlying 61 = some (.struct (Try.prog.fieldsOf 61)) := by kernel_rfl
  have hp : Try.prog.stoodInHeld 61 = false := by kernel_rfl
  have h1 : ∀ x : RootT, (part 9 (encR x).toArray 0).run Try.prog w = .ok (.string x.1) w := fun x => run_part_plain w (by kernel_rfl) (by simp [encR])
  have h2 : ∀ x : RootT, ((encR x).drop 1).take 32 = encKy x.2 := fun x => by
    have : (encR x).drop 1 = encKy x.2 := rfl
    rw [this]
    exact List.take_of_length_le (by rw [encKy_length]; decide)
  rw [show (10000 : Nat) = 9999 + 1 from rfl, run_equalIn_agg w 9999 _ _ _ hS hp]
  simp only [Program.fieldsOf, Try.underlying61, Op.eqFields]
  have hs : (Op.equalIn 9999 9 (.string a.1) (.string b.1)).run Try.prog w = .ok (a.1.toList == b.1.toList) w := run_equalIn_string w 9998 9 _ _ Try.underlying9
  have hk := equal_key 9997 a.2 b.2 w
  rw [if_pos (by decide : "Name" ≠ "_"), if_pos (by decide : "Key" ≠ "_")]
  have e1 : decide (a = b) = (decide (a.1 = b.1) && decide (a.2 = b.2)) := by
    obtain ⟨a1, a2⟩ := a
    obtain ⟨b1, b2⟩ := b
    simp
  rw [e1]
  rw [bytes_eq] at hs
  generalize decide (a.1 = b.1) = B1 at hs ⊢
  generalize decide (a.2 = b.2) = B2 at hk ⊢
  simp only [Sem.run_bind, h1, hs, Result.andThen_ok]
  cases B1
  · simp
  · simp only [Bool.not_true, Bool.false_eq_true, if_false, Sem.run_bind, part_key, h2, hk, Result.andThen_ok]
    cases B2 <;> simp
theorem neR (a b : RootT) (w : World) : (binOp .neq 61 (.agg (encR a).toArray) (.agg (encR b).toArray)).run Try.prog w = .ok (.bool (!decide (a = b))) w := by
  rw [run_neq_struct, equal_root]
  rfl
theorem eqR (a b : RootT) (w : World) : (binOp .eql 61 (.agg (encR a).toArray) (.agg (encR b).toArray)).run Try.prog w = .ok (.bool (decide (a = b))) w := by
  rw [run_eql_struct, equal_root]
  rfl
theorem guR (op : BinOp) (x y : Operand) (a b : Array Value) (w : World) : (eqGuard op 61 x y (.agg a) (.agg b)).run Try.prog w = .ok () w := run_eqGuard_agg w op _ x y a b (by kernel_rfl)
theorem eqKy (a b : RKey) (w : World) : (binOp .eql 35 (.agg (encKy a).toArray) (.agg (encKy b).toArray)).run Try.prog w = .ok (.bool (decide (a = b))) w := by
  have := equal_key 9998 a b w
  rw [run_eql_struct, this]
  rfl
theorem next_head (l : List RootT) (s : ByteArray) : nextQ l s true = l[0]? := by
  cases l with
  | nil => rfl
  | cons x l => simp [nextQ]
theorem next_step : ∀ (l : List RootT) (k : Nat) (x : RootT), Rise l → l[k]? = some x → nextQ l x.1 false = l[k + 1]?
  | [], k, x, _, h => by simp at h
  | y :: l, 0, x, hr, h => by
    obtain rfl : y = x := by simpa using h
    have h0 : ltS y.1 y.1 = false := ltS_irrefl _
    cases l with
    | nil => simp [nextQ, h0]
    | cons z l =>
      have h1 := hr.1 z (by simp)
      simp [nextQ, h0, h1]
  | y :: l, k + 1, x, hr, h => by
    have hx : l[k]? = some x := by simpa using h
    have h1 := ltS_asymm (hr.1 x (List.mem_of_getElem? hx))
    have ih := next_step l k x hr.2 hx
    simp only [nextQ, Bool.false_or] at ih ⊢
    rw [List.find?_cons_of_neg (by simp [h1]), ih]
    simp
theorem getQ_at {l : List RootT} {k : Nat} {x : RootT} (h : okL l) (hx : l[k]? = some x) : getQ l x.1 = (x.2, 0) := by
  have hm := List.mem_of_getElem? hx
  unfold getQ
  rw [if_pos (h.2 x hm), keyL_some h.1 hm rfl]
theorem rise_at {l : List RootT} (h : Rise l) {i k : Nat} {x y : RootT} (hik : i < k) (hx : l[i]? = some x) (hy : l[k]? = some y) : ltS x.1 y.1 = true := by
  obtain ⟨hi, rfl⟩ := List.getElem?_eq_some_iff.1 hx
  have e : l = l.take (i + 1) ++ l.drop (i + 1) := (List.take_append_drop _ _).symm
  rw [e] at h
  refine ((rise_app _ _).1 h).2.2 _ ?_ y ?_
  · exact List.mem_of_getElem? (i := i) (by rw [List.getElem?_take, if_pos (by omega)]; exact List.getElem?_eq_getElem hi)
  · exact List.mem_of_getElem? (i := k - (i + 1)) (by rw [List.getElem?_drop, show i + 1 + (k - (i + 1)) = k by omega]; exact hy)
theorem present_snoc (L : Lists) (l : List RootT) : present (L ++ [l]) = l := by
  unfold present
  simp
theorem setL_pos (r : RootT) (l : List RootT) : 0 < (setL r l).length := by
  cases l with
  | nil => simp [setL]
  | cons x l =>
    unfold setL
    split
    · simp
    · split <;> simp
section
variable {w0 W W' : World} {g : Nat} {L : Lists}
theorem set_one (h : One w0 W g L) (hm : L.length < 100000) (s : ByteArray) (k : RKey) :
    Calls Try.prog 20 #[.pointer (some ⟨g, 0, none⟩), .string s, .agg (encKy k).toArray] W fun e w' => e = .returned (.int .i64 (setQ (present L) s : Nat)) ∧ One w0 w' g (if setQ (present L) s = 0 then L ++ [setL (s, k) (present L)] else L) ∧ Gro (fun j => Tch W j ∧ w0.heap.size ≤ j) W w' := by
  obtain ⟨lo, A, t⟩ := h
  refine (set_any t hm s k).mono ?_
  rintro e w' ⟨h1, A', h2, h3, h4⟩
  have hg : Gro (fun j => Tch W j ∧ w0.heap.size ≤ j) W w' := h3.sub fun j hj => .inl ⟨t.tch j hj, by
    rcases hj with rfl | hj
    · exact t.gB.1
    · exact t.gB.2 j hj⟩
  exact ⟨h1, ⟨lo.trans (hg.below lo.size fun j hj => hj.2), A', h2⟩, hg⟩
theorem all_one (h : One w0 W g L) :
    Calls Try.prog 17 #[.pointer (some ⟨g, 0, none⟩)] W fun e w' => ∃ A' c', e = .returned (.slice A' (present L).length c') ∧ Own w' W.heap.size 61 33 A' (present L).length c' (rowsR (present L)) ∧ Below W.heap.size W w' := by
  obtain ⟨lo, A, t⟩ := h
  exact (allL_any t).mono fun e w' ⟨⟨A', c', h1, h2⟩, h3⟩ => ⟨A', c', h1, h2, h3⟩
theorem len_one (h : One w0 W g L) :
    Calls Try.prog 24 #[.pointer (some ⟨g, 0, none⟩)] W fun e w' => e = .returned (.int .i64 ((present L).length : Nat)) ∧ Below W.heap.size W w' := by
  obtain ⟨lo, A, t⟩ := h
  exact lenL_any t
theorem version_one (h : One w0 W g L) :
    Calls Try.prog 18 #[.pointer (some ⟨g, 0, none⟩)] W fun e w' => e = .returned (.int .u64 (L.length - 1 : Nat)) ∧ Below W.heap.size W w' := by
  obtain ⟨lo, A, t⟩ := h
  exact versionL_any t
theorem next_one (h : One w0 W g L) (s : ByteArray) (a : Bool) :
    Calls Try.prog 25 #[.pointer (some ⟨g, 0, none⟩), .string s, .bool a] W fun e w' => e = .returned (.tuple #[.agg (encR ((nextQ (present L) s a).getD rZ)).toArray, .bool (nextQ (present L) s a).isSome]) ∧ Below W.heap.size W w' := by
  obtain ⟨lo, A, t⟩ := h
  rw [← nxtV_get]
  exact nextL_any t s a
theorem get_one (h : One w0 W g L) (s : ByteArray) :
    Calls Try.prog 26 #[.pointer (some ⟨g, 0, none⟩), .string s] W fun e w' => e = .returned (.tuple #[.agg (encKy (getQ (present L) s).1).toArray, .int .i64 ((getQ (present L) s).2 : Nat)]) ∧ Below W.heap.size W w' := by
  obtain ⟨lo, A, t⟩ := h
  exact getL_any t s
theorem at_one (h : One w0 W g L) (v : Nat) {l : List RootT} (hl : L[v]? = some l) :
    Calls Try.prog 19 #[.pointer (some ⟨g, 0, none⟩), .int .u64 (v : Int)] W fun e w' => ∃ A' c', e = .returned (.tuple #[.slice A' l.length c', .int .i64 0]) ∧ Own w' W.heap.size 61 33 A' l.length c' (rowsR l) ∧ Below W.heap.size W w' := by
  obtain ⟨lo, A, t⟩ := h
  refine (atL_any t v).mono ?_
  rintro e w' ⟨h1 | h1, h2⟩
  · obtain ⟨l', A', c', h3, h4, h5⟩ := h1
    rw [hl] at h3
    cases h3
    exact ⟨A', c', h4, h5, h2⟩
  · have := (List.getElem?_eq_some_iff.1 hl).1
    omega
theorem at_no (h : One w0 W g L) (v : Nat) (hv : L.length ≤ v) :
    Calls Try.prog 19 #[.pointer (some ⟨g, 0, none⟩), .int .u64 (v : Int)] W fun e w' => e = .returned (.tuple #[.slice none 0 0, .int .i64 133]) ∧ Below W.heap.size W w' := by
  obtain ⟨lo, A, t⟩ := h
  refine (atL_any t v).mono ?_
  rintro e w' ⟨h1 | h1, h2⟩
  · obtain ⟨l', A', c', h3, h4, h5⟩ := h1
    have := (List.getElem?_eq_some_iff.1 h3).1
    omega
  · exact ⟨h1.2, h2⟩
theorem turns_one (h : One w0 W g L) (u v : Nat) {a b : List RootT} (ha : L[u]? = some a) (hb : L[v]? = some b) :
    Calls Try.prog 22 #[.pointer (some ⟨g, 0, none⟩), .int .u64 (u : Int), .int .u64 (v : Int)] W fun e w' => ∃ A' c', e = .returned (.tuple #[.slice A' (mergeQ a b).length c', .int .i64 0]) ∧ Own w' W.heap.size 55 67 A' (mergeQ a b).length c' (rowsT (mergeQ a b)) ∧ Below W.heap.size W w' := by
  obtain ⟨lo, A, t⟩ := h
  refine (turns_any W t u v).mono ?_
  rintro e w' ⟨h1 | h1, h2⟩
  · obtain ⟨a', b', A', c', h3, h4, h5, h6⟩ := h1
    rw [ha] at h3
    rw [hb] at h4
    cases h3
    cases h4
    exact ⟨A', c', h5, h6, h2⟩
  · have := (List.getElem?_eq_some_iff.1 ha).1
    have := (List.getElem?_eq_some_iff.1 hb).1
    omega
end
end Go.Proofs.Ytakcnkmlglkkpaa

namespace Go.Proofs.Ytakcnkmlglkkpaa
open Go.RowKit
set_option linter.unusedSimpArgs false
set_option linter.unusedVariables false
open Classical

def zzS : ByteArray := ⟨#[122, 122]⟩
def k9 : RKey := ⟨9 :: List.replicate 31 0, by simp⟩
theorem name_zz : Name zzS := by
  refine ⟨by decide, by decide, ?_⟩
  have h : zzS.size = 2 := rfl
  rw [h]
  intro k hk
  have e : chOf zzS k = 122 := by
    obtain rfl | rfl : k = 0 ∨ k = 1 := by omega
    · rfl
    · rfl
  rw [e]
  unfold okC
  omega
/-- A Set of that name: it is done, or there are as many as may be; there is a root behind it. -/
theorem set_zz (L : Lists) : (setQ (present L) zzS = 0 ∨ setQ (present L) zzS = 131) ∧ 0 < (present (if setQ (present L) zzS = 0 then L ++ [setL (zzS, k9) (present L)] else L)).length := by
  by_cases hf : ¬ hasL zzS (present L) ∧ 64 ≤ (present L).length
  · have h : setQ (present L) zzS = 131 := by unfold setQ; rw [if_pos name_zz, if_pos hf]
    rw [h]
    exact ⟨.inr rfl, by rw [if_neg (by decide)]; omega⟩
  · have h : setQ (present L) zzS = 0 := by unfold setQ; rw [if_pos name_zz, if_neg hf]
    rw [h]
    exact ⟨.inl rfl, by rw [if_pos rfl, present_snoc]; exact setL_pos _ _⟩
theorem One.row {w0 W : World} {g M : Nat} {L : Lists} (h : One w0 W g L) {cs cs' : Array Value} (hM : W.heap[M]? = some (.cells cs 61 (0, 0))) (hB : w0.heap.size ≤ M) : One w0 (W.setRow M cs') g L := by
  obtain ⟨lo, A, t⟩ := h
  refine ⟨setRow_bel lo hB cs', A, t.gro (Gro.row W M cs') fun j hj => ?_⟩
  have hj : j = M := hj
  subst hj
  have ht : ∀ {ty : TypeId} {cs2 : Array Value} {fr : Nat × Nat}, W.heap[j]? = some (.cells cs2 ty fr) → ty = 61 := fun h2 => by
    rw [hM] at h2
    injection h2 with h2
    injection h2 with _ h2 _
    exact h2.symm
  refine ⟨fun e => ?_, fun e => ?_, fun cs2 fr hc => ?_⟩
  · obtain ⟨cs2, ty, fr, h1, h2⟩ := t.tch j (.inl e)
    have := ht h1
    subst this
    rcases h2 with h2 | h2 <;> exact absurd h2 (by decide)
  · obtain ⟨cs2, ty, fr, h1, h2⟩ := t.tch j (.inr e)
    have := ht h1
    subst this
    rcases h2 with h2 | h2 <;> exact absurd h2 (by decide)
  · exact absurd (ht hc) (by decide)
set_option maxRecDepth 100000 in
set_option maxHeartbeats 16000000 in
theorem steps_any (w : World) (b : Bool) (l : List RootT) (ss : List StepT) (A1 : Option Addr) (n1 c1 : Nat) (A2 : Option Addr) (n2 c2 : Nat) (hl : l.length = n1) (hs : ss.length = n2) (hR : RowR w w.heap.size A1 l) (hS : RowS w w.heap.size A2 ss) (ht : n1 ≤ 4096 → totS l ≤ 4611686018427387904) :
    Calls Try.prog 8 #[.agg (encX b A1 n1 c1 A2 n2 c2)] w fun e w' => e = .returned (.bool true) ∧ Below w.heap.size w w' := by
  obtain ⟨w0, hw0⟩ : ∃ w0, w.alloc (.cells (encX b A1 n1 c1 A2 n2 c2) 27) = w0 := ⟨_, rfl⟩
  have hb0 : Hid (Below w.heap.size w w0) := Lib.hid (by rw [← hw0]; exact (Below.refl _ _).alloc (Nat.le_refl _) _)
  have hx0 : w0.heap[w.heap.size]? = some (.cells (encX b A1 n1 c1 A2 n2 c2) 27 (0, 0)) := by rw [← hw0]; exact heap_alloc_new w _
  have hlt : Hid (w.heap.size < w0.heap.size) := Lib.hid (Array.getElem?_eq_some_iff.1 hx0).1
  have hi3 : Hid ((Try.prog.info? 27).map (·.size) = some 3) := Lib.hid (by kernel_rfl)
  have hi37 : Hid ((Try.prog.info? 41).map (·.size) = some 37) := Lib.hid (by kernel_rfl)
  have l37 : Hid (∀ s : StepT, (encS s).length = 37) := Lib.hid encS_length
  have hrow : Hid (∀ W, Below w0.heap.size w0 W → W.rangeAt w.heap.size 0 [Value.bool b, .slice A1 n1 c1, .slice A2 n2 c2]) := Lib.hid fun W hW => range_below hlt.out (range_blk hx0) hW
  have hc2 : Hid (∀ W, Below w0.heap.size w0 W → W.cell? ⟨w.heap.size, 2, none⟩ = some (.slice A2 n2 c2)) := Lib.hid fun W hW => (hW.cell (p := ⟨w.heap.size, 2, none⟩) hlt.out).trans (scr_c2 hx0)
  have hsm := Lib.hid fun W => small_any W b A1 n1 c1 A2 n2 c2
  clear hx0
  by_cases hq : n2 ≤ 4096 ∧ n1 ≤ 4096
  · rw [decide_eq_true hq] at hsm
    have hR0 : Hid (∀ W, Below w0.heap.size w0 W → RowR W W.heap.size A1 l) := Lib.hid fun W hW => RowR.up (B := w.heap.size) (Rd.below hR (hb0.out.trans (hW.mono hb0.out.size))) (by have := hb0.out.size; have := hW.size; omega)
    have hmd : Hid (∀ W, Below w0.heap.size w0 W → Calls Try.prog 13 #[.agg (encX b A1 n1 c1 A2 n2 c2)] W (MadeP W b l)) := Lib.hid fun W hW => made_any W b l A1 n1 c1 A2 n2 c2 hl hq.2 (hR0.out W hW) (ht hq.2)
    have hn2 := hq.1
    have hs' := Lib.hid hs
    have hS' : Hid (RowS w0 w.heap.size A2 ss) := Lib.hid (Rd.below hS hb0.out)
    clear hq hl hs hR hS ht
    cases hQ : madeQ b l with
    | none =>
      have hmn : Hid (∀ W, Below w0.heap.size w0 W → Calls Try.prog 13 #[.agg (encX b A1 n1 c1 A2 n2 c2)] W fun e w' => e = .returned (.tuple #[.pointer none, .pointer none, .bool true]) ∧ Below W.heap.size W w') := Lib.hid fun W hW => (hmd.out W hW).mono (by
        rintro e w' ⟨h1 | h1, h2⟩
        · obtain ⟨l0, h3, _⟩ := h1
          rw [hQ] at h3
          cases h3
        · exact ⟨h1.2, h2⟩)
      clear hQ hmd
      go_enter Try.func8, Try.ntmps8
      go_wp2_with (first
        | (refine wpList_load_mid rfl 27 _ rfl w.heap.size 0 rfl [Value.bool b, .slice A1 n1 c1, .slice A2 n2 c2] _ (hrow.out _ (Below.refl _ _)) Try.underlying27 rfl hi3.out ?_)
        | (go_at_call 12; refine (hsm.out _).mono ?_; rintro e w1 ⟨rfl, hb⟩; have hd1 : Hid (Below w0.heap.size w0 w1) := Lib.hid hb; clear hb)
        | (refine wpList_load_mid rfl 27 _ rfl w.heap.size 0 rfl [Value.bool b, .slice A1 n1 c1, .slice A2 n2 c2] _ (hrow.out _ hd1.out) Try.underlying27 rfl hi3.out ?_)
        | (go_at_call 13; refine (hmn.out _ hd1.out).mono ?_; rintro e w2 ⟨rfl, hb⟩; have hd2 : Hid (Below w0.heap.size w0 w2) := Lib.hid (hd1.out.trans (hb.mono hd1.out.size)); clear hb))
      go_ret
      exact ⟨rfl, hb0.out.trans (hd2.out.mono hb0.out.size)⟩
    | some l0 =>
      have hmn : Hid (∀ W, Below w0.heap.size w0 W → Calls Try.prog 13 #[.agg (encX b A1 n1 c1 A2 n2 c2)] W fun e w' => ∃ g g', e = .returned (.tuple #[.pointer (some ⟨g, 0, none⟩), .pointer (some ⟨g', 0, none⟩), .bool true]) ∧ One w0 w' g [l0]) := Lib.hid fun W hW => (hmd.out W hW).mono (by
        rintro e w' ⟨h1 | h1, h2⟩
        · obtain ⟨l1, h3, g, g', A, A', h4, h5, h6⟩ := h1
          rw [hQ] at h3
          cases h3
          have hlo : Below w0.heap.size w0 w' := hW.trans (h2.mono hW.size)
          exact ⟨g, g', h4, ⟨hlo, A, h5.base hW.size⟩⟩
        · rw [hQ] at h1
          cases h1.1)
      clear hQ hmd
      go_enter Try.func8, Try.ntmps8
      go_wp2_with (first
        | (refine wpList_load_mid rfl 27 _ rfl w.heap.size 0 rfl [Value.bool b, .slice A1 n1 c1, .slice A2 n2 c2] _ (hrow.out _ (Below.refl _ _)) Try.underlying27 rfl hi3.out ?_)
        | (go_at_call 12; refine (hsm.out _).mono ?_; rintro e w1 ⟨rfl, hb⟩; have hd1 : Hid (Below w0.heap.size w0 w1) := Lib.hid hb; clear hb)
        | (refine wpList_load_mid rfl 27 _ rfl w.heap.size 0 rfl [Value.bool b, .slice A1 n1 c1, .slice A2 n2 c2] _ (hrow.out _ hd1.out) Try.underlying27 rfl hi3.out ?_)
        | (go_at_call 13; refine (hmn.out _ hd1.out).mono ?_; rintro e w2 ⟨g, g', rfl, hb⟩; have hT2 := Lib.hid hb; clear hb))
      go_loopw [6] (fun i wr => ∃ (k : Nat) (L : Lists), k ≤ n2 ∧ i = .int .i64 k ∧ Hid (L.length ≤ k + 1) ∧ Hid (One w0 wr g L)) (fun i _ => n2 - (intOf i).toNat)
      case atStart => exact ⟨0, [l0], by omega, rfl, Lib.hid (by simp), hT2⟩
      case round =>
        obtain ⟨k, L, hk, rfl, hLk, hT⟩ := hrel
        have cc2 := hc2.out _ hT.out.lo
        by_cases hlt2 : k < n2
        · obtain ⟨x, hx⟩ : ∃ x, ss[k]? = some x := ⟨_, List.getElem?_eq_getElem (by have := hs'.out; omega)⟩
          obtain ⟨b2, off, rfl, hbb, hrg⟩ := RowS.range hS'.out hx
          have hrg' : Hid (∀ W, Below w0.heap.size w0 W → W.rangeAt b2 (off + k * 37) (encS x)) := Lib.hid fun W hW => range_below (Nat.lt_trans hbb hlt.out) hrg hW
          obtain ⟨y, L2, hst⟩ : ∃ y L2, Hid (∀ _ : Unit, stepQ L x = (y, L2)) := ⟨_, _, Lib.hid fun _ => rfl⟩
          have hL2 : Hid (L2.length ≤ k + 2) := Lib.hid (by have := (stepQ_len L x).2; rw [hst.out ()] at this; have := hLk.out; simp only at *; omega)
          have hAs : Hid (Calls Try.prog 14 #[.pointer (some ⟨g, 0, none⟩), .agg (encS x).toArray] wr fun e w' => e = .returned (.agg (encA y).toArray) ∧ One w0 w' g L2) := Lib.hid (by
            refine (asked_one hT.out (by have := hLk.out; omega) x).mono ?_
            rw [hst.out ()]
            exact fun e w' h => ⟨h.1, h.2.1⟩)
          have glt : (k : Int) < (n2 : Int) := by omega
          have g0 : (0 : Int) ≤ (k : Int) := by omega
          clear hrg hx hbb
          go_wp2_with (first
            | (refine wpList_load_mid rfl 41 _ rfl b2 (off + k * 37) rfl (encS x) _ (hrg'.out _ hT.out.lo) Try.underlying41 rfl (by rw [l37.out]; exact hi37.out) ?_)
            | (go_at_call 14; refine hAs.out.mono ?_; rintro e w3 ⟨rfl, h3⟩; have hT3 := Lib.hid h3; clear h3))
          go_roundw
          case rel => exact ⟨k + 1, L2, by omega, by go_num, hL2, hT3⟩
          case measure => simp [intOf]; omega
        · have glt : ¬ ((k : Int) < (n2 : Int)) := by omega
          have hLn := Lib.hid (show L.length ≤ 4097 by have := hLk.out; omega)
          have hset := set_zz L
          have hTs := set_one hT.out (by have := hLn.out; omega) zzS k9
          obtain ⟨E, hE⟩ : ∃ E, setQ (present L) zzS = E := ⟨_, rfl⟩
          rw [hE] at hset hTs
          obtain ⟨L3, hL3⟩ : ∃ L3, (if E = 0 then L ++ [setL (zzS, k9) (present L)] else L) = L3 := ⟨_, rfl⟩
          rw [hL3] at hset hTs
          have hSet : Hid (Calls Try.prog 20 #[.pointer (some ⟨g, 0, none⟩), .string zzS, .agg (encKy k9).toArray] wr fun e w' => e = .returned (.int .i64 (E : Nat)) ∧ One w0 w' g L3) := Lib.hid (hTs.mono fun e w' h => ⟨h.1, h.2.1⟩)
          obtain ⟨p, hp⟩ : ∃ p, present L3 = p := ⟨_, rfl⟩
          obtain ⟨n, hn⟩ : ∃ n, p.length = n := ⟨_, rfl⟩
          have hpn := Lib.hid hn
          have hE2 := hset.1
          have hn1 : 1 ≤ n := by rw [← hn, ← hp]; exact hset.2
          have hokp : ∀ W, One w0 W g L3 → okL p ∧ n ≤ 64 := fun W hW => by rw [← hn, ← hp]; exact okLs_present hW.ok
          have hokp' := Lib.hid hokp
          have hAll : Hid (∀ W, One w0 W g L3 → Calls Try.prog 17 #[.pointer (some ⟨g, 0, none⟩)] W fun e w' => ∃ A' c', e = .returned (.slice A' n c') ∧ Own w' W.heap.size 61 33 A' n c' (rowsR p) ∧ Below W.heap.size W w') := Lib.hid fun W hW => by
            have := all_one hW
            rwa [hp, hn] at this
          have hLen : Hid (∀ W, One w0 W g L3 → Calls Try.prog 24 #[.pointer (some ⟨g, 0, none⟩)] W fun e w' => e = .returned (.int .i64 (n : Nat)) ∧ Below W.heap.size W w') := Lib.hid fun W hW => by
            have := len_one hW
            rwa [hp, hn] at this
          have hNx : Hid (∀ (W : World) (k : Nat) (x : RootT), p[k]? = some x → One w0 W g L3 → Calls Try.prog 25 #[.pointer (some ⟨g, 0, none⟩), .string x.1, .bool false] W fun e w' => e = .returned (.tuple #[.agg (encR (p[k + 1]?.getD rZ)).toArray, .bool (p[k + 1]?).isSome]) ∧ Below W.heap.size W w') := Lib.hid fun W k x hx hW => by
            have := next_one hW x.1 false
            rwa [hp, next_step p k x (hokp W hW).1.1 hx] at this
          have hGet : Hid (∀ (W : World) (k : Nat) (x : RootT), p[k]? = some x → One w0 W g L3 → Calls Try.prog 26 #[.pointer (some ⟨g, 0, none⟩), .string x.1] W fun e w' => e = .returned (.tuple #[.agg (encKy x.2).toArray, .int .i64 0]) ∧ Below W.heap.size W w') := Lib.hid fun W k x hx hW => by
            have := get_one hW x.1
            rwa [hp, getQ_at (hokp W hW).1 hx] at this
          obtain ⟨x0, hx0⟩ : ∃ x0, p[0]? = some x0 := ⟨_, List.getElem?_eq_getElem (by omega)⟩
          have hNx0 : Hid (∀ W, One w0 W g L3 → Calls Try.prog 25 #[.pointer (some ⟨g, 0, none⟩), .string ⟨#[]⟩, .bool true] W fun e w' => e = .returned (.tuple #[.agg (encR x0).toArray, .bool true]) ∧ Below W.heap.size W w') := Lib.hid fun W hW => by
            have := next_one hW ⟨#[]⟩ true
            rwa [hp, next_head, hx0] at this
          have hx0' := Lib.hid hx0
          have l33 : Hid (∀ r : RootT, (encR r).length = 33) := Lib.hid encR_length
          have a33 : Hid (∀ r : RootT, (encR r).toArray.size = 33) := Lib.hid fun r => by simp [encR_length]
          have hi33 : Hid ((Try.prog.info? 61).map (·.size) = some 33) := Lib.hid (by kernel_rfl)
          have oneR := Lib.hid encR_all
          have l32 : Hid (∀ k : RKey, (encKy k).length = 32) := Lib.hid encKy_length
          have a32 : Hid (∀ k : RKey, (encKy k).toArray.size = 32) := Lib.hid fun k => by simp [encKy_length]
          have hi32 : Hid ((Try.prog.info? 35).map (·.size) = some 32) := Lib.hid (by kernel_rfl)
          have oneK := Lib.hid encKy_all
          have hzr := zeroRt
          have hzk := zeroKy
          have hbz := buildRz
          clear hset hTs hE hL3 hp hn hokp hx0
          rcases hE2 with rfl | rfl
          · go_wp2_with (first
              | (go_at_call 20
                 refine hSet.out.mono ?_
                 rintro e w3 ⟨rfl, h3⟩
                 have hT3 := Lib.hid h3
                 have hpo := hokp'.out _ h3
                 have hpok := Lib.hid hpo.1
                 have hn64 := hpo.2
                 have gl1 : ¬ ((n : Int) < 1) := by omega
                 have gl2 : ¬ ((64 : Int) < (n : Int)) := by omega
                 clear h3 hpo)
              | (go_at_call 17
                 refine (hAll.out _ hT3.out).mono ?_
                 rintro e w4 ⟨A3, c3, rfl, ho, hb⟩
                 have hT4 := Lib.hid (hT3.out.below hb)
                 have ho4 := Lib.hid (ho.base hT3.out.lo.size)
                 clear ho hb)
              | (go_at_call 24
                 refine (hLen.out _ hT4.out).mono ?_
                 rintro e w5 ⟨rfl, hb⟩
                 have hT5 := Lib.hid (hT4.out.below hb)
                 have ho5 := Lib.hid (ho4.out.below hb fun j hj => (ho4.out.lt j hj).2)
                 clear hb)
              | (go_at_call 25
                 refine (hNx0.out _ hT5.out).mono ?_
                 rintro e w6 ⟨rfl, hb⟩
                 have hT6 := Lib.hid (hT5.out.below hb)
                 have ho6 := Lib.hid (ho5.out.below hb fun j hj => (ho5.out.lt j hj).2)
                 clear hb)
              | (refine wpList_store_row rfl 61 _ _ rfl w6.heap.size (encR x0).toArray rfl rfl 61 _ (heap_alloc_new w6 _) (by rw [a33.out]; exact hi33.out) (by rw [a33.out, a33.out]) (oneR.out _) ?_
                 obtain ⟨wq, hwq⟩ : ∃ wq, (w6.alloc (.cells (encR rZ).toArray 61)).setRow w6.heap.size (encR x0).toArray = wq := ⟨_, rfl⟩
                 obtain ⟨M, hM⟩ : ∃ M, w6.heap.size = M := ⟨_, rfl⟩
                 have hb6q : Below w6.heap.size w6 wq := by rw [← hwq]; exact setRow_bel ((Below.refl _ _).alloc (Nat.le_refl _) _) (Nat.le_refl _) _
                 have hTq := Lib.hid (hT6.out.below hb6q)
                 have hoq := Lib.hid (ho6.out.below hb6q fun j hj => (ho6.out.lt j hj).2)
                 have hMq : Hid (wq.heap[M]? = some (.cells (encR x0).toArray 61 (0, 0))) := Lib.hid (by rw [← hwq, ← hM]; exact setRow_heap _ _ _ _ _ _ (heap_alloc_new w6 _))
                 have hMB : Hid (w0.heap.size ≤ M) := Lib.hid (by rw [← hM]; exact hT6.out.lo.size)
                 have hMn : Hid (∀ j, blockOf A3 = some j → j < M) := Lib.hid fun j hj => by rw [← hM]; exact (ho6.out.lt j hj).2
                 rw [hwq, hM]
                 clear hb6q hwq hM))
            go_loopw [5, 10] (fun r i wr => ∃ k : Nat, k ≤ n ∧ i = .int .i64 k ∧ r = .bool (decide (k < n)) ∧ Hid (One w0 wr g L3) ∧ Hid (Own wr w0.heap.size 61 33 A3 n c3 (rowsR p)) ∧ Hid (wr.heap[M]? = some (.cells (encR (p[k]?.getD rZ)).toArray 61 (0, 0)))) (fun _ i _ => n - (intOf i).toNat)
            case atStart =>
              refine ⟨0, by omega, rfl, by rw [decide_eq_true (by omega : 0 < n)], hTq, hoq, Lib.hid ?_⟩
              rw [hx0'.out]
              exact hMq.out
            case round =>
              obtain ⟨k, hk, rfl, rfl, hTr, hor, hMr⟩ := hrel
              by_cases hkn : k < n
              · obtain ⟨x, hx⟩ : ∃ x, p[k]? = some x := ⟨_, List.getElem?_eq_getElem (by have := hpn.out; omega)⟩
                have hpx := Lib.hid hx
                have hNm := Lib.hid (hpok.out.2 x (List.mem_of_getElem? hx))
                have hN := Lib.hid fun W => refNamed_yes hNm.out W
                have hx33 : p[k]?.getD rZ = x := by rw [hx]; rfl
                rw [hx33] at hMr
                obtain ⟨b3, off3, rfl, hb3, hrg3⟩ := RowR.range (RowR.of_own (by rw [hpn.out]; exact hor.out)) hx
                have hrg3' := Lib.hid hrg3
                have d0 : wr.cell? ⟨b3, off3 + k * 33, none⟩ = some (.string x.1) := by simpa using hrg3 0 _ (show (encR x)[0]? = some (.string x.1) from rfl)
                have hG := Lib.hid (hGet.out wr k x hx hTr.out)
                have glt : (k : Int) < (n : Int) := by omega
                have g0 : (0 : Int) ≤ (k : Int) := by omega
                rw [decide_eq_true hkn]
                clear hx hx33 hrg3
                go_wp2_with (first
                  | (go_at_call 26
                     refine hG.out.mono ?_
                     rintro e w7 ⟨rfl, hb⟩
                     have hb7 := Lib.hid hb
                     clear hb)
                  | (refine wpList_store_row rfl 35 _ _ rfl w7.heap.size (encKy x.2).toArray rfl rfl 35 _ (heap_alloc_new w7 _) (by rw [a32.out]; exact hi32.out) (by rw [a32.out, a32.out]) (oneK.out _) ?_))
                obtain ⟨w8, hw8⟩ : ∃ w8, (w7.alloc (.cells (encKy kZ).toArray 35)).setRow w7.heap.size (encKy x.2).toArray = w8 := ⟨_, rfl⟩
                obtain ⟨Mk, hMk⟩ : ∃ Mk, w7.heap.size = Mk := ⟨_, rfl⟩
                have hb78 : Below w7.heap.size w7 w8 := by rw [← hw8]; exact setRow_bel ((Below.refl _ _).alloc (Nat.le_refl _) _) (Nat.le_refl _) _
                have hK8 : w8.heap[Mk]? = some (.cells (encKy x.2).toArray 35 (0, 0)) := by rw [← hw8, ← hMk]; exact setRow_heap _ _ _ _ _ _ (heap_alloc_new w7 _)
                have hbr8 : Below wr.heap.size wr w8 := hb7.out.trans (hb78.mono hb7.out.size)
                have hT8 := Lib.hid (hTr.out.below hbr8)
                have hM8 : Hid (w8.heap[M]? = some (.cells (encR x).toArray 61 (0, 0))) := Lib.hid ((hbr8.block M (Array.getElem?_eq_some_iff.1 hMr.out).1).trans hMr.out)
                have hMl : Hid (M < w8.heap.size) := Lib.hid (Array.getElem?_eq_some_iff.1 hM8.out).1
                have ho8 := Lib.hid (hor.out.below hbr8 fun j hj => (hor.out.lt j hj).2)
                have hcM : Hid (∀ W, Below w8.heap.size w8 W → W.cell? ⟨M, 0, none⟩ = some (.string x.1)) := Lib.hid fun W hW => (hW.cell (p := ⟨M, 0, none⟩) hMl.out).trans (cell_blk hM8.out rfl)
                have hrM : Hid (∀ W, Below w8.heap.size w8 W → W.rangeAt M 0 (encR x)) := Lib.hid fun W hW => range_below hMl.out (range_blk hM8.out) hW
                have hrMk : Hid (∀ W, Below w8.heap.size w8 W → W.rangeAt M 1 (encKy x.2)) := Lib.hid fun W hW => by
                  have := key_range (range_below hMl.out (range_blk hM8.out) hW)
                  rwa [Nat.zero_add] at this
                have hrK : Hid (∀ W, Below w8.heap.size w8 W → W.rangeAt Mk 0 (encKy x.2)) := Lib.hid fun W hW => range_below (Array.getElem?_eq_some_iff.1 hK8).1 (range_blk hK8) hW
                have hb38 : b3 < w8.heap.size := Nat.lt_of_lt_of_le hb3 hbr8.size
                have hrX : Hid (∀ W, Below w8.heap.size w8 W → W.rangeAt b3 (off3 + k * 33) (encR x)) := Lib.hid fun W hW => range_below hb38 (range_below hb3 hrg3'.out hbr8) hW
                rw [hw8, hMk]
                have hneR := neR
                have hguR := guR
                have hneK := neKy
                have hguK := guKy
                clear hb78 hK8 hbr8 hb38 hw8 hMk d0
                by_cases hk0 : k = 0
                · have hk0h := Lib.hid hk0
                  clear hk0
                  have hd : Hid (Below w8.heap.size w8 (World.drew w8)) := Lib.hid (below_drewN (Below.refl _ _) 1)
                  refine wp_region_held (S := fun W => Below w8.heap.size w8 W) (by kernel_rfl) ?_
                  change wpAnyH _ _ _ _ _ _ _ _ (World.drew _)
                  refine takeD (i := 0) (d := 90) (v := .bool true) rfl rfl (by kernel_rfl) (by kernel_rfl) (by kernel_rfl) (fun _ _ _ h => h) (Or.inl ⟨by rfl, by intro W hW; clear hW; go_simp⟩) hd.out ?_
                  simp only [List.setIfInBounds_toArray, List.set_cons_zero, List.set_cons_succ]
                  refine takeD (i := 1) (d := 91) (v := .bool false) rfl rfl (by kernel_rfl) (by kernel_rfl) (by kernel_rfl) (fun _ _ _ h => h) (Or.inl ⟨by rfl, by intro W hW; clear hW; go_simp⟩) hd.out ?_
                  simp only [List.setIfInBounds_toArray, List.set_cons_zero, List.set_cons_succ]
                  refine takeD (i := 2) (d := 92) (v := .bool false) rfl rfl (by kernel_rfl) (by kernel_rfl) (by kernel_rfl) (fun _ _ _ h => h) (Or.inl ⟨by rfl, by intro W hW; clear hW; go_simp⟩) hd.out ?_
                  simp only [List.setIfInBounds_toArray, List.set_cons_zero, List.set_cons_succ]
                  refine takeD (i := 3) (d := 93) rfl rfl (by kernel_rfl) (by kernel_rfl) (by kernel_rfl) (fun _ _ _ h => h) (yieldsIf_load_mid (by rfl) 61 _ rfl M 0 rfl (encR x) _ hrM.out Try.underlying61 rfl (by rw [l33.out]; exact hi33.out)) hd.out ?_
                  simp only [List.setIfInBounds_toArray, List.set_cons_zero, List.set_cons_succ]
                  refine takeD (i := 4) (d := 94) (v := .slice (some ⟨b3, off3, none⟩) n c3) rfl rfl (by kernel_rfl) (by kernel_rfl) (by kernel_rfl) (fun _ _ _ h => h) (Or.inl ⟨by rfl, by intro W hW; clear hW; go_simp⟩) hd.out ?_
                  simp only [List.setIfInBounds_toArray, List.set_cons_zero, List.set_cons_succ]
                  refine takeD (i := 5) (d := 95) (v := .int .i64 (k : Int)) rfl rfl (by kernel_rfl) (by kernel_rfl) (by kernel_rfl) (fun _ _ _ h => h) (Or.inl ⟨by rfl, by intro W hW; clear hW; go_simp⟩) hd.out ?_
                  simp only [List.setIfInBounds_toArray, List.set_cons_zero, List.set_cons_succ]
                  refine takeD (i := 6) (d := 96) (v := .pointer (some ⟨b3, off3 + k * 33, none⟩)) rfl rfl (by kernel_rfl) (by kernel_rfl) (by kernel_rfl) (fun _ _ _ h => h) (Or.inl ⟨by rfl, by intro W hW; clear hW; go_simp⟩) hd.out ?_
                  simp only [List.setIfInBounds_toArray, List.set_cons_zero, List.set_cons_succ]
                  refine takeD (i := 7) (d := 97) rfl rfl (by kernel_rfl) (by kernel_rfl) (by kernel_rfl) (fun _ _ _ h => h) (yieldsIf_load_mid (by rfl) 61 _ rfl b3 (off3 + k * 33) rfl (encR x) _ hrX.out Try.underlying61 rfl (by rw [l33.out]; exact hi33.out)) hd.out ?_
                  simp only [List.setIfInBounds_toArray, List.set_cons_zero, List.set_cons_succ]
                  refine takeD (i := 8) (d := 98) (v := .bool false) rfl rfl (by kernel_rfl) (by kernel_rfl) (by kernel_rfl) (fun _ _ _ h => h) (Or.inl ⟨by rfl, by intro W hW; clear hW; go_simp⟩) hd.out ?_
                  simp only [List.setIfInBounds_toArray, List.set_cons_zero, List.set_cons_succ]
                  refine takeD (i := 9) (d := 99) (v := .bool false) rfl rfl (by kernel_rfl) (by kernel_rfl) (by kernel_rfl) (fun _ _ _ h => h) (Or.inl ⟨by rfl, by intro W hW; clear hW; go_simp⟩) hd.out ?_
                  simp only [List.setIfInBounds_toArray, List.set_cons_zero, List.set_cons_succ]
                  refine takeD (i := 10) (d := 100) (v := .bool false) rfl rfl (by kernel_rfl) (by kernel_rfl) (by kernel_rfl) (fun _ _ _ h => h) (Or.inl ⟨by rfl, by intro W hW; clear hW; go_simp⟩) hd.out ?_
                  simp only [List.setIfInBounds_toArray, List.set_cons_zero, List.set_cons_succ]
                  refine takeD (i := 11) (d := 101) (v := .int .i64 0) rfl rfl (by kernel_rfl) (by kernel_rfl) (by kernel_rfl) (fun _ _ _ h => h) (Or.inl ⟨by rfl, by intro W hW; clear hW; go_simp⟩) hd.out ?_
                  simp only [List.setIfInBounds_toArray, List.set_cons_zero, List.set_cons_succ]
                  refine takeD (i := 12) (d := 102) (v := .bool false) rfl rfl (by kernel_rfl) (by kernel_rfl) (by kernel_rfl) (fun _ _ _ h => h) (Or.inl ⟨by rfl, by intro W hW; clear hW; go_simp⟩) hd.out ?_
                  simp only [List.setIfInBounds_toArray, List.set_cons_zero, List.set_cons_succ]
                  refine takeD (i := 13) (d := 103) (v := .bool false) rfl rfl (by kernel_rfl) (by kernel_rfl) (by kernel_rfl) (fun _ _ _ h => h) (Or.inl ⟨by rfl, by intro W hW; clear hW; go_simp⟩) hd.out ?_
                  simp only [List.setIfInBounds_toArray, List.set_cons_zero, List.set_cons_succ]
                  refine takeD (i := 14) (d := 104) (v := .bool false) rfl rfl (by kernel_rfl) (by kernel_rfl) (by kernel_rfl) (fun _ _ _ h => h) (Or.inl ⟨by rfl, by intro W hW; clear hW; go_simp⟩) hd.out ?_
                  simp only [List.setIfInBounds_toArray, List.set_cons_zero, List.set_cons_succ]
                  refine takeD (i := 15) (d := 105) rfl rfl (by kernel_rfl) (by kernel_rfl) (by kernel_rfl) (fun _ _ _ h => h) (yieldsIf_load_mid (by rfl) 35 _ rfl Mk 0 rfl (encKy x.2) _ hrK.out Try.underlying35 rfl (by rw [l32.out]; exact hi32.out)) hd.out ?_
                  simp only [List.setIfInBounds_toArray, List.set_cons_zero, List.set_cons_succ]
                  refine takeD (i := 16) (d := 106) (v := .pointer (some ⟨M, 1, none⟩)) rfl rfl (by kernel_rfl) (by kernel_rfl) (by kernel_rfl) (fun _ _ _ h => h) (Or.inl ⟨by rfl, by intro W hW; clear hW; go_simp⟩) hd.out ?_
                  simp only [List.setIfInBounds_toArray, List.set_cons_zero, List.set_cons_succ]
                  refine takeD (i := 17) (d := 107) rfl rfl (by kernel_rfl) (by kernel_rfl) (by kernel_rfl) (fun _ _ _ h => h) (yieldsIf_load_mid (by rfl) 35 _ rfl M 1 rfl (encKy x.2) _ hrMk.out Try.underlying35 rfl (by rw [l32.out]; exact hi32.out)) hd.out ?_
                  simp only [List.setIfInBounds_toArray, List.set_cons_zero, List.set_cons_succ]
                  refine takeD (i := 18) (d := 108) (v := .bool false) rfl rfl (by kernel_rfl) (by kernel_rfl) (by kernel_rfl) (fun _ _ _ h => h) (Or.inl ⟨by rfl, by intro W hW; clear hW; go_simp⟩) hd.out ?_
                  simp only [List.setIfInBounds_toArray, List.set_cons_zero, List.set_cons_succ]
                  refine takeD (i := 19) (d := 109) (v := .bool false) rfl rfl (by kernel_rfl) (by kernel_rfl) (by kernel_rfl) (fun _ _ _ h => h) (Or.inl ⟨by rfl, by intro W hW; clear hW; go_simp⟩) hd.out ?_
                  simp only [List.setIfInBounds_toArray, List.set_cons_zero, List.set_cons_succ]
                  refine takeD (i := 20) (d := 110) (v := .bool false) rfl rfl (by kernel_rfl) (by kernel_rfl) (by kernel_rfl) (fun _ _ _ h => h) (Or.inl ⟨by rfl, by intro W hW; clear hW; go_simp⟩) hd.out ?_
                  simp only [List.setIfInBounds_toArray, List.set_cons_zero, List.set_cons_succ]
                  refine takeD (i := 21) (d := 111) (v := .int .i64 (k : Int)) rfl rfl (by kernel_rfl) (by kernel_rfl) (by kernel_rfl) (fun _ _ _ h => h) (Or.inl ⟨by rfl, by intro W hW; clear hW; go_simp⟩) hd.out ?_
                  simp only [List.setIfInBounds_toArray, List.set_cons_zero, List.set_cons_succ]
                  refine takeD (i := 22) (d := 112) (v := .bool false) rfl rfl (by kernel_rfl) (by kernel_rfl) (by kernel_rfl) (fun _ _ _ h => h) (Or.inl ⟨by rfl, by intro W hW; have kk := hk0h.out; clear hW; go_simp⟩) hd.out ?_
                  simp only [List.setIfInBounds_toArray, List.set_cons_zero, List.set_cons_succ]
                  refine takeD (i := 23) (d := 113) (v := .bool false) rfl rfl (by kernel_rfl) (by kernel_rfl) (by kernel_rfl) (fun _ _ _ h => h) (Or.inl ⟨by rfl, by intro W hW; clear hW; go_simp⟩) hd.out ?_
                  simp only [List.setIfInBounds_toArray, List.set_cons_zero, List.set_cons_succ]
                  refine takeD (i := 24) (d := 114) (v := undef) rfl rfl (by kernel_rfl) (by kernel_rfl) (by kernel_rfl) (fun _ _ _ h => h) (Or.inr ⟨by rfl, rfl⟩) hd.out ?_
                  simp only [List.setIfInBounds_toArray, List.set_cons_zero, List.set_cons_succ]
                  refine takeD (i := 25) (d := 115) (v := undef) rfl rfl (by kernel_rfl) (by kernel_rfl) (by kernel_rfl) (fun _ _ _ h => h) (Or.inr ⟨by rfl, rfl⟩) hd.out ?_
                  simp only [List.setIfInBounds_toArray, List.set_cons_zero, List.set_cons_succ]
                  refine takeD (i := 26) (d := 116) (v := undef) rfl rfl (by kernel_rfl) (by kernel_rfl) (by kernel_rfl) (fun _ _ _ h => h) (Or.inr ⟨by rfl, rfl⟩) hd.out ?_
                  simp only [List.setIfInBounds_toArray, List.set_cons_zero, List.set_cons_succ]
                  refine takeD (i := 27) (d := 117) (v := undef) rfl rfl (by kernel_rfl) (by kernel_rfl) (by kernel_rfl) (fun _ _ _ h => h) (Or.inr ⟨by rfl, rfl⟩) hd.out ?_
                  simp only [List.setIfInBounds_toArray, List.set_cons_zero, List.set_cons_succ]
                  refine takeD (i := 28) (d := 118) (v := undef) rfl rfl (by kernel_rfl) (by kernel_rfl) (by kernel_rfl) (fun _ _ _ h => h) (Or.inr ⟨by rfl, rfl⟩) hd.out ?_
                  simp only [List.setIfInBounds_toArray, List.set_cons_zero, List.set_cons_succ]
                  refine takeD (i := 29) (d := 119) (v := undef) rfl rfl (by kernel_rfl) (by kernel_rfl) (by kernel_rfl) (fun _ _ _ h => h) (Or.inr ⟨by rfl, rfl⟩) hd.out ?_
                  simp only [List.setIfInBounds_toArray, List.set_cons_zero, List.set_cons_succ]
                  refine takeD (i := 30) (d := 120) (v := undef) rfl rfl (by kernel_rfl) (by kernel_rfl) (by kernel_rfl) (fun _ _ _ h => h) (Or.inr ⟨by rfl, rfl⟩) hd.out ?_
                  simp only [List.setIfInBounds_toArray, List.set_cons_zero, List.set_cons_succ]
                  refine takeD (i := 31) (d := 121) (v := undef) rfl rfl (by kernel_rfl) (by kernel_rfl) (by kernel_rfl) (fun _ _ _ h => h) (Or.inr ⟨by rfl, rfl⟩) hd.out ?_
                  simp only [List.setIfInBounds_toArray, List.set_cons_zero, List.set_cons_succ]
                  refine takeD (i := 32) (d := 122) (v := undef) rfl rfl (by kernel_rfl) (by kernel_rfl) (by kernel_rfl) (fun _ _ _ h => h) (Or.inr ⟨by rfl, rfl⟩) hd.out ?_
                  simp only [List.setIfInBounds_toArray, List.set_cons_zero, List.set_cons_succ]
                  refine takeD (i := 33) (d := 123) (v := .bool false) rfl rfl (by kernel_rfl) (by kernel_rfl) (by kernel_rfl) (fun _ _ _ h => h) (Or.inl ⟨by rfl, by intro W hW; clear hW; go_simp⟩) hd.out ?_
                  simp only [List.setIfInBounds_toArray, List.set_cons_zero, List.set_cons_succ]
                  refine takeD (i := 34) (d := 124) (v := .bool false) rfl rfl (by kernel_rfl) (by kernel_rfl) (by kernel_rfl) (fun _ _ _ h => h) (Or.inl ⟨by rfl, by intro W hW; clear hW; go_simp⟩) hd.out ?_
                  simp only [List.setIfInBounds_toArray, List.set_cons_zero, List.set_cons_succ]
                  refine takeD (i := 35) (d := 125) (v := .bool false) rfl rfl (by kernel_rfl) (by kernel_rfl) (by kernel_rfl) (fun _ _ _ h => h) (Or.inl ⟨by rfl, by intro W hW; clear hW; go_simp⟩) hd.out ?_
                  simp only [List.setIfInBounds_toArray, List.set_cons_zero, List.set_cons_succ]
                  refine takeD (i := 36) (d := 126) (v := .pointer (some ⟨M, 0, none⟩)) rfl rfl (by kernel_rfl) (by kernel_rfl) (by kernel_rfl) (fun _ _ _ h => h) (Or.inl ⟨by rfl, by intro W hW; clear hW; go_simp⟩) hd.out ?_
                  simp only [List.setIfInBounds_toArray, List.set_cons_zero, List.set_cons_succ]
                  refine takeD (i := 37) (d := 127) (v := .string x.1) rfl rfl (by kernel_rfl) (by kernel_rfl) (by kernel_rfl) (fun _ _ _ h => h) (Or.inl ⟨by rfl, by intro W hW; have cc := hcM.out W hW; clear hW; go_simp⟩) hd.out ?_
                  simp only [List.setIfInBounds_toArray, List.set_cons_zero, List.set_cons_succ]
                  refine wpAnyH_ready (rs := [38]) (by kernel_rfl) (by simp) ?_
                  refine AllReadyH.cons rfl (fun K hK => ?_) AllReadyH.nil
                  go_simp
                  go_wp2_with (go_at_call 11; refine (hN.out _).mono ?_; rintro e v1 ⟨rfl, rfl⟩; skip)
                  refine hK.out _ _ hd.out (fun _ => ?_)
                  clear hK K
                  refine takeD (i := 39) (d := 129) (v := .bool false) rfl rfl (by kernel_rfl) (by kernel_rfl) (by kernel_rfl) (fun _ _ _ h => h) (Or.inl ⟨by rfl, by intro W hW; clear hW; go_simp⟩) hd.out ?_
                  simp only [List.setIfInBounds_toArray, List.set_cons_zero, List.set_cons_succ]
                  refine takeD (i := 40) (d := 130) (v := .bool false) rfl rfl (by kernel_rfl) (by kernel_rfl) (by kernel_rfl) (fun _ _ _ h => h) (Or.inl ⟨by rfl, by intro W hW; clear hW; go_simp⟩) hd.out ?_
                  simp only [List.setIfInBounds_toArray, List.set_cons_zero, List.set_cons_succ]
                  refine wpAnyH_done (by kernel_rfl) ?_ _
                  clear hneR hguR hneK hguK
                  obtain ⟨w9, hw9⟩ : ∃ w9, World.drew w8 = w9 := ⟨_, rfl⟩
                  rw [hw9]
                  have hb9 : Hid (Below w8.heap.size w8 w9) := Lib.hid (by rw [← hw9]; exact below_drewN (Below.refl _ _) 1)
                  have hT9 := Lib.hid (hT8.out.below hb9.out)
                  have hM9 : Hid (w9.heap[M]? = some (.cells (encR x).toArray 61 (0, 0))) := Lib.hid ((hb9.out.block M hMl.out).trans hM8.out)
                  have ho9 := Lib.hid (ho8.out.below hb9.out fun j hj => (ho8.out.lt j hj).2)
                  have cM9 : w9.cell? ⟨M, 0, none⟩ = some (.string x.1) := cell_blk hM9.out rfl
                  have hNx9 := Lib.hid (hNx.out w9 k x hpx.out hT9.out)
                  obtain ⟨R, hR9⟩ : ∃ R, Hid (∀ _ : Unit, (p[k + 1]?.getD rZ) = R) := ⟨_, Lib.hid fun _ => rfl⟩
                  have hok9 : Hid ((p[k + 1]?).isSome = decide (k + 1 < n)) := Lib.hid (by
                    by_cases h : k + 1 < n
                    · rw [List.getElem?_eq_getElem (by have := hpn.out; omega), decide_eq_true h]; rfl
                    · rw [List.getElem?_eq_none (by have := hpn.out; omega), decide_eq_false h]; rfl)
                  rw [hR9.out (), hok9.out] at hNx9
                  clear hw9
                  go_wp2_with (first
                    | (go_at_call 25
                       refine hNx9.out.mono ?_
                       rintro e w10 ⟨rfl, hb⟩
                       have hT10 := Lib.hid (hT9.out.below hb)
                       have hM10 : Hid (w10.heap[M]? = some (.cells (encR x).toArray 61 (0, 0))) := Lib.hid ((hb.block M (Nat.lt_of_lt_of_le hMl.out hb9.out.size)).trans hM9.out)
                       have ho10 := Lib.hid (ho9.out.below hb fun j hj => (ho9.out.lt j hj).2)
                       clear hb)
                    | (refine wpList_store_row rfl 61 _ _ rfl M (encR R).toArray rfl rfl 61 _ hM10.out (by rw [a33.out]; exact hi33.out) (by simp only [a33.out]) (oneR.out _) ?_))
                  go_roundw
                  case rel =>
                    refine ⟨k + 1, by omega, by go_num, rfl, Lib.hid (hT10.out.row hM10.out hMB.out), Lib.hid (ho10.out.same fun j hj => setRow_other _ _ _ _ (by have := hMn.out j hj; omega)), Lib.hid ?_⟩
                    rw [hR9.out ()]
                    exact setRow_heap _ _ _ _ _ _ hM10.out
                  case measure => simp [intOf]; omega
                · obtain ⟨k1, hk1⟩ : ∃ k1 : Nat, (k : Int) - 1 = (k1 : Int) ∧ k = k1 + 1 := ⟨k - 1, by omega, by omega⟩
                  obtain ⟨hk1, hk2⟩ := hk1
                  obtain ⟨y, hy⟩ : ∃ y, p[k1]? = some y := ⟨_, List.getElem?_eq_getElem (by have := hpn.out; omega)⟩
                  obtain ⟨b4, off4, e4, hb4, hrg4⟩ := RowR.range (RowR.of_own (by rw [hpn.out]; exact ho8.out)) hy
                  cases e4
                  have hcY : Hid (∀ W, Below w8.heap.size w8 W → W.cell? ⟨b3, off3 + k1 * 33, none⟩ = some (.string y.1)) := Lib.hid fun W hW => by simpa using (range_below hb4 hrg4 hW) 0 _ (show (encR y)[0]? = some (.string y.1) from rfl)
                  have hless : Op.bytesLess y.1.toList x.1.toList = true := rise_at hpok.out.1 (by omega : k1 < k) hy hpx.out
                  have hk0h := Lib.hid (by omega : 0 < k)
                  have wk1 : IntKind.i64.wrap (k1 : Int) = (k1 : Int) := by rw [IntKind.wrap_i64]; omega
                  have gk1 : (0 : Int) ≤ (k1 : Int) := by omega
                  have gk2 : (k1 : Int) < (n : Int) := by omega
                  clear hk0 hk2 hy hb4 hrg4
                  have hd : Hid (Below w8.heap.size w8 (World.drew w8)) := Lib.hid (below_drewN (Below.refl _ _) 1)
                  refine wp_region_held (S := fun W => Below w8.heap.size w8 W) (by kernel_rfl) ?_
                  change wpAnyH _ _ _ _ _ _ _ _ (World.drew _)
                  refine takeD (i := 0) (d := 90) (v := .bool true) rfl rfl (by kernel_rfl) (by kernel_rfl) (by kernel_rfl) (fun _ _ _ h => h) (Or.inl ⟨by rfl, by intro W hW; clear hW; go_simp⟩) hd.out ?_
                  simp only [List.setIfInBounds_toArray, List.set_cons_zero, List.set_cons_succ]
                  refine takeD (i := 1) (d := 91) (v := .bool false) rfl rfl (by kernel_rfl) (by kernel_rfl) (by kernel_rfl) (fun _ _ _ h => h) (Or.inl ⟨by rfl, by intro W hW; clear hW; go_simp⟩) hd.out ?_
                  simp only [List.setIfInBounds_toArray, List.set_cons_zero, List.set_cons_succ]
                  refine takeD (i := 2) (d := 92) (v := .bool false) rfl rfl (by kernel_rfl) (by kernel_rfl) (by kernel_rfl) (fun _ _ _ h => h) (Or.inl ⟨by rfl, by intro W hW; clear hW; go_simp⟩) hd.out ?_
                  simp only [List.setIfInBounds_toArray, List.set_cons_zero, List.set_cons_succ]
                  refine takeD (i := 3) (d := 93) rfl rfl (by kernel_rfl) (by kernel_rfl) (by kernel_rfl) (fun _ _ _ h => h) (yieldsIf_load_mid (by rfl) 61 _ rfl M 0 rfl (encR x) _ hrM.out Try.underlying61 rfl (by rw [l33.out]; exact hi33.out)) hd.out ?_
                  simp only [List.setIfInBounds_toArray, List.set_cons_zero, List.set_cons_succ]
                  refine takeD (i := 4) (d := 94) (v := .slice (some ⟨b3, off3, none⟩) n c3) rfl rfl (by kernel_rfl) (by kernel_rfl) (by kernel_rfl) (fun _ _ _ h => h) (Or.inl ⟨by rfl, by intro W hW; clear hW; go_simp⟩) hd.out ?_
                  simp only [List.setIfInBounds_toArray, List.set_cons_zero, List.set_cons_succ]
                  refine takeD (i := 5) (d := 95) (v := .int .i64 (k : Int)) rfl rfl (by kernel_rfl) (by kernel_rfl) (by kernel_rfl) (fun _ _ _ h => h) (Or.inl ⟨by rfl, by intro W hW; clear hW; go_simp⟩) hd.out ?_
                  simp only [List.setIfInBounds_toArray, List.set_cons_zero, List.set_cons_succ]
                  refine takeD (i := 6) (d := 96) (v := .pointer (some ⟨b3, off3 + k * 33, none⟩)) rfl rfl (by kernel_rfl) (by kernel_rfl) (by kernel_rfl) (fun _ _ _ h => h) (Or.inl ⟨by rfl, by intro W hW; clear hW; go_simp⟩) hd.out ?_
                  simp only [List.setIfInBounds_toArray, List.set_cons_zero, List.set_cons_succ]
                  refine takeD (i := 7) (d := 97) rfl rfl (by kernel_rfl) (by kernel_rfl) (by kernel_rfl) (fun _ _ _ h => h) (yieldsIf_load_mid (by rfl) 61 _ rfl b3 (off3 + k * 33) rfl (encR x) _ hrX.out Try.underlying61 rfl (by rw [l33.out]; exact hi33.out)) hd.out ?_
                  simp only [List.setIfInBounds_toArray, List.set_cons_zero, List.set_cons_succ]
                  refine takeD (i := 8) (d := 98) (v := .bool false) rfl rfl (by kernel_rfl) (by kernel_rfl) (by kernel_rfl) (fun _ _ _ h => h) (Or.inl ⟨by rfl, by intro W hW; clear hW; go_simp⟩) hd.out ?_
                  simp only [List.setIfInBounds_toArray, List.set_cons_zero, List.set_cons_succ]
                  refine takeD (i := 9) (d := 99) (v := .bool false) rfl rfl (by kernel_rfl) (by kernel_rfl) (by kernel_rfl) (fun _ _ _ h => h) (Or.inl ⟨by rfl, by intro W hW; clear hW; go_simp⟩) hd.out ?_
                  simp only [List.setIfInBounds_toArray, List.set_cons_zero, List.set_cons_succ]
                  refine takeD (i := 10) (d := 100) (v := .bool false) rfl rfl (by kernel_rfl) (by kernel_rfl) (by kernel_rfl) (fun _ _ _ h => h) (Or.inl ⟨by rfl, by intro W hW; clear hW; go_simp⟩) hd.out ?_
                  simp only [List.setIfInBounds_toArray, List.set_cons_zero, List.set_cons_succ]
                  refine takeD (i := 11) (d := 101) (v := .int .i64 0) rfl rfl (by kernel_rfl) (by kernel_rfl) (by kernel_rfl) (fun _ _ _ h => h) (Or.inl ⟨by rfl, by intro W hW; clear hW; go_simp⟩) hd.out ?_
                  simp only [List.setIfInBounds_toArray, List.set_cons_zero, List.set_cons_succ]
                  refine takeD (i := 12) (d := 102) (v := .bool false) rfl rfl (by kernel_rfl) (by kernel_rfl) (by kernel_rfl) (fun _ _ _ h => h) (Or.inl ⟨by rfl, by intro W hW; clear hW; go_simp⟩) hd.out ?_
                  simp only [List.setIfInBounds_toArray, List.set_cons_zero, List.set_cons_succ]
                  refine takeD (i := 13) (d := 103) (v := .bool false) rfl rfl (by kernel_rfl) (by kernel_rfl) (by kernel_rfl) (fun _ _ _ h => h) (Or.inl ⟨by rfl, by intro W hW; clear hW; go_simp⟩) hd.out ?_
                  simp only [List.setIfInBounds_toArray, List.set_cons_zero, List.set_cons_succ]
                  refine takeD (i := 14) (d := 104) (v := .bool false) rfl rfl (by kernel_rfl) (by kernel_rfl) (by kernel_rfl) (fun _ _ _ h => h) (Or.inl ⟨by rfl, by intro W hW; clear hW; go_simp⟩) hd.out ?_
                  simp only [List.setIfInBounds_toArray, List.set_cons_zero, List.set_cons_succ]
                  refine takeD (i := 15) (d := 105) rfl rfl (by kernel_rfl) (by kernel_rfl) (by kernel_rfl) (fun _ _ _ h => h) (yieldsIf_load_mid (by rfl) 35 _ rfl Mk 0 rfl (encKy x.2) _ hrK.out Try.underlying35 rfl (by rw [l32.out]; exact hi32.out)) hd.out ?_
                  simp only [List.setIfInBounds_toArray, List.set_cons_zero, List.set_cons_succ]
                  refine takeD (i := 16) (d := 106) (v := .pointer (some ⟨M, 1, none⟩)) rfl rfl (by kernel_rfl) (by kernel_rfl) (by kernel_rfl) (fun _ _ _ h => h) (Or.inl ⟨by rfl, by intro W hW; clear hW; go_simp⟩) hd.out ?_
                  simp only [List.setIfInBounds_toArray, List.set_cons_zero, List.set_cons_succ]
                  refine takeD (i := 17) (d := 107) rfl rfl (by kernel_rfl) (by kernel_rfl) (by kernel_rfl) (fun _ _ _ h => h) (yieldsIf_load_mid (by rfl) 35 _ rfl M 1 rfl (encKy x.2) _ hrMk.out Try.underlying35 rfl (by rw [l32.out]; exact hi32.out)) hd.out ?_
                  simp only [List.setIfInBounds_toArray, List.set_cons_zero, List.set_cons_succ]
                  refine takeD (i := 18) (d := 108) (v := .bool false) rfl rfl (by kernel_rfl) (by kernel_rfl) (by kernel_rfl) (fun _ _ _ h => h) (Or.inl ⟨by rfl, by intro W hW; clear hW; go_simp⟩) hd.out ?_
                  simp only [List.setIfInBounds_toArray, List.set_cons_zero, List.set_cons_succ]
                  refine takeD (i := 19) (d := 109) (v := .bool false) rfl rfl (by kernel_rfl) (by kernel_rfl) (by kernel_rfl) (fun _ _ _ h => h) (Or.inl ⟨by rfl, by intro W hW; clear hW; go_simp⟩) hd.out ?_
                  simp only [List.setIfInBounds_toArray, List.set_cons_zero, List.set_cons_succ]
                  refine takeD (i := 20) (d := 110) (v := .bool false) rfl rfl (by kernel_rfl) (by kernel_rfl) (by kernel_rfl) (fun _ _ _ h => h) (Or.inl ⟨by rfl, by intro W hW; clear hW; go_simp⟩) hd.out ?_
                  simp only [List.setIfInBounds_toArray, List.set_cons_zero, List.set_cons_succ]
                  refine takeD (i := 21) (d := 111) (v := .int .i64 (k : Int)) rfl rfl (by kernel_rfl) (by kernel_rfl) (by kernel_rfl) (fun _ _ _ h => h) (Or.inl ⟨by rfl, by intro W hW; clear hW; go_simp⟩) hd.out ?_
                  simp only [List.setIfInBounds_toArray, List.set_cons_zero, List.set_cons_succ]
                  refine takeD (i := 22) (d := 112) (v := .bool true) rfl rfl (by kernel_rfl) (by kernel_rfl) (by kernel_rfl) (fun _ _ _ h => h) (Or.inl ⟨by rfl, by intro W hW; have kk := hk0h.out; clear hW; go_simp⟩) hd.out ?_
                  simp only [List.setIfInBounds_toArray, List.set_cons_zero, List.set_cons_succ]
                  refine takeD (i := 23) (d := 113) (v := .bool true) rfl rfl (by kernel_rfl) (by kernel_rfl) (by kernel_rfl) (fun _ _ _ h => h) (Or.inl ⟨by rfl, by intro W hW; clear hW; go_simp⟩) hd.out ?_
                  simp only [List.setIfInBounds_toArray, List.set_cons_zero, List.set_cons_succ]
                  refine takeD (i := 24) (d := 114) (v := .slice (some ⟨b3, off3, none⟩) n c3) rfl rfl (by kernel_rfl) (by kernel_rfl) (by kernel_rfl) (fun _ _ _ h => h) (Or.inl ⟨by rfl, by intro W hW; clear hW; go_simp⟩) hd.out ?_
                  simp only [List.setIfInBounds_toArray, List.set_cons_zero, List.set_cons_succ]
                  refine takeD (i := 25) (d := 115) (v := .int .i64 (k : Int)) rfl rfl (by kernel_rfl) (by kernel_rfl) (by kernel_rfl) (fun _ _ _ h => h) (Or.inl ⟨by rfl, by intro W hW; clear hW; go_simp⟩) hd.out ?_
                  simp only [List.setIfInBounds_toArray, List.set_cons_zero, List.set_cons_succ]
                  refine takeD (i := 26) (d := 116) (v := .int .i64 (k1 : Int)) rfl rfl (by kernel_rfl) (by kernel_rfl) (by kernel_rfl) (fun _ _ _ h => h) (Or.inl ⟨by rfl, by intro W hW; clear hW; go_simp⟩) hd.out ?_
                  simp only [List.setIfInBounds_toArray, List.set_cons_zero, List.set_cons_succ]
                  refine takeD (i := 27) (d := 117) (v := .pointer (some ⟨b3, off3 + k1 * 33, none⟩)) rfl rfl (by kernel_rfl) (by kernel_rfl) (by kernel_rfl) (fun _ _ _ h => h) (Or.inl ⟨by rfl, by intro W hW; clear hW; go_simp⟩) hd.out ?_
                  simp only [List.setIfInBounds_toArray, List.set_cons_zero, List.set_cons_succ]
                  refine takeD (i := 28) (d := 118) (v := .pointer (some ⟨b3, off3 + k1 * 33, none⟩)) rfl rfl (by kernel_rfl) (by kernel_rfl) (by kernel_rfl) (fun _ _ _ h => h) (Or.inl ⟨by rfl, by intro W hW; clear hW; go_simp⟩) hd.out ?_
                  simp only [List.setIfInBounds_toArray, List.set_cons_zero, List.set_cons_succ]
                  refine takeD (i := 29) (d := 119) (v := .string y.1) rfl rfl (by kernel_rfl) (by kernel_rfl) (by kernel_rfl) (fun _ _ _ h => h) (Or.inl ⟨by rfl, by intro W hW; have cc := hcY.out W hW; clear hW; go_simp⟩) hd.out ?_
                  simp only [List.setIfInBounds_toArray, List.set_cons_zero, List.set_cons_succ]
                  refine takeD (i := 30) (d := 120) (v := .pointer (some ⟨M, 0, none⟩)) rfl rfl (by kernel_rfl) (by kernel_rfl) (by kernel_rfl) (fun _ _ _ h => h) (Or.inl ⟨by rfl, by intro W hW; clear hW; go_simp⟩) hd.out ?_
                  simp only [List.setIfInBounds_toArray, List.set_cons_zero, List.set_cons_succ]
                  refine takeD (i := 31) (d := 121) (v := .string x.1) rfl rfl (by kernel_rfl) (by kernel_rfl) (by kernel_rfl) (fun _ _ _ h => h) (Or.inl ⟨by rfl, by intro W hW; have cc := hcM.out W hW; clear hW; go_simp⟩) hd.out ?_
                  simp only [List.setIfInBounds_toArray, List.set_cons_zero, List.set_cons_succ]
                  refine takeD (i := 32) (d := 122) (v := .bool false) rfl rfl (by kernel_rfl) (by kernel_rfl) (by kernel_rfl) (fun _ _ _ h => h) (Or.inl ⟨by rfl, by intro W hW; clear hW; go_simp⟩) hd.out ?_
                  simp only [List.setIfInBounds_toArray, List.set_cons_zero, List.set_cons_succ]
                  refine takeD (i := 33) (d := 123) (v := .bool false) rfl rfl (by kernel_rfl) (by kernel_rfl) (by kernel_rfl) (fun _ _ _ h => h) (Or.inl ⟨by rfl, by intro W hW; clear hW; go_simp⟩) hd.out ?_
                  simp only [List.setIfInBounds_toArray, List.set_cons_zero, List.set_cons_succ]
                  refine takeD (i := 34) (d := 124) (v := .bool false) rfl rfl (by kernel_rfl) (by kernel_rfl) (by kernel_rfl) (fun _ _ _ h => h) (Or.inl ⟨by rfl, by intro W hW; clear hW; go_simp⟩) hd.out ?_
                  simp only [List.setIfInBounds_toArray, List.set_cons_zero, List.set_cons_succ]
                  refine takeD (i := 35) (d := 125) (v := .bool false) rfl rfl (by kernel_rfl) (by kernel_rfl) (by kernel_rfl) (fun _ _ _ h => h) (Or.inl ⟨by rfl, by intro W hW; clear hW; go_simp⟩) hd.out ?_
                  simp only [List.setIfInBounds_toArray, List.set_cons_zero, List.set_cons_succ]
                  refine takeD (i := 36) (d := 126) (v := .pointer (some ⟨M, 0, none⟩)) rfl rfl (by kernel_rfl) (by kernel_rfl) (by kernel_rfl) (fun _ _ _ h => h) (Or.inl ⟨by rfl, by intro W hW; clear hW; go_simp⟩) hd.out ?_
                  simp only [List.setIfInBounds_toArray, List.set_cons_zero, List.set_cons_succ]
                  refine takeD (i := 37) (d := 127) (v := .string x.1) rfl rfl (by kernel_rfl) (by kernel_rfl) (by kernel_rfl) (fun _ _ _ h => h) (Or.inl ⟨by rfl, by intro W hW; have cc := hcM.out W hW; clear hW; go_simp⟩) hd.out ?_
                  simp only [List.setIfInBounds_toArray, List.set_cons_zero, List.set_cons_succ]
                  refine wpAnyH_ready (rs := [38]) (by kernel_rfl) (by simp) ?_
                  refine AllReadyH.cons rfl (fun K hK => ?_) AllReadyH.nil
                  go_simp
                  go_wp2_with (go_at_call 11; refine (hN.out _).mono ?_; rintro e v1 ⟨rfl, rfl⟩; skip)
                  refine hK.out _ _ hd.out (fun _ => ?_)
                  clear hK K
                  refine takeD (i := 39) (d := 129) (v := .bool false) rfl rfl (by kernel_rfl) (by kernel_rfl) (by kernel_rfl) (fun _ _ _ h => h) (Or.inl ⟨by rfl, by intro W hW; clear hW; go_simp⟩) hd.out ?_
                  simp only [List.setIfInBounds_toArray, List.set_cons_zero, List.set_cons_succ]
                  refine takeD (i := 40) (d := 130) (v := .bool false) rfl rfl (by kernel_rfl) (by kernel_rfl) (by kernel_rfl) (fun _ _ _ h => h) (Or.inl ⟨by rfl, by intro W hW; clear hW; go_simp⟩) hd.out ?_
                  simp only [List.setIfInBounds_toArray, List.set_cons_zero, List.set_cons_succ]
                  refine wpAnyH_done (by kernel_rfl) ?_ _
                  clear hneR hguR hneK hguK
                  obtain ⟨w9, hw9⟩ : ∃ w9, World.drew w8 = w9 := ⟨_, rfl⟩
                  rw [hw9]
                  have hb9 : Hid (Below w8.heap.size w8 w9) := Lib.hid (by rw [← hw9]; exact below_drewN (Below.refl _ _) 1)
                  have hT9 := Lib.hid (hT8.out.below hb9.out)
                  have hM9 : Hid (w9.heap[M]? = some (.cells (encR x).toArray 61 (0, 0))) := Lib.hid ((hb9.out.block M hMl.out).trans hM8.out)
                  have ho9 := Lib.hid (ho8.out.below hb9.out fun j hj => (ho8.out.lt j hj).2)
                  have cM9 : w9.cell? ⟨M, 0, none⟩ = some (.string x.1) := cell_blk hM9.out rfl
                  have hNx9 := Lib.hid (hNx.out w9 k x hpx.out hT9.out)
                  obtain ⟨R, hR9⟩ : ∃ R, Hid (∀ _ : Unit, (p[k + 1]?.getD rZ) = R) := ⟨_, Lib.hid fun _ => rfl⟩
                  have hok9 : Hid ((p[k + 1]?).isSome = decide (k + 1 < n)) := Lib.hid (by
                    by_cases h : k + 1 < n
                    · rw [List.getElem?_eq_getElem (by have := hpn.out; omega), decide_eq_true h]; rfl
                    · rw [List.getElem?_eq_none (by have := hpn.out; omega), decide_eq_false h]; rfl)
                  rw [hR9.out (), hok9.out] at hNx9
                  clear hw9
                  go_wp2_with (first
                    | (go_at_call 25
                       refine hNx9.out.mono ?_
                       rintro e w10 ⟨rfl, hb⟩
                       have hT10 := Lib.hid (hT9.out.below hb)
                       have hM10 : Hid (w10.heap[M]? = some (.cells (encR x).toArray 61 (0, 0))) := Lib.hid ((hb.block M (Nat.lt_of_lt_of_le hMl.out hb9.out.size)).trans hM9.out)
                       have ho10 := Lib.hid (ho9.out.below hb fun j hj => (ho9.out.lt j hj).2)
                       clear hb)
                    | (refine wpList_store_row rfl 61 _ _ rfl M (encR R).toArray rfl rfl 61 _ hM10.out (by rw [a33.out]; exact hi33.out) (by simp only [a33.out]) (oneR.out _) ?_))
                  go_roundw
                  case rel =>
                    refine ⟨k + 1, by omega, by go_num, rfl, Lib.hid (hT10.out.row hM10.out hMB.out), Lib.hid (ho10.out.same fun j hj => setRow_other _ _ _ _ (by have := hMn.out j hj; omega)), Lib.hid ?_⟩
                    rw [hR9.out ()]
                    exact setRow_heap _ _ _ _ _ _ hM10.out
                  case measure => simp [intOf]; omega
              · have glt : ¬ ((k : Int) < (n : Int)) := by omega
                have hx33 : p[k]?.getD rZ = rZ := by rw [List.getElem?_eq_none (by have := hpn.out; omega)]; rfl
                rw [hx33] at hMr
                rw [decide_eq_false hkn]
                have heR := eqR
                have hgR := guR
                go_wp2_with (refine wpList_loadg (by rfl) 61 _ rfl M 0 rfl (encR rZ) _ (range_blk hMr.out) Try.underlying61 rfl (by rw [l33.out]; exact hi33.out) ?_)
                go_ret
                exact ⟨rfl, hb0.out.trans (hTr.out.lo.mono hb0.out.size)⟩
          · go_wp2_with (first
              | (go_at_call 20
                 refine hSet.out.mono ?_
                 rintro e w3 ⟨rfl, h3⟩
                 have hT3 := Lib.hid h3
                 have hpo := hokp'.out _ h3
                 have hpok := Lib.hid hpo.1
                 have hn64 := hpo.2
                 have gl1 : ¬ ((n : Int) < 1) := by omega
                 have gl2 : ¬ ((64 : Int) < (n : Int)) := by omega
                 clear h3 hpo)
              | (go_at_call 17
                 refine (hAll.out _ hT3.out).mono ?_
                 rintro e w4 ⟨A3, c3, rfl, ho, hb⟩
                 have hT4 := Lib.hid (hT3.out.below hb)
                 have ho4 := Lib.hid (ho.base hT3.out.lo.size)
                 clear ho hb)
              | (go_at_call 24
                 refine (hLen.out _ hT4.out).mono ?_
                 rintro e w5 ⟨rfl, hb⟩
                 have hT5 := Lib.hid (hT4.out.below hb)
                 have ho5 := Lib.hid (ho4.out.below hb fun j hj => (ho4.out.lt j hj).2)
                 clear hb)
              | (go_at_call 25
                 refine (hNx0.out _ hT5.out).mono ?_
                 rintro e w6 ⟨rfl, hb⟩
                 have hT6 := Lib.hid (hT5.out.below hb)
                 have ho6 := Lib.hid (ho5.out.below hb fun j hj => (ho5.out.lt j hj).2)
                 clear hb)
              | (refine wpList_store_row rfl 61 _ _ rfl w6.heap.size (encR x0).toArray rfl rfl 61 _ (heap_alloc_new w6 _) (by rw [a33.out]; exact hi33.out) (by rw [a33.out, a33.out]) (oneR.out _) ?_
                 obtain ⟨wq, hwq⟩ : ∃ wq, (w6.alloc (.cells (encR rZ).toArray 61)).setRow w6.heap.size (encR x0).toArray = wq := ⟨_, rfl⟩
                 obtain ⟨M, hM⟩ : ∃ M, w6.heap.size = M := ⟨_, rfl⟩
                 have hb6q : Below w6.heap.size w6 wq := by rw [← hwq]; exact setRow_bel ((Below.refl _ _).alloc (Nat.le_refl _) _) (Nat.le_refl _) _
                 have hTq := Lib.hid (hT6.out.below hb6q)
                 have hoq := Lib.hid (ho6.out.below hb6q fun j hj => (ho6.out.lt j hj).2)
                 have hMq : Hid (wq.heap[M]? = some (.cells (encR x0).toArray 61 (0, 0))) := Lib.hid (by rw [← hwq, ← hM]; exact setRow_heap _ _ _ _ _ _ (heap_alloc_new w6 _))
                 have hMB : Hid (w0.heap.size ≤ M) := Lib.hid (by rw [← hM]; exact hT6.out.lo.size)
                 have hMn : Hid (∀ j, blockOf A3 = some j → j < M) := Lib.hid fun j hj => by rw [← hM]; exact (ho6.out.lt j hj).2
                 rw [hwq, hM]
                 clear hb6q hwq hM))
            go_loopw [5, 10] (fun r i wr => ∃ k : Nat, k ≤ n ∧ i = .int .i64 k ∧ r = .bool (decide (k < n)) ∧ Hid (One w0 wr g L3) ∧ Hid (Own wr w0.heap.size 61 33 A3 n c3 (rowsR p)) ∧ Hid (wr.heap[M]? = some (.cells (encR (p[k]?.getD rZ)).toArray 61 (0, 0)))) (fun _ i _ => n - (intOf i).toNat)
            case atStart =>
              refine ⟨0, by omega, rfl, by rw [decide_eq_true (by omega : 0 < n)], hTq, hoq, Lib.hid ?_⟩
              rw [hx0'.out]
              exact hMq.out
            case round =>
              obtain ⟨k, hk, rfl, rfl, hTr, hor, hMr⟩ := hrel
              by_cases hkn : k < n
              · obtain ⟨x, hx⟩ : ∃ x, p[k]? = some x := ⟨_, List.getElem?_eq_getElem (by have := hpn.out; omega)⟩
                have hpx := Lib.hid hx
                have hNm := Lib.hid (hpok.out.2 x (List.mem_of_getElem? hx))
                have hN := Lib.hid fun W => refNamed_yes hNm.out W
                have hx33 : p[k]?.getD rZ = x := by rw [hx]; rfl
                rw [hx33] at hMr
                obtain ⟨b3, off3, rfl, hb3, hrg3⟩ := RowR.range (RowR.of_own (by rw [hpn.out]; exact hor.out)) hx
                have hrg3' := Lib.hid hrg3
                have d0 : wr.cell? ⟨b3, off3 + k * 33, none⟩ = some (.string x.1) := by simpa using hrg3 0 _ (show (encR x)[0]? = some (.string x.1) from rfl)
                have hG := Lib.hid (hGet.out wr k x hx hTr.out)
                have glt : (k : Int) < (n : Int) := by omega
                have g0 : (0 : Int) ≤ (k : Int) := by omega
                rw [decide_eq_true hkn]
                clear hx hx33 hrg3
                go_wp2_with (first
                  | (go_at_call 26
                     refine hG.out.mono ?_
                     rintro e w7 ⟨rfl, hb⟩
                     have hb7 := Lib.hid hb
                     clear hb)
                  | (refine wpList_store_row rfl 35 _ _ rfl w7.heap.size (encKy x.2).toArray rfl rfl 35 _ (heap_alloc_new w7 _) (by rw [a32.out]; exact hi32.out) (by rw [a32.out, a32.out]) (oneK.out _) ?_))
                obtain ⟨w8, hw8⟩ : ∃ w8, (w7.alloc (.cells (encKy kZ).toArray 35)).setRow w7.heap.size (encKy x.2).toArray = w8 := ⟨_, rfl⟩
                obtain ⟨Mk, hMk⟩ : ∃ Mk, w7.heap.size = Mk := ⟨_, rfl⟩
                have hb78 : Below w7.heap.size w7 w8 := by rw [← hw8]; exact setRow_bel ((Below.refl _ _).alloc (Nat.le_refl _) _) (Nat.le_refl _) _
                have hK8 : w8.heap[Mk]? = some (.cells (encKy x.2).toArray 35 (0, 0)) := by rw [← hw8, ← hMk]; exact setRow_heap _ _ _ _ _ _ (heap_alloc_new w7 _)
                have hbr8 : Below wr.heap.size wr w8 := hb7.out.trans (hb78.mono hb7.out.size)
                have hT8 := Lib.hid (hTr.out.below hbr8)
                have hM8 : Hid (w8.heap[M]? = some (.cells (encR x).toArray 61 (0, 0))) := Lib.hid ((hbr8.block M (Array.getElem?_eq_some_iff.1 hMr.out).1).trans hMr.out)
                have hMl : Hid (M < w8.heap.size) := Lib.hid (Array.getElem?_eq_some_iff.1 hM8.out).1
                have ho8 := Lib.hid (hor.out.below hbr8 fun j hj => (hor.out.lt j hj).2)
                have hcM : Hid (∀ W, Below w8.heap.size w8 W → W.cell? ⟨M, 0, none⟩ = some (.string x.1)) := Lib.hid fun W hW => (hW.cell (p := ⟨M, 0, none⟩) hMl.out).trans (cell_blk hM8.out rfl)
                have hrM : Hid (∀ W, Below w8.heap.size w8 W → W.rangeAt M 0 (encR x)) := Lib.hid fun W hW => range_below hMl.out (range_blk hM8.out) hW
                have hrMk : Hid (∀ W, Below w8.heap.size w8 W → W.rangeAt M 1 (encKy x.2)) := Lib.hid fun W hW => by
                  have := key_range (range_below hMl.out (range_blk hM8.out) hW)
                  rwa [Nat.zero_add] at this
                have hrK : Hid (∀ W, Below w8.heap.size w8 W → W.rangeAt Mk 0 (encKy x.2)) := Lib.hid fun W hW => range_below (Array.getElem?_eq_some_iff.1 hK8).1 (range_blk hK8) hW
                have hb38 : b3 < w8.heap.size := Nat.lt_of_lt_of_le hb3 hbr8.size
                have hrX : Hid (∀ W, Below w8.heap.size w8 W → W.rangeAt b3 (off3 + k * 33) (encR x)) := Lib.hid fun W hW => range_below hb38 (range_below hb3 hrg3'.out hbr8) hW
                rw [hw8, hMk]
                have hneR := neR
                have hguR := guR
                have hneK := neKy
                have hguK := guKy
                clear hb78 hK8 hbr8 hb38 hw8 hMk d0
                by_cases hk0 : k = 0
                · have hk0h := Lib.hid hk0
                  clear hk0
                  have hd : Hid (Below w8.heap.size w8 (World.drew w8)) := Lib.hid (below_drewN (Below.refl _ _) 1)
                  refine wp_region_held (S := fun W => Below w8.heap.size w8 W) (by kernel_rfl) ?_
                  change wpAnyH _ _ _ _ _ _ _ _ (World.drew _)
                  refine takeD (i := 0) (d := 90) (v := .bool true) rfl rfl (by kernel_rfl) (by kernel_rfl) (by kernel_rfl) (fun _ _ _ h => h) (Or.inl ⟨by rfl, by intro W hW; clear hW; go_simp⟩) hd.out ?_
                  simp only [List.setIfInBounds_toArray, List.set_cons_zero, List.set_cons_succ]
                  refine takeD (i := 1) (d := 91) (v := .bool false) rfl rfl (by kernel_rfl) (by kernel_rfl) (by kernel_rfl) (fun _ _ _ h => h) (Or.inl ⟨by rfl, by intro W hW; clear hW; go_simp⟩) hd.out ?_
                  simp only [List.setIfInBounds_toArray, List.set_cons_zero, List.set_cons_succ]
                  refine takeD (i := 2) (d := 92) (v := .bool false) rfl rfl (by kernel_rfl) (by kernel_rfl) (by kernel_rfl) (fun _ _ _ h => h) (Or.inl ⟨by rfl, by intro W hW; clear hW; go_simp⟩) hd.out ?_
                  simp only [List.setIfInBounds_toArray, List.set_cons_zero, List.set_cons_succ]
                  refine takeD (i := 3) (d := 93) rfl rfl (by kernel_rfl) (by kernel_rfl) (by kernel_rfl) (fun _ _ _ h => h) (yieldsIf_load_mid (by rfl) 61 _ rfl M 0 rfl (encR x) _ hrM.out Try.underlying61 rfl (by rw [l33.out]; exact hi33.out)) hd.out ?_
                  simp only [List.setIfInBounds_toArray, List.set_cons_zero, List.set_cons_succ]
                  refine takeD (i := 4) (d := 94) (v := .slice (some ⟨b3, off3, none⟩) n c3) rfl rfl (by kernel_rfl) (by kernel_rfl) (by kernel_rfl) (fun _ _ _ h => h) (Or.inl ⟨by rfl, by intro W hW; clear hW; go_simp⟩) hd.out ?_
                  simp only [List.setIfInBounds_toArray, List.set_cons_zero, List.set_cons_succ]
                  refine takeD (i := 5) (d := 95) (v := .int .i64 (k : Int)) rfl rfl (by kernel_rfl) (by kernel_rfl) (by kernel_rfl) (fun _ _ _ h => h) (Or.inl ⟨by rfl, by intro W hW; clear hW; go_simp⟩) hd.out ?_
                  simp only [List.setIfInBounds_toArray, List.set_cons_zero, List.set_cons_succ]
                  refine takeD (i := 6) (d := 96) (v := .pointer (some ⟨b3, off3 + k * 33, none⟩)) rfl rfl (by kernel_rfl) (by kernel_rfl) (by kernel_rfl) (fun _ _ _ h => h) (Or.inl ⟨by rfl, by intro W hW; clear hW; go_simp⟩) hd.out ?_
                  simp only [List.setIfInBounds_toArray, List.set_cons_zero, List.set_cons_succ]
                  refine takeD (i := 7) (d := 97) rfl rfl (by kernel_rfl) (by kernel_rfl) (by kernel_rfl) (fun _ _ _ h => h) (yieldsIf_load_mid (by rfl) 61 _ rfl b3 (off3 + k * 33) rfl (encR x) _ hrX.out Try.underlying61 rfl (by rw [l33.out]; exact hi33.out)) hd.out ?_
                  simp only [List.setIfInBounds_toArray, List.set_cons_zero, List.set_cons_succ]
                  refine takeD (i := 8) (d := 98) (v := .bool false) rfl rfl (by kernel_rfl) (by kernel_rfl) (by kernel_rfl) (fun _ _ _ h => h) (Or.inl ⟨by rfl, by intro W hW; clear hW; go_simp⟩) hd.out ?_
                  simp only [List.setIfInBounds_toArray, List.set_cons_zero, List.set_cons_succ]
                  refine takeD (i := 9) (d := 99) (v := .bool false) rfl rfl (by kernel_rfl) (by kernel_rfl) (by kernel_rfl) (fun _ _ _ h => h) (Or.inl ⟨by rfl, by intro W hW; clear hW; go_simp⟩) hd.out ?_
                  simp only [List.setIfInBounds_toArray, List.set_cons_zero, List.set_cons_succ]
                  refine takeD (i := 10) (d := 100) (v := .bool false) rfl rfl (by kernel_rfl) (by kernel_rfl) (by kernel_rfl) (fun _ _ _ h => h) (Or.inl ⟨by rfl, by intro W hW; clear hW; go_simp⟩) hd.out ?_
                  simp only [List.setIfInBounds_toArray, List.set_cons_zero, List.set_cons_succ]
                  refine takeD (i := 11) (d := 101) (v := .int .i64 0) rfl rfl (by kernel_rfl) (by kernel_rfl) (by kernel_rfl) (fun _ _ _ h => h) (Or.inl ⟨by rfl, by intro W hW; clear hW; go_simp⟩) hd.out ?_
                  simp only [List.setIfInBounds_toArray, List.set_cons_zero, List.set_cons_succ]
                  refine takeD (i := 12) (d := 102) (v := .bool false) rfl rfl (by kernel_rfl) (by kernel_rfl) (by kernel_rfl) (fun _ _ _ h => h) (Or.inl ⟨by rfl, by intro W hW; clear hW; go_simp⟩) hd.out ?_
                  simp only [List.setIfInBounds_toArray, List.set_cons_zero, List.set_cons_succ]
                  refine takeD (i := 13) (d := 103) (v := .bool false) rfl rfl (by kernel_rfl) (by kernel_rfl) (by kernel_rfl) (fun _ _ _ h => h) (Or.inl ⟨by rfl, by intro W hW; clear hW; go_simp⟩) hd.out ?_
                  simp only [List.setIfInBounds_toArray, List.set_cons_zero, List.set_cons_succ]
                  refine takeD (i := 14) (d := 104) (v := .bool false) rfl rfl (by kernel_rfl) (by kernel_rfl) (by kernel_rfl) (fun _ _ _ h => h) (Or.inl ⟨by rfl, by intro W hW; clear hW; go_simp⟩) hd.out ?_
                  simp only [List.setIfInBounds_toArray, List.set_cons_zero, List.set_cons_succ]
                  refine takeD (i := 15) (d := 105) rfl rfl (by kernel_rfl) (by kernel_rfl) (by kernel_rfl) (fun _ _ _ h => h) (yieldsIf_load_mid (by rfl) 35 _ rfl Mk 0 rfl (encKy x.2) _ hrK.out Try.underlying35 rfl (by rw [l32.out]; exact hi32.out)) hd.out ?_
                  simp only [List.setIfInBounds_toArray, List.set_cons_zero, List.set_cons_succ]
                  refine takeD (i := 16) (d := 106) (v := .pointer (some ⟨M, 1, none⟩)) rfl rfl (by kernel_rfl) (by kernel_rfl) (by kernel_rfl) (fun _ _ _ h => h) (Or.inl ⟨by rfl, by intro W hW; clear hW; go_simp⟩) hd.out ?_
                  simp only [List.setIfInBounds_toArray, List.set_cons_zero, List.set_cons_succ]
                  refine takeD (i := 17) (d := 107) rfl rfl (by kernel_rfl) (by kernel_rfl) (by kernel_rfl) (fun _ _ _ h => h) (yieldsIf_load_mid (by rfl) 35 _ rfl M 1 rfl (encKy x.2) _ hrMk.out Try.underlying35 rfl (by rw [l32.out]; exact hi32.out)) hd.out ?_
                  simp only [List.setIfInBounds_toArray, List.set_cons_zero, List.set_cons_succ]
                  refine takeD (i := 18) (d := 108) (v := .bool false) rfl rfl (by kernel_rfl) (by kernel_rfl) (by kernel_rfl) (fun _ _ _ h => h) (Or.inl ⟨by rfl, by intro W hW; clear hW; go_simp⟩) hd.out ?_
                  simp only [List.setIfInBounds_toArray, List.set_cons_zero, List.set_cons_succ]
                  refine takeD (i := 19) (d := 109) (v := .bool false) rfl rfl (by kernel_rfl) (by kernel_rfl) (by kernel_rfl) (fun _ _ _ h => h) (Or.inl ⟨by rfl, by intro W hW; clear hW; go_simp⟩) hd.out ?_
                  simp only [List.setIfInBounds_toArray, List.set_cons_zero, List.set_cons_succ]
                  refine takeD (i := 20) (d := 110) (v := .bool false) rfl rfl (by kernel_rfl) (by kernel_rfl) (by kernel_rfl) (fun _ _ _ h => h) (Or.inl ⟨by rfl, by intro W hW; clear hW; go_simp⟩) hd.out ?_
                  simp only [List.setIfInBounds_toArray, List.set_cons_zero, List.set_cons_succ]
                  refine takeD (i := 21) (d := 111) (v := .int .i64 (k : Int)) rfl rfl (by kernel_rfl) (by kernel_rfl) (by kernel_rfl) (fun _ _ _ h => h) (Or.inl ⟨by rfl, by intro W hW; clear hW; go_simp⟩) hd.out ?_
                  simp only [List.setIfInBounds_toArray, List.set_cons_zero, List.set_cons_succ]
                  refine takeD (i := 22) (d := 112) (v := .bool false) rfl rfl (by kernel_rfl) (by kernel_rfl) (by kernel_rfl) (fun _ _ _ h => h) (Or.inl ⟨by rfl, by intro W hW; have kk := hk0h.out; clear hW; go_simp⟩) hd.out ?_
                  simp only [List.setIfInBounds_toArray, List.set_cons_zero, List.set_cons_succ]
                  refine takeD (i := 23) (d := 113) (v := .bool false) rfl rfl (by kernel_rfl) (by kernel_rfl) (by kernel_rfl) (fun _ _ _ h => h) (Or.inl ⟨by rfl, by intro W hW; clear hW; go_simp⟩) hd.out ?_
                  simp only [List.setIfInBounds_toArray, List.set_cons_zero, List.set_cons_succ]
                  refine takeD (i := 24) (d := 114) (v := undef) rfl rfl (by kernel_rfl) (by kernel_rfl) (by kernel_rfl) (fun _ _ _ h => h) (Or.inr ⟨by rfl, rfl⟩) hd.out ?_
                  simp only [List.setIfInBounds_toArray, List.set_cons_zero, List.set_cons_succ]
                  refine takeD (i := 25) (d := 115) (v := undef) rfl rfl (by kernel_rfl) (by kernel_rfl) (by kernel_rfl) (fun _ _ _ h => h) (Or.inr ⟨by rfl, rfl⟩) hd.out ?_
                  simp only [List.setIfInBounds_toArray, List.set_cons_zero, List.set_cons_succ]
                  refine takeD (i := 26) (d := 116) (v := undef) rfl rfl (by kernel_rfl) (by kernel_rfl) (by kernel_rfl) (fun _ _ _ h => h) (Or.inr ⟨by rfl, rfl⟩) hd.out ?_
                  simp only [List.setIfInBounds_toArray, List.set_cons_zero, List.set_cons_succ]
                  refine takeD (i := 27) (d := 117) (v := undef) rfl rfl (by kernel_rfl) (by kernel_rfl) (by kernel_rfl) (fun _ _ _ h => h) (Or.inr ⟨by rfl, rfl⟩) hd.out ?_
                  simp only [List.setIfInBounds_toArray, List.set_cons_zero, List.set_cons_succ]
                  refine takeD (i := 28) (d := 118) (v := undef) rfl rfl (by kernel_rfl) (by kernel_rfl) (by kernel_rfl) (fun _ _ _ h => h) (Or.inr ⟨by rfl, rfl⟩) hd.out ?_
                  simp only [List.setIfInBounds_toArray, List.set_cons_zero, List.set_cons_succ]
                  refine takeD (i := 29) (d := 119) (v := undef) rfl rfl (by kernel_rfl) (by kernel_rfl) (by kernel_rfl) (fun _ _ _ h => h) (Or.inr ⟨by rfl, rfl⟩) hd.out ?_
                  simp only [List.setIfInBounds_toArray, List.set_cons_zero, List.set_cons_succ]
                  refine takeD (i := 30) (d := 120) (v := undef) rfl rfl (by kernel_rfl) (by kernel_rfl) (by kernel_rfl) (fun _ _ _ h => h) (Or.inr ⟨by rfl, rfl⟩) hd.out ?_
                  simp only [List.setIfInBounds_toArray, List.set_cons_zero, List.set_cons_succ]
                  refine takeD (i := 31) (d := 121) (v := undef) rfl rfl (by kernel_rfl) (by kernel_rfl) (by kernel_rfl) (fun _ _ _ h => h) (Or.inr ⟨by rfl, rfl⟩) hd.out ?_
                  simp only [List.setIfInBounds_toArray, List.set_cons_zero, List.set_cons_succ]
                  refine takeD (i := 32) (d := 122) (v := undef) rfl rfl (by kernel_rfl) (by kernel_rfl) (by kernel_rfl) (fun _ _ _ h => h) (Or.inr ⟨by rfl, rfl⟩) hd.out ?_
                  simp only [List.setIfInBounds_toArray, List.set_cons_zero, List.set_cons_succ]
                  refine takeD (i := 33) (d := 123) (v := .bool false) rfl rfl (by kernel_rfl) (by kernel_rfl) (by kernel_rfl) (fun _ _ _ h => h) (Or.inl ⟨by rfl, by intro W hW; clear hW; go_simp⟩) hd.out ?_
                  simp only [List.setIfInBounds_toArray, List.set_cons_zero, List.set_cons_succ]
                  refine takeD (i := 34) (d := 124) (v := .bool false) rfl rfl (by kernel_rfl) (by kernel_rfl) (by kernel_rfl) (fun _ _ _ h => h) (Or.inl ⟨by rfl, by intro W hW; clear hW; go_simp⟩) hd.out ?_
                  simp only [List.setIfInBounds_toArray, List.set_cons_zero, List.set_cons_succ]
                  refine takeD (i := 35) (d := 125) (v := .bool false) rfl rfl (by kernel_rfl) (by kernel_rfl) (by kernel_rfl) (fun _ _ _ h => h) (Or.inl ⟨by rfl, by intro W hW; clear hW; go_simp⟩) hd.out ?_
                  simp only [List.setIfInBounds_toArray, List.set_cons_zero, List.set_cons_succ]
                  refine takeD (i := 36) (d := 126) (v := .pointer (some ⟨M, 0, none⟩)) rfl rfl (by kernel_rfl) (by kernel_rfl) (by kernel_rfl) (fun _ _ _ h => h) (Or.inl ⟨by rfl, by intro W hW; clear hW; go_simp⟩) hd.out ?_
                  simp only [List.setIfInBounds_toArray, List.set_cons_zero, List.set_cons_succ]
                  refine takeD (i := 37) (d := 127) (v := .string x.1) rfl rfl (by kernel_rfl) (by kernel_rfl) (by kernel_rfl) (fun _ _ _ h => h) (Or.inl ⟨by rfl, by intro W hW; have cc := hcM.out W hW; clear hW; go_simp⟩) hd.out ?_
                  simp only [List.setIfInBounds_toArray, List.set_cons_zero, List.set_cons_succ]
                  refine wpAnyH_ready (rs := [38]) (by kernel_rfl) (by simp) ?_
                  refine AllReadyH.cons rfl (fun K hK => ?_) AllReadyH.nil
                  go_simp
                  go_wp2_with (go_at_call 11; refine (hN.out _).mono ?_; rintro e v1 ⟨rfl, rfl⟩; skip)
                  refine hK.out _ _ hd.out (fun _ => ?_)
                  clear hK K
                  refine takeD (i := 39) (d := 129) (v := .bool false) rfl rfl (by kernel_rfl) (by kernel_rfl) (by kernel_rfl) (fun _ _ _ h => h) (Or.inl ⟨by rfl, by intro W hW; clear hW; go_simp⟩) hd.out ?_
                  simp only [List.setIfInBounds_toArray, List.set_cons_zero, List.set_cons_succ]
                  refine takeD (i := 40) (d := 130) (v := .bool false) rfl rfl (by kernel_rfl) (by kernel_rfl) (by kernel_rfl) (fun _ _ _ h => h) (Or.inl ⟨by rfl, by intro W hW; clear hW; go_simp⟩) hd.out ?_
                  simp only [List.setIfInBounds_toArray, List.set_cons_zero, List.set_cons_succ]
                  refine wpAnyH_done (by kernel_rfl) ?_ _
                  clear hneR hguR hneK hguK
                  obtain ⟨w9, hw9⟩ : ∃ w9, World.drew w8 = w9 := ⟨_, rfl⟩
                  rw [hw9]
                  have hb9 : Hid (Below w8.heap.size w8 w9) := Lib.hid (by rw [← hw9]; exact below_drewN (Below.refl _ _) 1)
                  have hT9 := Lib.hid (hT8.out.below hb9.out)
                  have hM9 : Hid (w9.heap[M]? = some (.cells (encR x).toArray 61 (0, 0))) := Lib.hid ((hb9.out.block M hMl.out).trans hM8.out)
                  have ho9 := Lib.hid (ho8.out.below hb9.out fun j hj => (ho8.out.lt j hj).2)
                  have cM9 : w9.cell? ⟨M, 0, none⟩ = some (.string x.1) := cell_blk hM9.out rfl
                  have hNx9 := Lib.hid (hNx.out w9 k x hpx.out hT9.out)
                  obtain ⟨R, hR9⟩ : ∃ R, Hid (∀ _ : Unit, (p[k + 1]?.getD rZ) = R) := ⟨_, Lib.hid fun _ => rfl⟩
                  have hok9 : Hid ((p[k + 1]?).isSome = decide (k + 1 < n)) := Lib.hid (by
                    by_cases h : k + 1 < n
                    · rw [List.getElem?_eq_getElem (by have := hpn.out; omega), decide_eq_true h]; rfl
                    · rw [List.getElem?_eq_none (by have := hpn.out; omega), decide_eq_false h]; rfl)
                  rw [hR9.out (), hok9.out] at hNx9
                  clear hw9
                  go_wp2_with (first
                    | (go_at_call 25
                       refine hNx9.out.mono ?_
                       rintro e w10 ⟨rfl, hb⟩
                       have hT10 := Lib.hid (hT9.out.below hb)
                       have hM10 : Hid (w10.heap[M]? = some (.cells (encR x).toArray 61 (0, 0))) := Lib.hid ((hb.block M (Nat.lt_of_lt_of_le hMl.out hb9.out.size)).trans hM9.out)
                       have ho10 := Lib.hid (ho9.out.below hb fun j hj => (ho9.out.lt j hj).2)
                       clear hb)
                    | (refine wpList_store_row rfl 61 _ _ rfl M (encR R).toArray rfl rfl 61 _ hM10.out (by rw [a33.out]; exact hi33.out) (by simp only [a33.out]) (oneR.out _) ?_))
                  go_roundw
                  case rel =>
                    refine ⟨k + 1, by omega, by go_num, rfl, Lib.hid (hT10.out.row hM10.out hMB.out), Lib.hid (ho10.out.same fun j hj => setRow_other _ _ _ _ (by have := hMn.out j hj; omega)), Lib.hid ?_⟩
                    rw [hR9.out ()]
                    exact setRow_heap _ _ _ _ _ _ hM10.out
                  case measure => simp [intOf]; omega
                · obtain ⟨k1, hk1⟩ : ∃ k1 : Nat, (k : Int) - 1 = (k1 : Int) ∧ k = k1 + 1 := ⟨k - 1, by omega, by omega⟩
                  obtain ⟨hk1, hk2⟩ := hk1
                  obtain ⟨y, hy⟩ : ∃ y, p[k1]? = some y := ⟨_, List.getElem?_eq_getElem (by have := hpn.out; omega)⟩
                  obtain ⟨b4, off4, e4, hb4, hrg4⟩ := RowR.range (RowR.of_own (by rw [hpn.out]; exact ho8.out)) hy
                  cases e4
                  have hcY : Hid (∀ W, Below w8.heap.size w8 W → W.cell? ⟨b3, off3 + k1 * 33, none⟩ = some (.string y.1)) := Lib.hid fun W hW => by simpa using (range_below hb4 hrg4 hW) 0 _ (show (encR y)[0]? = some (.string y.1) from rfl)
                  have hless : Op.bytesLess y.1.toList x.1.toList = true := rise_at hpok.out.1 (by omega : k1 < k) hy hpx.out
                  have hk0h := Lib.hid (by omega : 0 < k)
                  have wk1 : IntKind.i64.wrap (k1 : Int) = (k1 : Int) := by rw [IntKind.wrap_i64]; omega
                  have gk1 : (0 : Int) ≤ (k1 : Int) := by omega
                  have gk2 : (k1 : Int) < (n : Int) := by omega
                  clear hk0 hk2 hy hb4 hrg4
                  have hd : Hid (Below w8.heap.size w8 (World.drew w8)) := Lib.hid (below_drewN (Below.refl _ _) 1)
                  refine wp_region_held (S := fun W => Below w8.heap.size w8 W) (by kernel_rfl) ?_
                  change wpAnyH _ _ _ _ _ _ _ _ (World.drew _)
                  refine takeD (i := 0) (d := 90) (v := .bool true) rfl rfl (by kernel_rfl) (by kernel_rfl) (by kernel_rfl) (fun _ _ _ h => h) (Or.inl ⟨by rfl, by intro W hW; clear hW; go_simp⟩) hd.out ?_
                  simp only [List.setIfInBounds_toArray, List.set_cons_zero, List.set_cons_succ]
                  refine takeD (i := 1) (d := 91) (v := .bool false) rfl rfl (by kernel_rfl) (by kernel_rfl) (by kernel_rfl) (fun _ _ _ h => h) (Or.inl ⟨by rfl, by intro W hW; clear hW; go_simp⟩) hd.out ?_
                  simp only [List.setIfInBounds_toArray, List.set_cons_zero, List.set_cons_succ]
                  refine takeD (i := 2) (d := 92) (v := .bool false) rfl rfl (by kernel_rfl) (by kernel_rfl) (by kernel_rfl) (fun _ _ _ h => h) (Or.inl ⟨by rfl, by intro W hW; clear hW; go_simp⟩) hd.out ?_
                  simp only [List.setIfInBounds_toArray, List.set_cons_zero, List.set_cons_succ]
                  refine takeD (i := 3) (d := 93) rfl rfl (by kernel_rfl) (by kernel_rfl) (by kernel_rfl) (fun _ _ _ h => h) (yieldsIf_load_mid (by rfl) 61 _ rfl M 0 rfl (encR x) _ hrM.out Try.underlying61 rfl (by rw [l33.out]; exact hi33.out)) hd.out ?_
                  simp only [List.setIfInBounds_toArray, List.set_cons_zero, List.set_cons_succ]
                  refine takeD (i := 4) (d := 94) (v := .slice (some ⟨b3, off3, none⟩) n c3) rfl rfl (by kernel_rfl) (by kernel_rfl) (by kernel_rfl) (fun _ _ _ h => h) (Or.inl ⟨by rfl, by intro W hW; clear hW; go_simp⟩) hd.out ?_
                  simp only [List.setIfInBounds_toArray, List.set_cons_zero, List.set_cons_succ]
                  refine takeD (i := 5) (d := 95) (v := .int .i64 (k : Int)) rfl rfl (by kernel_rfl) (by kernel_rfl) (by kernel_rfl) (fun _ _ _ h => h) (Or.inl ⟨by rfl, by intro W hW; clear hW; go_simp⟩) hd.out ?_
                  simp only [List.setIfInBounds_toArray, List.set_cons_zero, List.set_cons_succ]
                  refine takeD (i := 6) (d := 96) (v := .pointer (some ⟨b3, off3 + k * 33, none⟩)) rfl rfl (by kernel_rfl) (by kernel_rfl) (by kernel_rfl) (fun _ _ _ h => h) (Or.inl ⟨by rfl, by intro W hW; clear hW; go_simp⟩) hd.out ?_
                  simp only [List.setIfInBounds_toArray, List.set_cons_zero, List.set_cons_succ]
                  refine takeD (i := 7) (d := 97) rfl rfl (by kernel_rfl) (by kernel_rfl) (by kernel_rfl) (fun _ _ _ h => h) (yieldsIf_load_mid (by rfl) 61 _ rfl b3 (off3 + k * 33) rfl (encR x) _ hrX.out Try.underlying61 rfl (by rw [l33.out]; exact hi33.out)) hd.out ?_
                  simp only [List.setIfInBounds_toArray, List.set_cons_zero, List.set_cons_succ]
                  refine takeD (i := 8) (d := 98) (v := .bool false) rfl rfl (by kernel_rfl) (by kernel_rfl) (by kernel_rfl) (fun _ _ _ h => h) (Or.inl ⟨by rfl, by intro W hW; clear hW; go_simp⟩) hd.out ?_
                  simp only [List.setIfInBounds_toArray, List.set_cons_zero, List.set_cons_succ]
                  refine takeD (i := 9) (d := 99) (v := .bool false) rfl rfl (by kernel_rfl) (by kernel_rfl) (by kernel_rfl) (fun _ _ _ h => h) (Or.inl ⟨by rfl, by intro W hW; clear hW; go_simp⟩) hd.out ?_
                  simp only [List.setIfInBounds_toArray, List.set_cons_zero, List.set_cons_succ]
                  refine takeD (i := 10) (d := 100) (v := .bool false) rfl rfl (by kernel_rfl) (by kernel_rfl) (by kernel_rfl) (fun _ _ _ h => h) (Or.inl ⟨by rfl, by intro W hW; clear hW; go_simp⟩) hd.out ?_
                  simp only [List.setIfInBounds_toArray, List.set_cons_zero, List.set_cons_succ]
                  refine takeD (i := 11) (d := 101) (v := .int .i64 0) rfl rfl (by kernel_rfl) (by kernel_rfl) (by kernel_rfl) (fun _ _ _ h => h) (Or.inl ⟨by rfl, by intro W hW; clear hW; go_simp⟩) hd.out ?_
                  simp only [List.setIfInBounds_toArray, List.set_cons_zero, List.set_cons_succ]
                  refine takeD (i := 12) (d := 102) (v := .bool false) rfl rfl (by kernel_rfl) (by kernel_rfl) (by kernel_rfl) (fun _ _ _ h => h) (Or.inl ⟨by rfl, by intro W hW; clear hW; go_simp⟩) hd.out ?_
                  simp only [List.setIfInBounds_toArray, List.set_cons_zero, List.set_cons_succ]
                  refine takeD (i := 13) (d := 103) (v := .bool false) rfl rfl (by kernel_rfl) (by kernel_rfl) (by kernel_rfl) (fun _ _ _ h => h) (Or.inl ⟨by rfl, by intro W hW; clear hW; go_simp⟩) hd.out ?_
                  simp only [List.setIfInBounds_toArray, List.set_cons_zero, List.set_cons_succ]
                  refine takeD (i := 14) (d := 104) (v := .bool false) rfl rfl (by kernel_rfl) (by kernel_rfl) (by kernel_rfl) (fun _ _ _ h => h) (Or.inl ⟨by rfl, by intro W hW; clear hW; go_simp⟩) hd.out ?_
                  simp only [List.setIfInBounds_toArray, List.set_cons_zero, List.set_cons_succ]
                  refine takeD (i := 15) (d := 105) rfl rfl (by kernel_rfl) (by kernel_rfl) (by kernel_rfl) (fun _ _ _ h => h) (yieldsIf_load_mid (by rfl) 35 _ rfl Mk 0 rfl (encKy x.2) _ hrK.out Try.underlying35 rfl (by rw [l32.out]; exact hi32.out)) hd.out ?_
                  simp only [List.setIfInBounds_toArray, List.set_cons_zero, List.set_cons_succ]
                  refine takeD (i := 16) (d := 106) (v := .pointer (some ⟨M, 1, none⟩)) rfl rfl (by kernel_rfl) (by kernel_rfl) (by kernel_rfl) (fun _ _ _ h => h) (Or.inl ⟨by rfl, by intro W hW; clear hW; go_simp⟩) hd.out ?_
                  simp only [List.setIfInBounds_toArray, List.set_cons_zero, List.set_cons_succ]
                  refine takeD (i := 17) (d := 107) rfl rfl (by kernel_rfl) (by kernel_rfl) (by kernel_rfl) (fun _ _ _ h => h) (yieldsIf_load_mid (by rfl) 35 _ rfl M 1 rfl (encKy x.2) _ hrMk.out Try.underlying35 rfl (by rw [l32.out]; exact hi32.out)) hd.out ?_
                  simp only [List.setIfInBounds_toArray, List.set_cons_zero, List.set_cons_succ]
                  refine takeD (i := 18) (d := 108) (v := .bool false) rfl rfl (by kernel_rfl) (by kernel_rfl) (by kernel_rfl) (fun _ _ _ h => h) (Or.inl ⟨by rfl, by intro W hW; clear hW; go_simp⟩) hd.out ?_
                  simp only [List.setIfInBounds_toArray, List.set_cons_zero, List.set_cons_succ]
                  refine takeD (i := 19) (d := 109) (v := .bool false) rfl rfl (by kernel_rfl) (by kernel_rfl) (by kernel_rfl) (fun _ _ _ h => h) (Or.inl ⟨by rfl, by intro W hW; clear hW; go_simp⟩) hd.out ?_
                  simp only [List.setIfInBounds_toArray, List.set_cons_zero, List.set_cons_succ]
                  refine takeD (i := 20) (d := 110) (v := .bool false) rfl rfl (by kernel_rfl) (by kernel_rfl) (by kernel_rfl) (fun _ _ _ h => h) (Or.inl ⟨by rfl, by intro W hW; clear hW; go_simp⟩) hd.out ?_
                  simp only [List.setIfInBounds_toArray, List.set_cons_zero, List.set_cons_succ]
                  refine takeD (i := 21) (d := 111) (v := .int .i64 (k : Int)) rfl rfl (by kernel_rfl) (by kernel_rfl) (by kernel_rfl) (fun _ _ _ h => h) (Or.inl ⟨by rfl, by intro W hW; clear hW; go_simp⟩) hd.out ?_
                  simp only [List.setIfInBounds_toArray, List.set_cons_zero, List.set_cons_succ]
                  refine takeD (i := 22) (d := 112) (v := .bool true) rfl rfl (by kernel_rfl) (by kernel_rfl) (by kernel_rfl) (fun _ _ _ h => h) (Or.inl ⟨by rfl, by intro W hW; have kk := hk0h.out; clear hW; go_simp⟩) hd.out ?_
                  simp only [List.setIfInBounds_toArray, List.set_cons_zero, List.set_cons_succ]
                  refine takeD (i := 23) (d := 113) (v := .bool true) rfl rfl (by kernel_rfl) (by kernel_rfl) (by kernel_rfl) (fun _ _ _ h => h) (Or.inl ⟨by rfl, by intro W hW; clear hW; go_simp⟩) hd.out ?_
                  simp only [List.setIfInBounds_toArray, List.set_cons_zero, List.set_cons_succ]
                  refine takeD (i := 24) (d := 114) (v := .slice (some ⟨b3, off3, none⟩) n c3) rfl rfl (by kernel_rfl) (by kernel_rfl) (by kernel_rfl) (fun _ _ _ h => h) (Or.inl ⟨by rfl, by intro W hW; clear hW; go_simp⟩) hd.out ?_
                  simp only [List.setIfInBounds_toArray, List.set_cons_zero, List.set_cons_succ]
                  refine takeD (i := 25) (d := 115) (v := .int .i64 (k : Int)) rfl rfl (by kernel_rfl) (by kernel_rfl) (by kernel_rfl) (fun _ _ _ h => h) (Or.inl ⟨by rfl, by intro W hW; clear hW; go_simp⟩) hd.out ?_
                  simp only [List.setIfInBounds_toArray, List.set_cons_zero, List.set_cons_succ]
                  refine takeD (i := 26) (d := 116) (v := .int .i64 (k1 : Int)) rfl rfl (by kernel_rfl) (by kernel_rfl) (by kernel_rfl) (fun _ _ _ h => h) (Or.inl ⟨by rfl, by intro W hW; clear hW; go_simp⟩) hd.out ?_
                  simp only [List.setIfInBounds_toArray, List.set_cons_zero, List.set_cons_succ]
                  refine takeD (i := 27) (d := 117) (v := .pointer (some ⟨b3, off3 + k1 * 33, none⟩)) rfl rfl (by kernel_rfl) (by kernel_rfl) (by kernel_rfl) (fun _ _ _ h => h) (Or.inl ⟨by rfl, by intro W hW; clear hW; go_simp⟩) hd.out ?_
                  simp only [List.setIfInBounds_toArray, List.set_cons_zero, List.set_cons_succ]
                  refine takeD (i := 28) (d := 118) (v := .pointer (some ⟨b3, off3 + k1 * 33, none⟩)) rfl rfl (by kernel_rfl) (by kernel_rfl) (by kernel_rfl) (fun _ _ _ h => h) (Or.inl ⟨by rfl, by intro W hW; clear hW; go_simp⟩) hd.out ?_
                  simp only [List.setIfInBounds_toArray, List.set_cons_zero, List.set_cons_succ]
                  refine takeD (i := 29) (d := 119) (v := .string y.1) rfl rfl (by kernel_rfl) (by kernel_rfl) (by kernel_rfl) (fun _ _ _ h => h) (Or.inl ⟨by rfl, by intro W hW; have cc := hcY.out W hW; clear hW; go_simp⟩) hd.out ?_
                  simp only [List.setIfInBounds_toArray, List.set_cons_zero, List.set_cons_succ]
                  refine takeD (i := 30) (d := 120) (v := .pointer (some ⟨M, 0, none⟩)) rfl rfl (by kernel_rfl) (by kernel_rfl) (by kernel_rfl) (fun _ _ _ h => h) (Or.inl ⟨by rfl, by intro W hW; clear hW; go_simp⟩) hd.out ?_
                  simp only [List.setIfInBounds_toArray, List.set_cons_zero, List.set_cons_succ]
                  refine takeD (i := 31) (d := 121) (v := .string x.1) rfl rfl (by kernel_rfl) (by kernel_rfl) (by kernel_rfl) (fun _ _ _ h => h) (Or.inl ⟨by rfl, by intro W hW; have cc := hcM.out W hW; clear hW; go_simp⟩) hd.out ?_
                  simp only [List.setIfInBounds_toArray, List.set_cons_zero, List.set_cons_succ]
                  refine takeD (i := 32) (d := 122) (v := .bool false) rfl rfl (by kernel_rfl) (by kernel_rfl) (by kernel_rfl) (fun _ _ _ h => h) (Or.inl ⟨by rfl, by intro W hW; clear hW; go_simp⟩) hd.out ?_
                  simp only [List.setIfInBounds_toArray, List.set_cons_zero, List.set_cons_succ]
                  refine takeD (i := 33) (d := 123) (v := .bool false) rfl rfl (by kernel_rfl) (by kernel_rfl) (by kernel_rfl) (fun _ _ _ h => h) (Or.inl ⟨by rfl, by intro W hW; clear hW; go_simp⟩) hd.out ?_
                  simp only [List.setIfInBounds_toArray, List.set_cons_zero, List.set_cons_succ]
                  refine takeD (i := 34) (d := 124) (v := .bool false) rfl rfl (by kernel_rfl) (by kernel_rfl) (by kernel_rfl) (fun _ _ _ h => h) (Or.inl ⟨by rfl, by intro W hW; clear hW; go_simp⟩) hd.out ?_
                  simp only [List.setIfInBounds_toArray, List.set_cons_zero, List.set_cons_succ]
                  refine takeD (i := 35) (d := 125) (v := .bool false) rfl rfl (by kernel_rfl) (by kernel_rfl) (by kernel_rfl) (fun _ _ _ h => h) (Or.inl ⟨by rfl, by intro W hW; clear hW; go_simp⟩) hd.out ?_
                  simp only [List.setIfInBounds_toArray, List.set_cons_zero, List.set_cons_succ]
                  refine takeD (i := 36) (d := 126) (v := .pointer (some ⟨M, 0, none⟩)) rfl rfl (by kernel_rfl) (by kernel_rfl) (by kernel_rfl) (fun _ _ _ h => h) (Or.inl ⟨by rfl, by intro W hW; clear hW; go_simp⟩) hd.out ?_
                  simp only [List.setIfInBounds_toArray, List.set_cons_zero, List.set_cons_succ]
                  refine takeD (i := 37) (d := 127) (v := .string x.1) rfl rfl (by kernel_rfl) (by kernel_rfl) (by kernel_rfl) (fun _ _ _ h => h) (Or.inl ⟨by rfl, by intro W hW; have cc := hcM.out W hW; clear hW; go_simp⟩) hd.out ?_
                  simp only [List.setIfInBounds_toArray, List.set_cons_zero, List.set_cons_succ]
                  refine wpAnyH_ready (rs := [38]) (by kernel_rfl) (by simp) ?_
                  refine AllReadyH.cons rfl (fun K hK => ?_) AllReadyH.nil
                  go_simp
                  go_wp2_with (go_at_call 11; refine (hN.out _).mono ?_; rintro e v1 ⟨rfl, rfl⟩; skip)
                  refine hK.out _ _ hd.out (fun _ => ?_)
                  clear hK K
                  refine takeD (i := 39) (d := 129) (v := .bool false) rfl rfl (by kernel_rfl) (by kernel_rfl) (by kernel_rfl) (fun _ _ _ h => h) (Or.inl ⟨by rfl, by intro W hW; clear hW; go_simp⟩) hd.out ?_
                  simp only [List.setIfInBounds_toArray, List.set_cons_zero, List.set_cons_succ]
                  refine takeD (i := 40) (d := 130) (v := .bool false) rfl rfl (by kernel_rfl) (by kernel_rfl) (by kernel_rfl) (fun _ _ _ h => h) (Or.inl ⟨by rfl, by intro W hW; clear hW; go_simp⟩) hd.out ?_
                  simp only [List.setIfInBounds_toArray, List.set_cons_zero, List.set_cons_succ]
                  refine wpAnyH_done (by kernel_rfl) ?_ _
                  clear hneR hguR hneK hguK
                  obtain ⟨w9, hw9⟩ : ∃ w9, World.drew w8 = w9 := ⟨_, rfl⟩
                  rw [hw9]
                  have hb9 : Hid (Below w8.heap.size w8 w9) := Lib.hid (by rw [← hw9]; exact below_drewN (Below.refl _ _) 1)
                  have hT9 := Lib.hid (hT8.out.below hb9.out)
                  have hM9 : Hid (w9.heap[M]? = some (.cells (encR x).toArray 61 (0, 0))) := Lib.hid ((hb9.out.block M hMl.out).trans hM8.out)
                  have ho9 := Lib.hid (ho8.out.below hb9.out fun j hj => (ho8.out.lt j hj).2)
                  have cM9 : w9.cell? ⟨M, 0, none⟩ = some (.string x.1) := cell_blk hM9.out rfl
                  have hNx9 := Lib.hid (hNx.out w9 k x hpx.out hT9.out)
                  obtain ⟨R, hR9⟩ : ∃ R, Hid (∀ _ : Unit, (p[k + 1]?.getD rZ) = R) := ⟨_, Lib.hid fun _ => rfl⟩
                  have hok9 : Hid ((p[k + 1]?).isSome = decide (k + 1 < n)) := Lib.hid (by
                    by_cases h : k + 1 < n
                    · rw [List.getElem?_eq_getElem (by have := hpn.out; omega), decide_eq_true h]; rfl
                    · rw [List.getElem?_eq_none (by have := hpn.out; omega), decide_eq_false h]; rfl)
                  rw [hR9.out (), hok9.out] at hNx9
                  clear hw9
                  go_wp2_with (first
                    | (go_at_call 25
                       refine hNx9.out.mono ?_
                       rintro e w10 ⟨rfl, hb⟩
                       have hT10 := Lib.hid (hT9.out.below hb)
                       have hM10 : Hid (w10.heap[M]? = some (.cells (encR x).toArray 61 (0, 0))) := Lib.hid ((hb.block M (Nat.lt_of_lt_of_le hMl.out hb9.out.size)).trans hM9.out)
                       have ho10 := Lib.hid (ho9.out.below hb fun j hj => (ho9.out.lt j hj).2)
                       clear hb)
                    | (refine wpList_store_row rfl 61 _ _ rfl M (encR R).toArray rfl rfl 61 _ hM10.out (by rw [a33.out]; exact hi33.out) (by simp only [a33.out]) (oneR.out _) ?_))
                  go_roundw
                  case rel =>
                    refine ⟨k + 1, by omega, by go_num, rfl, Lib.hid (hT10.out.row hM10.out hMB.out), Lib.hid (ho10.out.same fun j hj => setRow_other _ _ _ _ (by have := hMn.out j hj; omega)), Lib.hid ?_⟩
                    rw [hR9.out ()]
                    exact setRow_heap _ _ _ _ _ _ hM10.out
                  case measure => simp [intOf]; omega
              · have glt : ¬ ((k : Int) < (n : Int)) := by omega
                have hx33 : p[k]?.getD rZ = rZ := by rw [List.getElem?_eq_none (by have := hpn.out; omega)]; rfl
                rw [hx33] at hMr
                rw [decide_eq_false hkn]
                have heR := eqR
                have hgR := guR
                go_wp2_with (refine wpList_loadg (by rfl) 61 _ rfl M 0 rfl (encR rZ) _ (range_blk hMr.out) Try.underlying61 rfl (by rw [l33.out]; exact hi33.out) ?_)
                go_ret
                exact ⟨rfl, hb0.out.trans (hTr.out.lo.mono hb0.out.size)⟩
  · rw [decide_eq_false hq] at hsm
    clear hq hl hs hR hS ht
    go_enter Try.func8, Try.ntmps8
    go_wp2_with (first
      | (refine wpList_load_mid rfl 27 _ rfl w.heap.size 0 rfl [Value.bool b, .slice A1 n1 c1, .slice A2 n2 c2] _ (hrow.out _ (Below.refl _ _)) Try.underlying27 rfl hi3.out ?_)
      | (go_at_call 12; refine (hsm.out _).mono ?_; rintro e w1 ⟨rfl, hb⟩; have hb1 := Lib.hid hb; clear hb))
    go_ret
    exact ⟨rfl, hb0.out.trans (hb1.out.mono hb0.out.size)⟩
end Go.Proofs.Ytakcnkmlglkkpaa

namespace Go.Proofs.Ytakcnkmlglkkpaa
open Go.RowKit

theorem rootsSteps_calls {H : Type} {enc : TypeId × Value → H} (W : World) (base : Nat) (v0 : Value) (d0 : DataW H) (p0 : List MemPlace)
    (o0 : Value.okWide Try.prog W .any base 27 v0) (h0 : DataW.Trod enc Try.prog W 0 (fun _ => true) true 27 v0 d0 p0)
    (hsz : (DataW.weightsEach Try.prog [27] [d0]).all (· ≤ reachBytes) = true) :
    Calls Try.prog 8 #[v0] W fun e W' => e = .returned (.bool true) ∧ Below W.heap.size W W' := by
  obtain ⟨b, l, ss, A1, A2, c1, c2, rfl, r1, r2, ht⟩ := script_open W base v0 d0 p0 o0 h0 (jj := 0) hsz rfl rfl
  exact steps_any W b l ss A1 _ c1 A2 _ c2 rfl rfl r1 r2 ht
end Go.Proofs.Ytakcnkmlglkkpaa

/- What the laws lean on: plain words; roots and keys compared. No table: a nil one, a zero one: what is asked of it. What asked answers of no table. zip, kind by kind. (Printed by tools/genask.py.) zip, kind by kind. (Printed by tools/genask.py.) zip, kind by kind. (Printed by tools/genask.py.) zip, kind by kind. (Printed by tools/genask.py.) -/
import Derived.Test.YtakcnkmlglkkpaaPkR39

namespace Go.Proofs.Ytakcnkmlglkkpaa
open Go.RowKit
set_option linter.unusedSimpArgs false
set_option linter.unusedVariables false
open Classical

section
variable {P : Program} {ops : Array Oper} {rest : List Oper} {o : Oper} {a : Act} {w : World} {Q : Exit → Act → World → Prop}
/-- A guarded load of a whole row, its guard met. -/
theorem wpList_loadg (hw : Region.wanted o (yielded ops a.tmps) = true) (ty : TypeId) (x : Operand) (ho : o.op = .load ty x)
    (b k : Nat) (hx : a.eval x = .pointer (some ⟨b, k, none⟩)) (cs : List Value) (d : TypeDesc) (hc : w.rangeAt b k cs)
    (hu : P.underlying ty = some d) (hd : d.isRow = true) (hi : (P.info? ty).map (·.size) = some cs.length)
    (h : wpList P ops Q rest (a.put o.dst (.agg cs.toArray)) w) : wpList P ops Q (o :: rest) a w :=
  wpList_step fun K hK => by
    rw [if_pos hw]
    exact wp_load_mid ty x ho b k hx cs d hc hu hd hi (hK _ _ h)
end
theorem equal_root (a b : RootT) (w : World) : (Op.equalIn 10000 61 (.agg (encR a).toArray) (.agg (encR b).toArray)).run Try.prog w = .ok (decide (a = b)) w := by
  have hS : Try.prog.underlying 61 = some (.struct (Try.prog.fieldsOf 61)) := by kernel_rfl
  have hp : Try.prog.stoodInHeld 61 = false := by kernel_rfl
  have h1 : ∀ x : RootT, (part 9 (encR x).toArray 0).run Try.prog w = .ok (.string x.1) w := fun x => run_part_plain w (by kernel_rfl) (by simp [encR])
  have h2 : ∀ x : RootT, ((encR x).drop 1).take 32 = encKy x.2 := fun x => by
    have : (encR x).drop 1 = encKy x.2 := rfl
    rw [this]
    exact List.take_of_length_le (by rw [encKy_length]; decide)
  rw [show (10000 : Nat) = 9999 + 1 from rfl, run_equalIn_agg w 9999 _ _ _ hS hp]
  simp only [Program.fieldsOf, Try.underlying61, Op.eqFields]
  have hs : (Op.equalIn 9999 9 (.string a.1) (.string b.1)).run Try.prog w = .ok (a.1.toList == b.1.toList) w := run_equalIn_string w 9998 9 _ _ Try.underlying9
  have hk := equal_key 9997 a.2 b.2 w
  rw [if_pos (by decide : "Name" ≠ "_"), if_pos (by decide : "Key" ≠ "_")]
  have e1 : decide (a = b) = (decide (a.1 = b.1) && decide (a.2 = b.2)) := by
    obtain ⟨a1, a2⟩ := a
    obtain ⟨b1, b2⟩ := b
    simp
  rw [e1]
  rw [bytes_eq] at hs
  generalize decide (a.1 = b.1) = B1 at hs ⊢
  generalize decide (a.2 = b.2) = B2 at hk ⊢
  simp only [Sem.run_bind, h1, hs, Result.andThen_ok]
  cases B1
  · simp
  · simp only [Bool.not_true, Bool.false_eq_true, if_false, Sem.run_bind, part_key, h2, hk, Result.andThen_ok]
    cases B2 <;> simp
theorem neR (a b : RootT) (w : World) : (binOp .neq 61 (.agg (encR a).toArray) (.agg (encR b).toArray)).run Try.prog w = .ok (.bool (!decide (a = b))) w := by
  rw [run_neq_struct, equal_root]
  rfl
theorem eqR (a b : RootT) (w : World) : (binOp .eql 61 (.agg (encR a).toArray) (.agg (encR b).toArray)).run Try.prog w = .ok (.bool (decide (a = b))) w := by
  rw [run_eql_struct, equal_root]
  rfl
theorem guR (op : BinOp) (x y : Operand) (a b : Array Value) (w : World) : (eqGuard op 61 x y (.agg a) (.agg b)).run Try.prog w = .ok () w := run_eqGuard_agg w op _ x y a b (by kernel_rfl)
theorem eqKy (a b : RKey) (w : World) : (binOp .eql 35 (.agg (encKy a).toArray) (.agg (encKy b).toArray)).run Try.prog w = .ok (.bool (decide (a = b))) w := by
  have := equal_key 9998 a b w
  rw [run_eql_struct, this]
  rfl
theorem next_head (l : List RootT) (s : ByteArray) : nextQ l s true = l[0]? := by
  cases l with
  | nil => rfl
  | cons x l => simp [nextQ]
theorem next_step : ∀ (l : List RootT) (k : Nat) (x : RootT), Rise l → l[k]? = some x → nextQ l x.1 false = l[k + 1]?
  | [], k, x, _, h => by simp at h
  | y :: l, 0, x, hr, h => by
    obtain rfl : y = x := by simpa using h
    have h0 : ltS y.1 y.1 = false := ltS_irrefl _
    cases l with
    | nil => simp [nextQ, h0]
    | cons z l =>
      have h1 := hr.1 z (by simp)
      simp [nextQ, h0, h1]
  | y :: l, k + 1, x, hr, h => by
    have hx : l[k]? = some x := by simpa using h
    have h1 := ltS_asymm (hr.1 x (List.mem_of_getElem? hx))
    have ih := next_step l k x hr.2 hx
    simp only [nextQ, Bool.false_or] at ih ⊢
    rw [List.find?_cons_of_neg (by simp [h1]), ih]
    simp
theorem getQ_at {l : List RootT} {k : Nat} {x : RootT} (h : okL l) (hx : l[k]? = some x) : getQ l x.1 = (x.2, 0) := by
  have hm := List.mem_of_getElem? hx
  unfold getQ
  rw [if_pos (h.2 x hm), keyL_some h.1 hm rfl]
theorem rise_at {l : List RootT} (h : Rise l) {i k : Nat} {x y : RootT} (hik : i < k) (hx : l[i]? = some x) (hy : l[k]? = some y) : ltS x.1 y.1 = true := by
  obtain ⟨hi, rfl⟩ := List.getElem?_eq_some_iff.1 hx
  have e : l = l.take (i + 1) ++ l.drop (i + 1) := (List.take_append_drop _ _).symm
  rw [e] at h
  refine ((rise_app _ _).1 h).2.2 _ ?_ y ?_
  · exact List.mem_of_getElem? (i := i) (by rw [List.getElem?_take, if_pos (by omega)]; exact List.getElem?_eq_getElem hi)
  · exact List.mem_of_getElem? (i := k - (i + 1)) (by rw [List.getElem?_drop, show i + 1 + (k - (i + 1)) = k by omega]; exact hy)
theorem present_snoc (L : Lists) (l : List RootT) : present (L ++ [l]) = l := by
  unfold present
  simp
theorem setL_pos (r : RootT) (l : List RootT) : 0 < (setL r l).length := by
  cases l with
  | nil => simp [setL]
  | cons x l =>
    unfold setL
    split
    · simp
    · split <;> simp
section
variable {w0 W W' : World} {g : Nat} {L : Lists}
theorem set_one (h : One w0 W g L) (hm : L.length < 100000) (s : ByteArray) (k : RKey) :
    Calls Try.prog 20 #[.pointer (some ⟨g, 0, none⟩), .string s, .agg (encKy k).toArray] W fun e w' => e = .returned (.int .i64 (setQ (present L) s : Nat)) ∧ One w0 w' g (if setQ (present L) s = 0 then L ++ [setL (s, k) (present L)] else L) ∧ Gro (fun j => Tch W j ∧ w0.heap.size ≤ j) W w' := by
  obtain ⟨lo, A, t⟩ := h
  refine (set_any t hm s k).mono ?_
  rintro e w' ⟨h1, A', h2, h3, h4⟩
  have hg : Gro (fun j => Tch W j ∧ w0.heap.size ≤ j) W w' := h3.sub fun j hj => .inl ⟨t.tch j hj, by
    rcases hj with rfl | hj
    · exact t.gB.1
    · exact t.gB.2 j hj⟩
  exact ⟨h1, ⟨lo.trans (hg.below lo.size fun j hj => hj.2), A', h2⟩, hg⟩
theorem all_one (h : One w0 W g L) :
    Calls Try.prog 17 #[.pointer (some ⟨g, 0, none⟩)] W fun e w' => ∃ A' c', e = .returned (.slice A' (present L).length c') ∧ Own w' W.heap.size 61 33 A' (present L).length c' (rowsR (present L)) ∧ Below W.heap.size W w' := by
  obtain ⟨lo, A, t⟩ := h
  exact (allL_any t).mono fun e w' ⟨⟨A', c', h1, h2⟩, h3⟩ => ⟨A', c', h1, h2, h3⟩
theorem len_one (h : One w0 W g L) :
    Calls Try.prog 24 #[.pointer (some ⟨g, 0, none⟩)] W fun e w' => e = .returned (.int .i64 ((present L).length : Nat)) ∧ Below W.heap.size W w' := by
  obtain ⟨lo, A, t⟩ := h
  exact lenL_any t
theorem version_one (h : One w0 W g L) :
    Calls Try.prog 18 #[.pointer (some ⟨g, 0, none⟩)] W fun e w' => e = .returned (.int .u64 (L.length - 1 : Nat)) ∧ Below W.heap.size W w' := by
  obtain ⟨lo, A, t⟩ := h
  exact versionL_any t
theorem next_one (h : One w0 W g L) (s : ByteArray) (a : Bool) :
    Calls Try.prog 25 #[.pointer (some ⟨g, 0, none⟩), .string s, .bool a] W fun e w' => e = .returned (.tuple #[.agg (encR ((nextQ (present L) s a).getD rZ)).toArray, .bool (nextQ (present L) s a).isSome]) ∧ Below W.heap.size W w' := by
  obtain ⟨lo, A, t⟩ := h
  rw [← nxtV_get]
  exact nextL_any t s a
theorem get_one (h : One w0 W g L) (s : ByteArray) :
    Calls Try.prog 26 #[.pointer (some ⟨g, 0, none⟩), .string s] W fun e w' => e = .returned (.tuple #[.agg (encKy (getQ (present L) s).1).toArray, .int .i64 ((getQ (present L) s).2 : Nat)]) ∧ Below W.heap.size W w' := by
  obtain ⟨lo, A, t⟩ := h
  exact getL_any t s
theorem at_one (h : One w0 W g L) (v : Nat) {l : List RootT} (hl : L[v]? = some l) :
    Calls Try.prog 19 #[.pointer (some ⟨g, 0, none⟩), .int .u64 (v : Int)] W fun e w' => ∃ A' c', e = .returned (.tuple #[.slice A' l.length c', .int .i64 0]) ∧ Own w' W.heap.size 61 33 A' l.length c' (rowsR l) ∧ Below W.heap.size W w' := by
  obtain ⟨lo, A, t⟩ := h
  refine (atL_any t v).mono ?_
  rintro e w' ⟨h1 | h1, h2⟩
  · obtain ⟨l', A', c', h3, h4, h5⟩ := h1
    rw [hl] at h3
    cases h3
    exact ⟨A', c', h4, h5, h2⟩
  · have := (List.getElem?_eq_some_iff.1 hl).1
    omega
theorem at_no (h : One w0 W g L) (v : Nat) (hv : L.length ≤ v) :
    Calls Try.prog 19 #[.pointer (some ⟨g, 0, none⟩), .int .u64 (v : Int)] W fun e w' => e = .returned (.tuple #[.slice none 0 0, .int .i64 133]) ∧ Below W.heap.size W w' := by
  obtain ⟨lo, A, t⟩ := h
  refine (atL_any t v).mono ?_
  rintro e w' ⟨h1 | h1, h2⟩
  · obtain ⟨l', A', c', h3, h4, h5⟩ := h1
    have := (List.getElem?_eq_some_iff.1 h3).1
    omega
  · exact ⟨h1.2, h2⟩
theorem turns_one (h : One w0 W g L) (u v : Nat) {a b : List RootT} (ha : L[u]? = some a) (hb : L[v]? = some b) :
    Calls Try.prog 22 #[.pointer (some ⟨g, 0, none⟩), .int .u64 (u : Int), .int .u64 (v : Int)] W fun e w' => ∃ A' c', e = .returned (.tuple #[.slice A' (mergeQ a b).length c', .int .i64 0]) ∧ Own w' W.heap.size 55 67 A' (mergeQ a b).length c' (rowsT (mergeQ a b)) ∧ Below W.heap.size W w' := by
  obtain ⟨lo, A, t⟩ := h
  refine (turns_any W t u v).mono ?_
  rintro e w' ⟨h1 | h1, h2⟩
  · obtain ⟨a', b', A', c', h3, h4, h5, h6⟩ := h1
    rw [ha] at h3
    rw [hb] at h4
    cases h3
    cases h4
    exact ⟨A', c', h5, h6, h2⟩
  · have := (List.getElem?_eq_some_iff.1 ha).1
    have := (List.getElem?_eq_some_iff.1 hb).1
    omega
end
end Go.Proofs.Ytakcnkmlglkkpaa

namespace Go.Proofs.Ytakcnkmlglkkpaa
open Go.RowKit
set_option linter.unusedSimpArgs false
set_option linter.unusedVariables false
open Classical

/-- No table: now says so in every world behind. -/
structure Zip (w : World) (P : Value) : Prop where
  now : ∀ W, Below w.heap.size w W → Calls Try.prog 44 #[P] W fun e w' => e = .returned (.tuple #[.pointer none, .bool false]) ∧ W = w'
theorem Zip.below {w W : World} {P : Value} (h : Zip w P) (hW : Below w.heap.size w W) : Zip W P := ⟨fun W' hW' => h.now W' (hW.trans (hW'.mono hW.size))⟩
set_option maxRecDepth 20000 in
theorem zip_nil (w : World) : Zip w (.pointer none) := ⟨fun W _ => by
  go_enter Try.func44, Try.ntmps44
  go_wp2_with fail
  go_ret2
  exact ⟨rfl, rfl⟩⟩
set_option maxRecDepth 20000 in
theorem zip_zero {w : World} {g : Nat} (hg : g < w.heap.size) (hc : w.cell? ⟨g, 0, none⟩ = some (.slice none 0 0)) : Zip w (.pointer (some ⟨g, 0, none⟩)) := ⟨fun W hW => by
  have c0 : W.cell? ⟨g, 0, none⟩ = some (.slice none 0 0) := (hW.cell (p := ⟨g, 0, none⟩) hg).trans hc
  clear hW hc
  go_enter Try.func44, Try.ntmps44
  go_wp2_with fail
  go_ret2
  exact ⟨rfl, rfl⟩⟩
section
variable {w : World} {P : Value}
set_option maxRecDepth 20000 in
theorem named_zip (h : Zip w P) (s : ByteArray) : Calls Try.prog 46 #[P, .string s] w fun e w' => e = .returned (.tuple #[.pointer none, .int .i64 1]) ∧ w = w' := by
  have hn := Lib.hid (h.now w (Below.refl _ _))
  clear h
  go_enter Try.func46, Try.ntmps46
  go_wp2_with (go_at_call 44; refine hn.out.mono ?_; rintro e w1 ⟨rfl, rfl⟩)
  go_ret2
  exact ⟨rfl, rfl⟩
set_option maxRecDepth 20000 in
theorem len_zip (h : Zip w P) : Calls Try.prog 24 #[P] w fun e w' => e = .returned (.int .i64 0) ∧ w = w' := by
  have hn := Lib.hid (h.now w (Below.refl _ _))
  have hc := Lib.hid (count_any w .nil (.pointer none) rfl)
  clear h
  go_enter Try.func24, Try.ntmps24
  go_wp2_with (first
    | (go_at_call 44; refine hn.out.mono ?_; rintro e w1 ⟨rfl, rfl⟩)
    | (go_at_call 47; refine hc.out.mono ?_; rintro e w2 ⟨rfl, rfl⟩))
  go_ret
  exact ⟨rfl, rfl⟩
set_option maxRecDepth 20000 in
theorem version_zip (h : Zip w P) : Calls Try.prog 18 #[P] w fun e w' => e = .returned (.int .u64 0) ∧ w = w' := by
  have hn := Lib.hid (h.now w (Below.refl _ _))
  clear h
  go_enter Try.func18, Try.ntmps18
  go_wp2_with (go_at_call 44; refine hn.out.mono ?_; rintro e w1 ⟨rfl, rfl⟩)
  go_ret
  exact ⟨rfl, rfl⟩
set_option maxRecDepth 20000 in
theorem all_zip (h : Zip w P) : Calls Try.prog 17 #[P] w fun e w' => (∃ A' c', e = .returned (.slice A' 0 c') ∧ Own w' w.heap.size 61 33 A' 0 c' []) ∧ Below w.heap.size w w' := by
  have hn := Lib.hid (h.now w (Below.refl _ _))
  have hc := Lib.hid (listed_any w .nil (.pointer none) rfl (by decide))
  clear h
  go_enter Try.func17, Try.ntmps17
  go_wp2_with (first
    | (go_at_call 44; refine hn.out.mono ?_; rintro e w1 ⟨rfl, rfl⟩)
    | (go_at_call 45; refine hc.out.mono ?_; rintro e w2 ⟨⟨A', c', rfl, o2⟩, b2⟩; have o2' := Lib.hid o2; have b2' := Lib.hid b2; clear o2 b2))
  go_ret
  exact ⟨⟨A', c', rfl, o2'.out⟩, b2'.out⟩
set_option maxRecDepth 20000 in
theorem at_zip (h : Zip w P) (v : Nat) : Calls Try.prog 19 #[P, .int .u64 (v : Int)] w fun e w' => e = .returned (.tuple #[.slice none 0 0, .int .i64 1]) ∧ w = w' := by
  have hn := Lib.hid (h.now w (Below.refl _ _))
  clear h
  go_enter Try.func19, Try.ntmps19
  go_wp2_with (go_at_call 44; refine hn.out.mono ?_; rintro e w1 ⟨rfl, rfl⟩)
  go_ret2
  exact ⟨rfl, rfl⟩
set_option maxRecDepth 20000 in
theorem turns_zip (h : Zip w P) (u v : Nat) : Calls Try.prog 22 #[P, .int .u64 (u : Int), .int .u64 (v : Int)] w fun e w' => e = .returned (.tuple #[.slice none 0 0, .int .i64 1]) ∧ w = w' := by
  have hn := Lib.hid (at_zip h u)
  clear h
  go_enter Try.func22, Try.ntmps22
  go_wp2_with (go_at_call 19; refine hn.out.mono ?_; rintro e w1 ⟨rfl, rfl⟩)
  go_ret2
  exact ⟨rfl, rfl⟩
set_option maxRecDepth 20000 in
theorem set_zip (h : Zip w P) (s : ByteArray) (k : RKey) : Calls Try.prog 20 #[P, .string s, .agg (encKy k).toArray] w fun e w' => e = .returned (.int .i64 1) ∧ Below w.heap.size w w' := by
  obtain ⟨w0, hw0⟩ : ∃ w0, w.alloc (.cells (encKy k).toArray 35) = w0 := ⟨_, rfl⟩
  have hb0 : Hid (Below w.heap.size w w0) := Lib.hid (by rw [← hw0]; exact (Below.refl _ _).alloc (Nat.le_refl _) _)
  have hn := Lib.hid (named_zip (h.below hb0.out) s)
  clear h
  go_enter Try.func20, Try.ntmps20
  go_wp2_with (go_at_call 46; refine hn.out.mono ?_; rintro e w1 ⟨rfl, rfl⟩)
  go_ret
  exact ⟨rfl, hb0.out⟩
set_option maxRecDepth 20000 in
theorem drop_zip (h : Zip w P) (s : ByteArray) : Calls Try.prog 28 #[P, .string s] w fun e w' => e = .returned (.int .i64 1) ∧ Below w.heap.size w w' := by
  have hn := Lib.hid (named_zip h s)
  clear h
  go_enter Try.func28, Try.ntmps28
  go_wp2_with (go_at_call 46; refine hn.out.mono ?_; rintro e w1 ⟨rfl, rfl⟩)
  go_ret
  exact ⟨rfl, Below.refl _ _⟩
set_option maxRecDepth 20000 in
theorem get_zip (h : Zip w P) (s : ByteArray) : Calls Try.prog 26 #[P, .string s] w fun e w' => e = .returned (.tuple #[.agg (encKy kZ).toArray, .int .i64 1]) ∧ Below w.heap.size w w' := by
  have hz := zeroKy
  have hbz := buildKy
  have hi32 : Hid ((Try.prog.info? 35).map (·.size) = some 32) := Lib.hid (by kernel_rfl)
  have a32 : Hid (∀ k : RKey, (encKy k).toArray.size = 32) := Lib.hid fun k => by simp [encKy_length]
  have hone := Lib.hid encKy_all
  obtain ⟨w0, hw0⟩ : ∃ w0, w.alloc (.cells (encKy kZ).toArray 35) = w0 := ⟨_, rfl⟩
  have hb0 : Hid (Below w.heap.size w w0) := Lib.hid (by rw [← hw0]; exact (Below.refl _ _).alloc (Nat.le_refl _) _)
  have hx0 : Hid (w0.heap[w.heap.size]? = some (.cells (encKy kZ).toArray 35 (0, 0))) := Lib.hid (by rw [← hw0]; exact heap_alloc_new w _)
  have hn := Lib.hid (named_zip (h.below hb0.out) s)
  clear h
  go_enter Try.func26, Try.ntmps26
  go_wp2_with (first
    | (go_at_call 46; refine hn.out.mono ?_; rintro e w1 ⟨rfl, rfl⟩)
    | (refine wpList_store_row rfl 35 _ _ rfl w.heap.size (encKy kZ).toArray rfl rfl 35 _ hx0.out (by rw [a32.out]; exact hi32.out) (by rw [a32.out]) (hone.out _) ?_))
  refine bodyPost_ret (results_row_tmp rfl _ _ w.heap.size 35 _ (0, 0) _ (.int .i64 1) rfl rfl (setRow_heap w0 _ _ _ _ _ hx0.out) Try.underlying35 rfl (by rw [a32.out]; exact hi32.out)) rfl ⟨rfl, setRow_bel hb0.out (Nat.le_refl _) _⟩
end
set_option maxRecDepth 100000 in
set_option maxHeartbeats 4000000 in
theorem next_zip (w : World) {P : Value} (hz0 : Zip w P) (s : ByteArray) (a : Bool) :
    Calls Try.prog 25 #[P, .string s, .bool a] w fun e w' => e = .returned (nxtV (nextQ (Tr.nil).list s a)) ∧ Below w.heap.size w w' := by
  have hz := zeroRt
  have hbz := buildRz
  have l33 : Hid (∀ r : RootT, (encR r).toArray.size = 33) := Lib.hid fun r => by simp [encR_length]
  have hi33 : Hid ((Try.prog.info? 61).map (·.size) = some 33) := Lib.hid (by kernel_rfl)
  have hone := Lib.hid encR_all
  obtain ⟨w0, hw0⟩ : ∃ w0, Hid (∀ _ : Unit, (((w.alloc (.cells #[.string s] 9)).alloc (.cells #[.bool a] 4)).alloc (.cells (encR rZ).toArray 61)).alloc (.cells #[.bool false] 4) = w0) := ⟨_, Lib.hid fun _ => rfl⟩
  have hB0 : Below w.heap.size w w0 := by rw [← hw0.out ()]; exact ((((Below.refl _ _).alloc (Nat.le_refl _) _).alloc (by simp) _).alloc (by simp; omega) _).alloc (by simp; omega) _
  have hs0 : w0.heap.size = w.heap.size + 4 := by rw [← hw0.out ()]; simp
  have x0 : w0.heap[w.heap.size]? = some (.cells #[.string s] 9 (0, 0)) := by
    rw [← hw0.out ()]
    exact (heap_alloc_old _ _ (by simp; omega)).trans ((heap_alloc_old _ _ (by simp; omega)).trans ((heap_alloc_old _ _ (by simp)).trans (heap_alloc_new w _)))
  have x1 : w0.heap[w.heap.size + 1]? = some (.cells #[.bool a] 4 (0, 0)) := by
    rw [← hw0.out ()]
    have := heap_alloc_new (w.alloc (.cells #[.string s] 9)) (.cells #[.bool a] 4)
    rw [World.size_alloc] at this
    exact (heap_alloc_old _ _ (by simp)).trans ((heap_alloc_old _ _ (by simp)).trans this)
  have x2 : w0.heap[w.heap.size + 2]? = some (.cells (encR rZ).toArray 61 (0, 0)) := by
    rw [← hw0.out ()]
    have := heap_alloc_new ((w.alloc (.cells #[.string s] 9)).alloc (.cells #[.bool a] 4)) (.cells (encR rZ).toArray 61)
    rw [World.size_alloc, World.size_alloc] at this
    exact (heap_alloc_old _ _ (by simp)).trans this
  have x3 : w0.heap[w.heap.size + 3]? = some (.cells #[.bool false] 4 (0, 0)) := by
    rw [← hw0.out ()]
    have := heap_alloc_new (((w.alloc (.cells #[.string s] 9)).alloc (.cells #[.bool a] 4)).alloc (.cells (encR rZ).toArray 61)) (.cells #[.bool false] 4)
    rw [World.size_alloc, World.size_alloc, World.size_alloc] at this
    exact this
  have hn : Hid (Calls Try.prog 44 #[P] w0 fun e w' => (∃ p, e = .returned (.tuple #[p, .bool false]) ∧ TreeAt w0 .nil p) ∧ ∃ m, w' = w0.drewN m) := Lib.hid ((hz0.now w0 hB0).mono fun e w' ⟨h1, h2⟩ => ⟨⟨_, h1, rfl⟩, 0, by rw [← h2]; rfl⟩)
  have hall := Lib.hid fun (W : World) (ad : Option Addr) => all_tree W ad
  refine calls_marks Try.func25 rfl ?_
  simp only [Try.ntmps25, List.size_toArray, List.length_cons, List.length_nil, Nat.reduceAdd, Nat.reduceSub, Array.replicate_succ, Array.replicate_zero, List.push_toArray, List.append_toArray, List.nil_append, List.cons_append]
  go_wp2_with fail
  rw [hw0.out ()]
  refine hn.out.mono ?_
  rintro e w1 ⟨⟨p, rfl, tp⟩, m, rfl⟩
  obtain ⟨ad, rfl⟩ := tp.ptr
  go_wp2_with (go_at_call 50; refine (hall.out _ _).mono ?_; rintro e w9 ⟨rfl, rfl⟩)
  obtain ⟨w2, hw2⟩ : ∃ w2, Hid (∀ _ : Unit, (w0.drewN m).alloc (.cells #[.pointer ad] 81) = w2) := ⟨_, Lib.hid fun _ => rfl⟩
  rw [hw2.out ()]
  have hb2 : Below w0.heap.size w0 w2 := by rw [← hw2.out ()]; exact (below_drewN (Below.refl _ _) m).alloc (Nat.le_refl _) _
  have hs2 : w2.heap.size = w.heap.size + 5 := by rw [← hw2.out ()]; simp; omega
  have y4 : w2.heap[w.heap.size + 4]? = some (.cells #[.pointer ad] 81 (0, 0)) := by
    rw [← hw2.out ()]
    have := heap_alloc_new (w0.drewN m) (.cells #[.pointer ad] 81)
    rwa [show (w0.drewN m).heap.size = w.heap.size + 4 from hs0] at this
  have y0 := (hb2.block _ (by omega)).trans x0
  have y1 := (hb2.block _ (by omega)).trans x1
  have y2 := (hb2.block _ (by omega)).trans x2
  have y3 := (hb2.block _ (by omega)).trans x3
  have hB2 := hB0.trans (hb2.mono hB0.size)
  have t2 := TreeAt.below hb2 _ _ tp
  have c4 : w2.cell? ⟨w.heap.size + 4, 0, none⟩ = some (.pointer ad) := by simp [World.cell?, y4]
  have hseq := all1_seq .nil (.pointer ad) (w.heap.size + 4) w2.heap.size (fun k => k < w2.heap.size) w2 (fun k hk => hk) (by omega) c4 t2 t2.blk_le
  have y0' := Lib.hid y0
  have y1' := Lib.hid y1
  have y2' := Lib.hid y2
  have y3' := Lib.hid y3
  have hB2' := Lib.hid hB2
  clear x0 x1 x2 x3 hn hall tp t2 c4 y0 y1 y2 y3 y4 hB2 hB0 hb2
  refine wp_rangeFunc (gf := 57) (lb := #[.pointer (some ⟨w.heap.size + 4, 0, none⟩)]) rfl (enters_of Try.func57 (by kernel_rfl) rfl) (encs := fun x : RootT => #[Value.agg (encR x).toArray]) (fun _ => rfl) (G := RtG (Tr.nil).list) (fun h => by rw [h.2]; exact Below.refl _ _)
    hseq (Mid.refl _ _) (fun k hk => hk)
    (fun pre W => nextQ pre s a = none ∧ Below w2.heap.size w2 W) (fun c _ W => NxX w (Tr.nil).list s a c W) ?_ ?_ ?_ ⟨rfl, Below.refl _ _⟩ ?_ ?_ ?_
  · rintro q W W' ⟨h1, h2⟩ hp
    exact ⟨h1, below_puts h2 hp (Nat.le_refl _)⟩
  · rintro c q W W' ⟨h1, r, h2, h3, h4, h5⟩ hp
    exact ⟨h1, r, h2, hp.cells _ _ _ _ h3, hp.cells _ _ _ _ h4, below_puts h5 hp (by omega)⟩
  · rintro q W W' ⟨h1, h2⟩ hb
    exact ⟨h1, h2.trans (hb.mono h2.size)⟩
  · rintro lp pre x W0 W1 hlp ⟨hq, hB⟩ hlt ⟨g1, rfl⟩
    exfalso
    have := g1.length_le
    simp [Tr.list] at this
  · rintro D xs W hD rfl ⟨hq, hB⟩ hmark
    have hm' := Lib.hid hmark
    have z2 := Lib.hid ((hB.block _ (by omega)).trans y2'.out)
    have z3 := (hB.block _ (by omega)).trans y3'.out
    have hB' := Lib.hid hB
    have d3 : (W.setRow (w.heap.size + 2) (encR rZ).toArray).cell? ⟨w.heap.size + 3, 0, none⟩ = some (.bool false) := by
      simp [World.cell?, (setRow_other W (w.heap.size + 2) (w.heap.size + 3) (encR rZ).toArray (by omega)).trans z3]
    have f3 : (W.setRow (w.heap.size + 2) (encR rZ).toArray).frozen? ⟨w.heap.size + 3, 0, none⟩ = false := by
      simp [World.frozen?, (setRow_other W (w.heap.size + 2) (w.heap.size + 3) (encR rZ).toArray (by omega)).trans z3]
    have z3' := Lib.hid z3
    clear hmark hB z3
    go_wp2_with (refine wpList_store_row rfl 61 _ _ rfl (w.heap.size + 2) (encR rZ).toArray rfl rfl 61 _ z2.out (by rw [l33.out]; exact hi33.out) (by rw [l33.out]) (hone.out _) ?_)
    have z2b := setRow_heap W (w.heap.size + 2) _ (encR rZ).toArray 61 _ z2.out
    have hbl : Below w.heap.size w (W.setRow (w.heap.size + 2) (encR rZ).toArray) := setRow_bel (hB2'.out.trans (hB'.out.mono (by omega))) (by omega) _
    have hmk : ((W.setRow (w.heap.size + 2) (encR rZ).toArray).setCell ⟨w.heap.size + 3, 0, none⟩ (.bool false)).heap[D]? = some (.deferred (some [])) := by
      rw [setCell_oth (by omega), setRow_other _ _ _ _ (by omega)]
      exact hm'.out
    refine leaves_mark hmk (results_row_bool rfl (r := rZ) (b := false) (g := w.heap.size + 2) (a := ⟨w.heap.size + 3, 0, none⟩) (fr := (0, 0)) rfl rfl ?_ ?_) ⟨?_, ?_⟩
    · rw [World.putObj_heap_other (by omega), setCell_oth (by omega)]
      exact z2b
    · have := setCell_blk (v := .bool false) ((setRow_other W (w.heap.size + 2) (w.heap.size + 3) (encR rZ).toArray (by omega)).trans z3'.out)
      have h5 := (Puts.putObj (D := D) (.deferred none) hmk rfl (Nat.le_refl _)).cells _ _ _ _ this
      simp [World.cell?, h5]
    · rw [hq]
      rfl
    · exact below_puts (hbl.setCell (p := ⟨w.heap.size + 3, 0, none⟩) (by simp) _) (Puts.putObj (D := D) _ hmk rfl (Nat.le_refl _)) (by omega)
  · rintro D c pre W hD hS ⟨rfl, r, hq, h2, h3, hB⟩ hmark
    have hm' := Lib.hid hmark
    have h2' := Lib.hid h2
    have h3' := Lib.hid h3
    have hB' := Lib.hid hB
    clear hmark h2 h3 hB
    go_wp2_with fail
    refine leaves_mark hm'.out (results_row_bool rfl (r := r) (b := true) (g := w.heap.size + 2) (a := ⟨w.heap.size + 3, 0, none⟩) (fr := (0, 0)) rfl rfl ?_ ?_) ⟨?_, ?_⟩
    · rw [World.putObj_heap_other (by omega)]
      exact h2'.out
    · have h5 := (Puts.putObj (D := D) (.deferred none) hm'.out rfl (Nat.le_refl _)).cells _ _ _ _ h3'.out
      simp [World.cell?, h5]
    · rw [hq]
      rfl
    · exact below_puts hB'.out (Puts.putObj (D := D) _ hm'.out rfl (Nat.le_refl _)) (by omega)
end Go.Proofs.Ytakcnkmlglkkpaa

namespace Go.Proofs.Ytakcnkmlglkkpaa
open Go.RowKit
set_option linter.unusedSimpArgs false
set_option linter.unusedVariables false
open Classical

def zipQ (s : StepT) : AnsT :=
  if s.kind = 1 ∨ s.kind = 2 ∨ s.kind = 3 ∨ s.kind = 8 ∨ s.kind = 9 then ⟨1, kZ, 0, false, ⟨#[]⟩⟩
  else if s.kind = 4 then ⟨0, kZ, 0, false, rootS rZ⟩ else zA
def ZipP (w : World) (s : StepT) (e : Ending) (w' : World) : Prop := e = .returned (.agg (encA (zipQ s)).toArray) ∧ Below w.heap.size w w'
end Go.Proofs.Ytakcnkmlglkkpaa

namespace Go.Proofs.Ytakcnkmlglkkpaa
open Go.RowKit
set_option linter.unusedSimpArgs false
set_option linter.unusedVariables false
open Classical

set_option maxRecDepth 100000 in
set_option maxHeartbeats 4000000 in
theorem zip_k1 (w : World) {P : Value} (h : Zip w P) (s : ByteArray) (k : RKey) (a : Bool) (u v : Nat) :
    Calls Try.prog 14 #[P, .agg (encS ⟨1, s, k, a, u, v⟩).toArray] w (ZipP w ⟨1, s, k, a, u, v⟩) := by
  have hz := zeroAn
  have l32 : Hid (∀ k : RKey, (encKy k).length = 32) := Lib.hid encKy_length
  have a32 : Hid (∀ k : RKey, (encKy k).toArray.size = 32) := Lib.hid fun k => by simp [encKy_length]
  have hi32 : Hid ((Try.prog.info? 35).map (·.size) = some 32) := Lib.hid (by kernel_rfl)
  have l36 : Hid (∀ x : AnsT, (encA x).length = 36) := Lib.hid encA_length
  have a36 : Hid (∀ x : AnsT, (encA x).toArray.size = 36) := Lib.hid fun k => by simp [encA_length]
  have hi36 : Hid ((Try.prog.info? 38).map (·.size) = some 36) := Lib.hid (by kernel_rfl)
  have oneA := Lib.hid encA_all
  have oneK := Lib.hid encKy_all
  have hT := Lib.hid h
  obtain ⟨wa, hwa⟩ : ∃ wa, w.alloc (.cells (encS ⟨1, s, k, a, u, v⟩).toArray 41) = wa := ⟨_, rfl⟩
  obtain ⟨wb, hwb⟩ : ∃ wb, wa.alloc (.cells (encA zA).toArray 38) = wb := ⟨_, rfl⟩
  obtain ⟨w0, hw0⟩ : ∃ w0, wb.alloc (.cells (encA zA).toArray 38) = w0 := ⟨_, rfl⟩
  have sa : wa.heap.size = w.heap.size + 1 := by rw [← hwa]; simp
  have sb : wb.heap.size = w.heap.size + 2 := by rw [← hwb]; simp [sa]
  have hA : Hid (AS w w0 ⟨1, s, k, a, u, v⟩ zA) := Lib.hid (by rw [← hw0, ← hwb, ← hwa]; exact AS.new w _)
  have hT0 := Lib.hid (h.below hA.out.lo)
  have ck : w0.cell? ⟨w.heap.size, 0, none⟩ = some (.int .i64 1) := hA.out.ab.kind
  clear h
  have cn : w0.cell? ⟨w.heap.size, 1, none⟩ = some (.string s) := hA.out.ab.name
  have hky := Lib.hid hA.out.ab.key
  obtain ⟨N, hN⟩ : ∃ N : Nat, Hid (∀ _ : Unit, 1 = N) := ⟨_, Lib.hid fun _ => rfl⟩
  have hC : Hid (Calls Try.prog 20 #[P, .string s, .agg (encKy k).toArray] w0 fun e w' => e = .returned (.int .i64 (N : Nat)) ∧ Below w0.heap.size w0 w') := Lib.hid (by rw [← hN.out ()]; exact set_zip hT0.out s k)
  have hq : Hid (∀ _ : Unit, zipQ ⟨1, s, k, a, u, v⟩ = ⟨N, kZ, 0, false, ⟨#[]⟩⟩) := Lib.hid fun _ => by rw [← hN.out ()]; rfl
  go_enter Try.func14, Try.ntmps14
  go_wp2_with (first
    | (refine wpList_load_mid rfl 35 _ rfl w.heap.size 2 rfl (encKy k) _ hky.out Try.underlying35 rfl (by rw [l32.out]; exact hi32.out) ?_)
    | (go_at_call 20
       refine hC.out.mono ?_
       rintro e w1 ⟨rfl, hc⟩
       have h1 := Lib.hid (hA.out.next hc)
       clear hc
       have f0 := h1.out.ab.fz 0
       have c0 := h1.out.ab.c0)
    | (refine wpList_load_mid rfl 38 _ rfl (w.heap.size + 2) 0 rfl (encA ⟨N, kZ, 0, false, ⟨#[]⟩⟩) _ (range_blk (h1.out.putE N).ab.ou) Try.underlying38 rfl (by rw [l36.out]; exact hi36.out) ?_)
    | (refine wpList_store_row rfl 38 _ _ rfl (w.heap.size + 1) (encA ⟨N, kZ, 0, false, ⟨#[]⟩⟩).toArray rfl rfl 38 _ (h1.out.putE N).ab.rs (by rw [a36.out]; exact hi36.out) (by simp only [a36.out]) (oneA.out _) ?_))
  refine bodyPost_ret (results_cell_row rfl _ _ (w.heap.size + 1) 38 _ (0, 0) _ rfl ((h1.out.putE N).res _) Try.underlying38 rfl (by rw [a36.out]; exact hi36.out)) rfl ?_
  refine ⟨by rw [hq.out ()], (h1.out.putE N).fin _⟩
end Go.Proofs.Ytakcnkmlglkkpaa

namespace Go.Proofs.Ytakcnkmlglkkpaa
open Go.RowKit
set_option linter.unusedSimpArgs false
set_option linter.unusedVariables false
open Classical

set_option maxRecDepth 100000 in
set_option maxHeartbeats 4000000 in
theorem zip_k2 (w : World) {P : Value} (h : Zip w P) (s : ByteArray) (k : RKey) (a : Bool) (u v : Nat) :
    Calls Try.prog 14 #[P, .agg (encS ⟨2, s, k, a, u, v⟩).toArray] w (ZipP w ⟨2, s, k, a, u, v⟩) := by
  have hz := zeroAn
  have l32 : Hid (∀ k : RKey, (encKy k).length = 32) := Lib.hid encKy_length
  have a32 : Hid (∀ k : RKey, (encKy k).toArray.size = 32) := Lib.hid fun k => by simp [encKy_length]
  have hi32 : Hid ((Try.prog.info? 35).map (·.size) = some 32) := Lib.hid (by kernel_rfl)
  have l36 : Hid (∀ x : AnsT, (encA x).length = 36) := Lib.hid encA_length
  have a36 : Hid (∀ x : AnsT, (encA x).toArray.size = 36) := Lib.hid fun k => by simp [encA_length]
  have hi36 : Hid ((Try.prog.info? 38).map (·.size) = some 36) := Lib.hid (by kernel_rfl)
  have oneA := Lib.hid encA_all
  have oneK := Lib.hid encKy_all
  have hT := Lib.hid h
  obtain ⟨wa, hwa⟩ : ∃ wa, w.alloc (.cells (encS ⟨2, s, k, a, u, v⟩).toArray 41) = wa := ⟨_, rfl⟩
  obtain ⟨wb, hwb⟩ : ∃ wb, wa.alloc (.cells (encA zA).toArray 38) = wb := ⟨_, rfl⟩
  obtain ⟨w0, hw0⟩ : ∃ w0, wb.alloc (.cells (encA zA).toArray 38) = w0 := ⟨_, rfl⟩
  have sa : wa.heap.size = w.heap.size + 1 := by rw [← hwa]; simp
  have sb : wb.heap.size = w.heap.size + 2 := by rw [← hwb]; simp [sa]
  have hA : Hid (AS w w0 ⟨2, s, k, a, u, v⟩ zA) := Lib.hid (by rw [← hw0, ← hwb, ← hwa]; exact AS.new w _)
  have hT0 := Lib.hid (h.below hA.out.lo)
  have ck : w0.cell? ⟨w.heap.size, 0, none⟩ = some (.int .i64 2) := hA.out.ab.kind
  clear h
  have cn : w0.cell? ⟨w.heap.size, 1, none⟩ = some (.string s) := hA.out.ab.name
  obtain ⟨N, hN⟩ : ∃ N : Nat, Hid (∀ _ : Unit, 1 = N) := ⟨_, Lib.hid fun _ => rfl⟩
  have hC : Hid (Calls Try.prog 28 #[P, .string s] w0 fun e w' => e = .returned (.int .i64 (N : Nat)) ∧ Below w0.heap.size w0 w') := Lib.hid (by rw [← hN.out ()]; exact drop_zip hT0.out s)
  have hq : Hid (∀ _ : Unit, zipQ ⟨2, s, k, a, u, v⟩ = ⟨N, kZ, 0, false, ⟨#[]⟩⟩) := Lib.hid fun _ => by rw [← hN.out ()]; rfl
  go_enter Try.func14, Try.ntmps14
  go_wp2_with (first
    | (go_at_call 28
       refine hC.out.mono ?_
       rintro e w1 ⟨rfl, hc⟩
       have h1 := Lib.hid (hA.out.next hc)
       clear hc
       have f0 := h1.out.ab.fz 0
       have c0 := h1.out.ab.c0)
    | (refine wpList_load_mid rfl 38 _ rfl (w.heap.size + 2) 0 rfl (encA ⟨N, kZ, 0, false, ⟨#[]⟩⟩) _ (range_blk (h1.out.putE N).ab.ou) Try.underlying38 rfl (by rw [l36.out]; exact hi36.out) ?_)
    | (refine wpList_store_row rfl 38 _ _ rfl (w.heap.size + 1) (encA ⟨N, kZ, 0, false, ⟨#[]⟩⟩).toArray rfl rfl 38 _ (h1.out.putE N).ab.rs (by rw [a36.out]; exact hi36.out) (by simp only [a36.out]) (oneA.out _) ?_))
  refine bodyPost_ret (results_cell_row rfl _ _ (w.heap.size + 1) 38 _ (0, 0) _ rfl ((h1.out.putE N).res _) Try.underlying38 rfl (by rw [a36.out]; exact hi36.out)) rfl ?_
  refine ⟨by rw [hq.out ()], (h1.out.putE N).fin _⟩
end Go.Proofs.Ytakcnkmlglkkpaa

namespace Go.Proofs.Ytakcnkmlglkkpaa
open Go.RowKit
set_option linter.unusedSimpArgs false
set_option linter.unusedVariables false
open Classical

set_option maxRecDepth 100000 in
set_option maxHeartbeats 4000000 in
theorem zip_k3 (w : World) {P : Value} (h : Zip w P) (s : ByteArray) (k : RKey) (a : Bool) (u v : Nat) :
    Calls Try.prog 14 #[P, .agg (encS ⟨3, s, k, a, u, v⟩).toArray] w (ZipP w ⟨3, s, k, a, u, v⟩) := by
  have hz := zeroAn
  have l32 : Hid (∀ k : RKey, (encKy k).length = 32) := Lib.hid encKy_length
  have a32 : Hid (∀ k : RKey, (encKy k).toArray.size = 32) := Lib.hid fun k => by simp [encKy_length]
  have hi32 : Hid ((Try.prog.info? 35).map (·.size) = some 32) := Lib.hid (by kernel_rfl)
  have l36 : Hid (∀ x : AnsT, (encA x).length = 36) := Lib.hid encA_length
  have a36 : Hid (∀ x : AnsT, (encA x).toArray.size = 36) := Lib.hid fun k => by simp [encA_length]
  have hi36 : Hid ((Try.prog.info? 38).map (·.size) = some 36) := Lib.hid (by kernel_rfl)
  have oneA := Lib.hid encA_all
  have oneK := Lib.hid encKy_all
  have hT := Lib.hid h
  obtain ⟨wa, hwa⟩ : ∃ wa, w.alloc (.cells (encS ⟨3, s, k, a, u, v⟩).toArray 41) = wa := ⟨_, rfl⟩
  obtain ⟨wb, hwb⟩ : ∃ wb, wa.alloc (.cells (encA zA).toArray 38) = wb := ⟨_, rfl⟩
  obtain ⟨w0, hw0⟩ : ∃ w0, wb.alloc (.cells (encA zA).toArray 38) = w0 := ⟨_, rfl⟩
  have sa : wa.heap.size = w.heap.size + 1 := by rw [← hwa]; simp
  have sb : wb.heap.size = w.heap.size + 2 := by rw [← hwb]; simp [sa]
  have hA : Hid (AS w w0 ⟨3, s, k, a, u, v⟩ zA) := Lib.hid (by rw [← hw0, ← hwb, ← hwa]; exact AS.new w _)
  have hT0 := Lib.hid (h.below hA.out.lo)
  have ck : w0.cell? ⟨w.heap.size, 0, none⟩ = some (.int .i64 3) := hA.out.ab.kind
  clear h
  have cn : w0.cell? ⟨w.heap.size, 1, none⟩ = some (.string s) := hA.out.ab.name
  obtain ⟨N, hN⟩ : ∃ N : Nat, Hid (∀ _ : Unit, 1 = N) := ⟨_, Lib.hid fun _ => rfl⟩
  obtain ⟨Y, hY⟩ : ∃ Y, Hid (∀ _ : Unit, kZ = Y) := ⟨_, Lib.hid fun _ => rfl⟩
  have hC : Hid (Calls Try.prog 26 #[P, .string s] w0 fun e w' => e = .returned (.tuple #[.agg (encKy Y).toArray, .int .i64 (N : Nat)]) ∧ Below w0.heap.size w0 w') := Lib.hid (by rw [← hN.out (), ← hY.out ()]; exact get_zip hT0.out s)
  have hq : Hid (∀ _ : Unit, zipQ ⟨3, s, k, a, u, v⟩ = ⟨N, Y, 0, false, ⟨#[]⟩⟩) := Lib.hid fun _ => by rw [← hN.out (), ← hY.out ()]; rfl
  go_enter Try.func14, Try.ntmps14
  go_wp2_with (first
    | (go_at_call 26
       refine hC.out.mono ?_
       rintro e w1 ⟨rfl, hc⟩
       have h1 := Lib.hid (hA.out.next hc)
       clear hc)
    | (refine wpList_store_mid rfl 35 _ _ rfl (w.heap.size + 2) 1 (encKy Y).toArray rfl rfl (by rw [a32.out]; exact h1.out.ab.there) (by rw [a32.out]; exact hi32.out) (oneK.out _) ?_
       rw [List.toList_toArray]
       have f0 := (h1.out.putK Y).ab.fz 0
       have c0 := (h1.out.putK Y).ab.c0)
    | (refine wpList_load_mid rfl 38 _ rfl (w.heap.size + 2) 0 rfl (encA ⟨N, Y, 0, false, ⟨#[]⟩⟩) _ (range_blk ((h1.out.putK Y).putE N).ab.ou) Try.underlying38 rfl (by rw [l36.out]; exact hi36.out) ?_)
    | (refine wpList_store_row rfl 38 _ _ rfl (w.heap.size + 1) (encA ⟨N, Y, 0, false, ⟨#[]⟩⟩).toArray rfl rfl 38 _ ((h1.out.putK Y).putE N).ab.rs (by rw [a36.out]; exact hi36.out) (by simp only [a36.out]) (oneA.out _) ?_))
  refine bodyPost_ret (results_cell_row rfl _ _ (w.heap.size + 1) 38 _ (0, 0) _ rfl (((h1.out.putK Y).putE N).res _) Try.underlying38 rfl (by rw [a36.out]; exact hi36.out)) rfl ?_
  exact ⟨by rw [hq.out ()], ((h1.out.putK Y).putE N).fin _⟩
end Go.Proofs.Ytakcnkmlglkkpaa

namespace Go.Proofs.Ytakcnkmlglkkpaa
open Go.RowKit
set_option linter.unusedSimpArgs false
set_option linter.unusedVariables false
open Classical

set_option maxRecDepth 100000 in
set_option maxHeartbeats 4000000 in
theorem zip_k4 (w : World) {P : Value} (h : Zip w P) (s : ByteArray) (k : RKey) (a : Bool) (u v : Nat) :
    Calls Try.prog 14 #[P, .agg (encS ⟨4, s, k, a, u, v⟩).toArray] w (ZipP w ⟨4, s, k, a, u, v⟩) := by
  have hz := zeroAn
  have l32 : Hid (∀ k : RKey, (encKy k).length = 32) := Lib.hid encKy_length
  have a32 : Hid (∀ k : RKey, (encKy k).toArray.size = 32) := Lib.hid fun k => by simp [encKy_length]
  have hi32 : Hid ((Try.prog.info? 35).map (·.size) = some 32) := Lib.hid (by kernel_rfl)
  have l36 : Hid (∀ x : AnsT, (encA x).length = 36) := Lib.hid encA_length
  have a36 : Hid (∀ x : AnsT, (encA x).toArray.size = 36) := Lib.hid fun k => by simp [encA_length]
  have hi36 : Hid ((Try.prog.info? 38).map (·.size) = some 36) := Lib.hid (by kernel_rfl)
  have oneA := Lib.hid encA_all
  have oneK := Lib.hid encKy_all
  have hT := Lib.hid h
  obtain ⟨wa, hwa⟩ : ∃ wa, w.alloc (.cells (encS ⟨4, s, k, a, u, v⟩).toArray 41) = wa := ⟨_, rfl⟩
  obtain ⟨wb, hwb⟩ : ∃ wb, wa.alloc (.cells (encA zA).toArray 38) = wb := ⟨_, rfl⟩
  obtain ⟨w0, hw0⟩ : ∃ w0, wb.alloc (.cells (encA zA).toArray 38) = w0 := ⟨_, rfl⟩
  have sa : wa.heap.size = w.heap.size + 1 := by rw [← hwa]; simp
  have sb : wb.heap.size = w.heap.size + 2 := by rw [← hwb]; simp [sa]
  have hA : Hid (AS w w0 ⟨4, s, k, a, u, v⟩ zA) := Lib.hid (by rw [← hw0, ← hwb, ← hwa]; exact AS.new w _)
  have hT0 := Lib.hid (h.below hA.out.lo)
  have ck : w0.cell? ⟨w.heap.size, 0, none⟩ = some (.int .i64 4) := hA.out.ab.kind
  clear h
  have cn : w0.cell? ⟨w.heap.size, 1, none⟩ = some (.string s) := hA.out.ab.name
  have ca : w0.cell? ⟨w.heap.size, 34, none⟩ = some (.bool a) := hA.out.ab.any
  have hC : Hid (Calls Try.prog 25 #[P, .string s, .bool a] w0 fun e w' => e = .returned (nxtV (nextQ (Tr.nil).list s a)) ∧ Below w0.heap.size w0 w') := Lib.hid (next_zip w0 hT0.out s a)
  have hq : Hid (∀ _ : Unit, zipQ ⟨4, s, k, a, u, v⟩ = ⟨0, kZ, 0, (nextQ (Tr.nil).list s a).isSome, rootS ((nextQ (Tr.nil).list s a).getD rZ)⟩) := Lib.hid fun _ => rfl
  have hsz : ((nextQ (Tr.nil).list s a).getD rZ).1.size ≤ 4611686018427387904 := (show (0 : Nat) ≤ _ by omega)
  rw [nxtV_get] at hC
  obtain ⟨R, hR⟩ : ∃ R, Hid (∀ _ : Unit, (nextQ (Tr.nil).list s a).getD rZ = R) := ⟨_, Lib.hid fun _ => rfl⟩
  obtain ⟨b, hb⟩ : ∃ b, Hid (∀ _ : Unit, (nextQ (Tr.nil).list s a).isSome = b) := ⟨_, Lib.hid fun _ => rfl⟩
  rw [hR.out (), hb.out ()] at hq hC
  rw [hR.out ()] at hsz
  have hrt := Lib.hid fun W => root_any W R hsz
  have hzr := zeroRt
  have a33 : Hid (∀ r : RootT, (encR r).toArray.size = 33) := Lib.hid fun r => by simp [encR_length]
  have l33 : Hid (∀ r : RootT, (encR r).length = 33) := Lib.hid encR_length
  have hi33 : Hid ((Try.prog.info? 61).map (·.size) = some 33) := Lib.hid (by kernel_rfl)
  have oneR := Lib.hid encR_all
  clear hsz
  go_enter Try.func14, Try.ntmps14
  go_wp2_with (first
    | (go_at_call 25
       refine hC.out.mono ?_
       rintro e w1 ⟨rfl, hc⟩
       have h1 := Lib.hid (hA.out.next hc)
       clear hc)
    | (refine wpList_store_row rfl 61 _ _ rfl w1.heap.size (encR R).toArray rfl rfl 61 _ (heap_alloc_new w1 _) (by rw [a33.out]; exact hi33.out) (by rw [a33.out, a33.out]) (oneR.out _) ?_
       obtain ⟨w2, hw2⟩ : ∃ w2, Hid (∀ _ : Unit, (w1.alloc (.cells (encR rZ).toArray 61)).setRow w1.heap.size (encR R).toArray = w2) := ⟨_, Lib.hid fun _ => rfl⟩
       have hb2 : Below w1.heap.size w1 w2 := by rw [← hw2.out ()]; exact setRow_bel ((Below.refl _ _).alloc (Nat.le_refl _) _) (Nat.le_refl _) _
       have h2 := Lib.hid (h1.out.next hb2)
       have hx2 : Hid (∀ u, (w2.setCell ⟨w.heap.size + 2, 34, none⟩ u).heap[w1.heap.size]? = some (.cells (encR R).toArray 61 (0, 0))) := Lib.hid fun u => by
         rw [Below.heap_setCell _ _ _ _ (by have := h1.out.le; show w1.heap.size ≠ w.heap.size + 2; omega), ← hw2.out ()]
         exact setRow_heap _ _ _ _ _ _ (heap_alloc_new w1 _)
       rw [hw2.out ()]
       clear hb2
       have f0 := h2.out.ab.fz 34
       have c0 := h2.out.ab.c34)
    | (refine wpList_load_mid rfl 61 _ rfl w1.heap.size 0 rfl (encR R) _ (range_blk (hx2.out _)) Try.underlying61 rfl (by rw [l33.out]; exact hi33.out) ?_)
    | (go_at_call 27
       refine (hrt.out _).mono ?_
       rintro e w4 ⟨rfl, hc⟩
       have h4 := Lib.hid ((h2.out.putO b).next hc)
       clear hc
       have f1 := h4.out.ab.fz 35
       have cc1 := h4.out.ab.c35)
    | (refine wpList_load_mid rfl 38 _ rfl (w.heap.size + 2) 0 rfl (encA ⟨0, kZ, 0, b, rootS R⟩) _ (range_blk (h4.out.putL (rootS R)).ab.ou) Try.underlying38 rfl (by rw [l36.out]; exact hi36.out) ?_)
    | (refine wpList_store_row rfl 38 _ _ rfl (w.heap.size + 1) (encA ⟨0, kZ, 0, b, rootS R⟩).toArray rfl rfl 38 _ (h4.out.putL (rootS R)).ab.rs (by rw [a36.out]; exact hi36.out) (by simp only [a36.out]) (oneA.out _) ?_))
  refine bodyPost_ret (results_cell_row rfl _ _ (w.heap.size + 1) 38 _ (0, 0) _ rfl ((h4.out.putL (rootS R)).res _) Try.underlying38 rfl (by rw [a36.out]; exact hi36.out)) rfl ?_
  exact ⟨by rw [hq.out ()], (h4.out.putL (rootS R)).fin _⟩
end Go.Proofs.Ytakcnkmlglkkpaa

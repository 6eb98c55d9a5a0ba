/- What the laws lean on: plain words; roots and keys compared. awake: what a Set of "a" answers, read off the last listing. -/
import Derived.Test.YtakcnkmlglkkpaaPkR39

namespace Go.Proofs.Ytakcnkmlglkkpaa
open Go.RowKit
set_option linter.unusedSimpArgs false
set_option linter.unusedVariables false
open Classical

section
variable {P : Program} {ops : Array Oper} {rest : List Oper} {o : Oper} {a : Act} {w : World} {Q : Exit → Act → World → Prop}
/-- A guarded load of a whole row, its guard met. -/
theorem wpList_loadg (hw : Region.wanted o (yielded ops a.tmps) = true) (ty : TypeId) (x : Operand) (ho : o.op = .load ty x)
    (b k : Nat) (hx : a.eval x = .pointer (some ⟨b, k, none⟩)) (cs : List Value) (d : TypeDesc) (hc : w.rangeAt b k cs)
    (hu : P.underlying ty = some d) (hd : d.isRow = true) (hi : (P.info? ty).map (·.size) = some cs.length)
    (h : wpList P ops Q rest (a.put o.dst (.agg cs.toArray)) w) : wpList P ops Q (o :: rest) a w :=
  wpList_step fun K hK => by
    rw [if_pos hw]
    exact wp_load_mid ty x ho b k hx cs d hc hu hd hi (hK _ _ h)
end
theorem equal_root (a b : RootT) (w : World) : (Op.equalIn 10000 61 (.agg (encR a).toArray) (.agg (encR b).toArray)).run Try.prog w = .ok (decide (a = b)) w := by
  have hS : Try.prog.underlying 61 = some (.struct (Try.prog.fieldsOf 61)) := by kernel_rfl
  have hp : Try.prog.stoodInHeld 61 = false := by kernel_rfl
  have h1 : ∀ x : RootT, (part 9 (encR x).toArray 0).run Try.prog w = .ok (.string x.1) w := fun x => run_part_plain w (by kernel_rfl) (by simp [encR])
  have h2 : ∀ x : RootT, ((encR x).drop 1).take 32 = encKy x.2 := fun x => by
    have : (encR x).drop 1 = encKy x.2 := rfl
    rw [this]
    exact List.take_of_length_le (by rw [encKy_length]; decide)
  rw [show (10000 : Nat) = 9999 + 1 from rfl, run_equalIn_agg w 9999 _ _ _ hS hp]
  simp only [Program.fieldsOf, Try.underlying61, Op.eqFields]
  have hs : (Op.equalIn 9999 9 (.string a.1) (.string b.1)).run Try.prog w = .ok (a.1.toList == b.1.toList) w := run_equalIn_string w 9998 9 _ _ Try.underlying9
  have hk := equal_key 9997 a.2 b.2 w
  rw [if_pos (by decide : "Name" ≠ "_"), if_pos (by decide : "Key" ≠ "_")]
  have e1 : decide (a = b) = (decide (a.1 = b.1) && decide (a.2 = b.2)) := by
    obtain ⟨a1, a2⟩ := a
    obtain ⟨b1, b2⟩ := b
    simp
  rw [e1]
  rw [bytes_eq] at hs
  generalize decide (a.1 = b.1) = B1 at hs ⊢
  generalize decide (a.2 = b.2) = B2 at hk ⊢
  simp only [Sem.run_bind, h1, hs, Result.andThen_ok]
  cases B1
  · simp
  · simp only [Bool.not_true, Bool.false_eq_true, if_false, Sem.run_bind, part_key, h2, hk, Result.andThen_ok]
    cases B2 <;> simp
theorem neR (a b : RootT) (w : World) : (binOp .neq 61 (.agg (encR a).toArray) (.agg (encR b).toArray)).run Try.prog w = .ok (.bool (!decide (a = b))) w := by
  rw [run_neq_struct, equal_root]
  rfl
theorem eqR (a b : RootT) (w : World) : (binOp .eql 61 (.agg (encR a).toArray) (.agg (encR b).toArray)).run Try.prog w = .ok (.bool (decide (a = b))) w := by
  rw [run_eql_struct, equal_root]
  rfl
theorem guR (op : BinOp) (x y : Operand) (a b : Array Value) (w : World) : (eqGuard op 61 x y (.agg a) (.agg b)).run Try.prog w = .ok () w := run_eqGuard_agg w op _ x y a b (by kernel_rfl)
theorem eqKy (a b : RKey) (w : World) : (binOp .eql 35 (.agg (encKy a).toArray) (.agg (encKy b).toArray)).run Try.prog w = .ok (.bool (decide (a = b))) w := by
  have := equal_key 9998 a b w
  rw [run_eql_struct, this]
  rfl
theorem next_head (l : List RootT) (s : ByteArray) : nextQ l s true = l[0]? := by
  cases l with
  | nil => rfl
  | cons x l => simp [nextQ]
theorem next_step : ∀ (l : List RootT) (k : Nat) (x : RootT), Rise l → l[k]? = some x → nextQ l x.1 false = l[k + 1]?
  | [], k, x, _, h => by simp at h
  | y :: l, 0, x, hr, h => by
    obtain rfl : y = x := by simpa using h
    have h0 : ltS y.1 y.1 = false := ltS_irrefl _
    cases l with
    | nil => simp [nextQ, h0]
    | cons z l =>
      have h1 := hr.1 z (by simp)
      simp [nextQ, h0, h1]
  | y :: l, k + 1, x, hr, h => by
    have hx : l[k]? = some x := by simpa using h
    have h1 := ltS_asymm (hr.1 x (List.mem_of_getElem? hx))
    have ih := next_step l k x hr.2 hx
    simp only [nextQ, Bool.false_or] at ih ⊢
    rw [List.find?_cons_of_neg (by simp [h1]), ih]
    simp
theorem getQ_at {l : List RootT} {k : Nat} {x : RootT} (h : okL l) (hx : l[k]? = some x) : getQ l x.1 = (x.2, 0) := by
  have hm := List.mem_of_getElem? hx
  unfold getQ
  rw [if_pos (h.2 x hm), keyL_some h.1 hm rfl]
theorem rise_at {l : List RootT} (h : Rise l) {i k : Nat} {x y : RootT} (hik : i < k) (hx : l[i]? = some x) (hy : l[k]? = some y) : ltS x.1 y.1 = true := by
  obtain ⟨hi, rfl⟩ := List.getElem?_eq_some_iff.1 hx
  have e : l = l.take (i + 1) ++ l.drop (i + 1) := (List.take_append_drop _ _).symm
  rw [e] at h
  refine ((rise_app _ _).1 h).2.2 _ ?_ y ?_
  · exact List.mem_of_getElem? (i := i) (by rw [List.getElem?_take, if_pos (by omega)]; exact List.getElem?_eq_getElem hi)
  · exact List.mem_of_getElem? (i := k - (i + 1)) (by rw [List.getElem?_drop, show i + 1 + (k - (i + 1)) = k by omega]; exact hy)
theorem present_snoc (L : Lists) (l : List RootT) : present (L ++ [l]) = l := by
  unfold present
  simp
theorem setL_pos (r : RootT) (l : List RootT) : 0 < (setL r l).length := by
  cases l with
  | nil => simp [setL]
  | cons x l =>
    unfold setL
    split
    · simp
    · split <;> simp
section
variable {w0 W W' : World} {g : Nat} {L : Lists}
theorem set_one (h : One w0 W g L) (hm : L.length < 100000) (s : ByteArray) (k : RKey) :
    Calls Try.prog 20 #[.pointer (some ⟨g, 0, none⟩), .string s, .agg (encKy k).toArray] W fun e w' => e = .returned (.int .i64 (setQ (present L) s : Nat)) ∧ One w0 w' g (if setQ (present L) s = 0 then L ++ [setL (s, k) (present L)] else L) ∧ Gro (fun j => Tch W j ∧ w0.heap.size ≤ j) W w' := by
  obtain ⟨lo, A, t⟩ := h
  refine (set_any t hm s k).mono ?_
  rintro e w' ⟨h1, A', h2, h3, h4⟩
  have hg : Gro (fun j => Tch W j ∧ w0.heap.size ≤ j) W w' := h3.sub fun j hj => .inl ⟨t.tch j hj, by
    rcases hj with rfl | hj
    · exact t.gB.1
    · exact t.gB.2 j hj⟩
  exact ⟨h1, ⟨lo.trans (hg.below lo.size fun j hj => hj.2), A', h2⟩, hg⟩
theorem all_one (h : One w0 W g L) :
    Calls Try.prog 17 #[.pointer (some ⟨g, 0, none⟩)] W fun e w' => ∃ A' c', e = .returned (.slice A' (present L).length c') ∧ Own w' W.heap.size 61 33 A' (present L).length c' (rowsR (present L)) ∧ Below W.heap.size W w' := by
  obtain ⟨lo, A, t⟩ := h
  exact (allL_any t).mono fun e w' ⟨⟨A', c', h1, h2⟩, h3⟩ => ⟨A', c', h1, h2, h3⟩
theorem len_one (h : One w0 W g L) :
    Calls Try.prog 24 #[.pointer (some ⟨g, 0, none⟩)] W fun e w' => e = .returned (.int .i64 ((present L).length : Nat)) ∧ Below W.heap.size W w' := by
  obtain ⟨lo, A, t⟩ := h
  exact lenL_any t
theorem version_one (h : One w0 W g L) :
    Calls Try.prog 18 #[.pointer (some ⟨g, 0, none⟩)] W fun e w' => e = .returned (.int .u64 (L.length - 1 : Nat)) ∧ Below W.heap.size W w' := by
  obtain ⟨lo, A, t⟩ := h
  exact versionL_any t
theorem next_one (h : One w0 W g L) (s : ByteArray) (a : Bool) :
    Calls Try.prog 25 #[.pointer (some ⟨g, 0, none⟩), .string s, .bool a] W fun e w' => e = .returned (.tuple #[.agg (encR ((nextQ (present L) s a).getD rZ)).toArray, .bool (nextQ (present L) s a).isSome]) ∧ Below W.heap.size W w' := by
  obtain ⟨lo, A, t⟩ := h
  rw [← nxtV_get]
  exact nextL_any t s a
theorem get_one (h : One w0 W g L) (s : ByteArray) :
    Calls Try.prog 26 #[.pointer (some ⟨g, 0, none⟩), .string s] W fun e w' => e = .returned (.tuple #[.agg (encKy (getQ (present L) s).1).toArray, .int .i64 ((getQ (present L) s).2 : Nat)]) ∧ Below W.heap.size W w' := by
  obtain ⟨lo, A, t⟩ := h
  exact getL_any t s
theorem at_one (h : One w0 W g L) (v : Nat) {l : List RootT} (hl : L[v]? = some l) :
    Calls Try.prog 19 #[.pointer (some ⟨g, 0, none⟩), .int .u64 (v : Int)] W fun e w' => ∃ A' c', e = .returned (.tuple #[.slice A' l.length c', .int .i64 0]) ∧ Own w' W.heap.size 61 33 A' l.length c' (rowsR l) ∧ Below W.heap.size W w' := by
  obtain ⟨lo, A, t⟩ := h
  refine (atL_any t v).mono ?_
  rintro e w' ⟨h1 | h1, h2⟩
  · obtain ⟨l', A', c', h3, h4, h5⟩ := h1
    rw [hl] at h3
    cases h3
    exact ⟨A', c', h4, h5, h2⟩
  · have := (List.getElem?_eq_some_iff.1 hl).1
    omega
theorem at_no (h : One w0 W g L) (v : Nat) (hv : L.length ≤ v) :
    Calls Try.prog 19 #[.pointer (some ⟨g, 0, none⟩), .int .u64 (v : Int)] W fun e w' => e = .returned (.tuple #[.slice none 0 0, .int .i64 133]) ∧ Below W.heap.size W w' := by
  obtain ⟨lo, A, t⟩ := h
  refine (atL_any t v).mono ?_
  rintro e w' ⟨h1 | h1, h2⟩
  · obtain ⟨l', A', c', h3, h4, h5⟩ := h1
    have := (List.getElem?_eq_some_iff.1 h3).1
    omega
  · exact ⟨h1.2, h2⟩
theorem turns_one (h : One w0 W g L) (u v : Nat) {a b : List RootT} (ha : L[u]? = some a) (hb : L[v]? = some b) :
    Calls Try.prog 22 #[.pointer (some ⟨g, 0, none⟩), .int .u64 (u : Int), .int .u64 (v : Int)] W fun e w' => ∃ A' c', e = .returned (.tuple #[.slice A' (mergeQ a b).length c', .int .i64 0]) ∧ Own w' W.heap.size 55 67 A' (mergeQ a b).length c' (rowsT (mergeQ a b)) ∧ Below W.heap.size W w' := by
  obtain ⟨lo, A, t⟩ := h
  refine (turns_any W t u v).mono ?_
  rintro e w' ⟨h1 | h1, h2⟩
  · obtain ⟨a', b', A', c', h3, h4, h5, h6⟩ := h1
    rw [ha] at h3
    rw [hb] at h4
    cases h3
    cases h4
    exact ⟨A', c', h5, h6, h2⟩
  · have := (List.getElem?_eq_some_iff.1 ha).1
    have := (List.getElem?_eq_some_iff.1 hb).1
    omega
end
end Go.Proofs.Ytakcnkmlglkkpaa

namespace Go.Proofs.Ytakcnkmlglkkpaa
open Go.RowKit
set_option linter.unusedSimpArgs false
set_option linter.unusedVariables false
open Classical

/-- A table beside an append to a row of another type. -/
theorem One.app {w0 W W' : World} {g : Nat} {L : Lists} {A A' : Option Addr} (h : One w0 W g L) (hat : AppAt W W' A A') (ht : ∀ j, blockOf A = some j → ∃ cs fr, W.heap[j]? = some (.cells cs 9 fr)) (hB : ∀ j, blockOf A = some j → w0.heap.size ≤ j := by intro j hj; first | cases hj | assumption) : One w0 W' g L := by
  have hg : Gro (fun j => blockOf A = some j) W W' := by
    rcases hat with ⟨_, h2⟩ | ⟨k, _, _, h3⟩
    · exact Gro.of_grown h2 fun j hj => hj
    · exact Gro.of_grown h3 fun j hj => by cases hj
  obtain ⟨lo, T, t⟩ := h
  have hty : ∀ {j : Nat} {cs2 : Array Value} {ty : TypeId} {fr : Nat × Nat}, blockOf A = some j → W.heap[j]? = some (.cells cs2 ty fr) → ty = 9 := fun hj h2 => by
    obtain ⟨cs, fr, h1⟩ := ht _ hj
    rw [h1] at h2
    injection h2 with h2
    injection h2 with _ h2 _
    exact h2.symm
  refine ⟨lo.trans (hg.below lo.size fun j hj => hB j hj), T, t.gro hg fun j hj => ⟨fun e => ?_, fun e => ?_, fun cs2 fr hc => absurd (hty hj hc) (by decide)⟩⟩
  · obtain ⟨cs2, ty, fr, h1, h2⟩ := t.tch j (.inl e)
    have := hty hj h1
    subst this
    rcases h2 with h2 | h2 <;> exact absurd h2 (by decide)
  · obtain ⟨cs2, ty, fr, h1, h2⟩ := t.tch j (.inr e)
    have := hty hj h1
    subst this
    rcases h2 with h2 | h2 <;> exact absurd h2 (by decide)
theorem Own.tchG {w0 W w' : World} {B : Nat} {e : TypeId} {size n c : Nat} {A : Option Addr} {xs : List Value} (h : Own W B e size A n c xs) (hg : Gro (fun j => Tch W j ∧ w0.heap.size ≤ j) W w') (he : ¬ (e = 68 ∨ e = 81)) : Own w' B e size A n c xs :=
  h.tch (hg.sub fun j hj => .inl hj.1) he
theorem gro_keep {w0 W w' : World} {M : Nat} {cs : Array Value} {t : TypeId} {fr : Nat × Nat} (hg : Gro (fun j => Tch W j ∧ w0.heap.size ≤ j) W w') (h : W.heap[M]? = some (.cells cs t fr)) (ht : ¬ (t = 68 ∨ t = 81)) : w'.heap[M]? = some (.cells cs t fr) :=
  (hg.block M (Array.getElem?_eq_some_iff.1 h).1 fun hj => ht (tch_type hj.1 h)).trans h
theorem listS_app (a b : List RootT) : listS (a ++ b) = listS a ++ listS b := by
  have h : ∀ (b : List RootT) (s : ByteArray), b.foldl (fun s x => s ++ rootS x) s = s ++ listS b := by
    intro b
    induction b with
    | nil => intro s; exact ByteArray.append_empty.symm
    | cons x b ih =>
      intro s
      have e : listS (x :: b) = rootS x ++ listS b := by
        show b.foldl (fun s x => s ++ rootS x) (⟨#[]⟩ ++ rootS x) = _
        rw [ih]
        congr 1
      rw [List.foldl_cons, ih, e, ByteArray.append_assoc]
  show (a ++ b).foldl (fun s x => s ++ rootS x) ⟨#[]⟩ = _
  rw [List.foldl_append, h]
  rfl
theorem listS_at {l : List RootT} {k : Nat} {x : RootT} (hx : l[k]? = some x) : ∃ r : ByteArray, listS l = listS (l.take k) ++ (strB [x.1.size % 256] ++ (x.1 ++ r)) ∧ 32 ≤ r.size := by
  obtain ⟨hk, rfl⟩ := List.getElem?_eq_some_iff.1 hx
  have e : l = l.take k ++ (l[k] :: l.drop (k + 1)) := by rw [← List.drop_eq_getElem_cons hk, List.take_append_drop]
  refine ⟨strB l[k].2.1 ++ listS (l.drop (k + 1)), ?_, ?_⟩
  · rw [show listS l = listS (l.take k ++ (l[k] :: l.drop (k + 1))) by rw [← e], listS_app]
    have e2 : listS (l[k] :: l.drop (k + 1)) = rootS l[k] ++ listS (l.drop (k + 1)) := by
      have := listS_app [l[k]] (l.drop (k + 1))
      rw [List.singleton_append] at this
      rw [this]
      congr 1
    rw [e2]
    unfold rootS
    simp only [ByteArray.append_assoc]
  · rw [ByteArray.size_append, strB_size, l[k].2.2]
    omega
theorem listS_pos {l : List RootT} {k : Nat} {x : RootT} (hx : l[k]? = some x) (h256 : x.1.size < 256) :
    ∃ h : (listS (l.take k)).size < (listS l).size, ((listS l)[(listS (l.take k)).size]'h).toNat = x.1.size ∧ (listS (l.take k)).size + 1 + x.1.size + 32 ≤ (listS l).size ∧ (listS l).extract ((listS (l.take k)).size + 1) ((listS (l.take k)).size + 1 + x.1.size) = x.1 := by
  obtain ⟨r, e, hr⟩ := listS_at hx
  have h1 : (strB [x.1.size % 256]).size = 1 := strB_size _
  have hs : (listS l).size = (listS (l.take k)).size + (1 + (x.1.size + r.size)) := by
    rw [e, ByteArray.size_append, ByteArray.size_append, ByteArray.size_append, h1]
  generalize listS (l.take k) = p at e hs ⊢
  generalize listS l = s at e hs ⊢
  subst e
  refine ⟨by omega, ?_, by omega, ?_⟩
  · rw [ByteArray.getElem_append_right (by omega)]
    simp only [Nat.sub_self]
    rw [ByteArray.getElem_append_left (by omega)]
    show (UInt8.ofNat (x.1.size % 256)).toNat = _
    simp
    omega
  · rw [show p.size + 1 + x.1.size = p.size + (1 + x.1.size) by omega, ByteArray.extract_append_size_add]
    have h2 := ByteArray.extract_append_size_add' (a := strB [x.1.size % 256]) (b := x.1 ++ r) (i := 0) (j := x.1.size) (k := 1) h1.symm
    rw [Nat.add_zero] at h2
    rw [h2]
    exact ByteArray.extract_append_eq_left rfl
def aS : ByteArray := ⟨#[97]⟩
theorem aS_list : aS.toList = [97] := by rw [ByteArray.toList_eq]; rfl
noncomputable def awQ (l : List RootT) : Nat := if hasL aS l then 0 else if 64 ≤ l.length then 131 else 0
theorem name_a : Name aS := by
  refine ⟨by decide, by decide, ?_⟩
  have h : aS.size = 1 := rfl
  rw [h]
  intro k hk
  obtain rfl : k = 0 := by omega
  have e : chOf aS 0 = 97 := rfl
  rw [e]
  unfold okC
  omega
theorem set_a (l : List RootT) : setQ l aS = awQ l := by
  unfold setQ awQ
  rw [if_pos name_a]
  by_cases h : hasL aS l <;> by_cases h2 : 64 ≤ l.length <;> simp [h, h2]
theorem listS_take {l : List RootT} {k : Nat} {x : RootT} (hx : l[k]? = some x) : (listS (l.take (k + 1))).size = (listS (l.take k)).size + (x.1.size + 33) := by
  rw [take_one hx, listS_snoc, ByteArray.size_append, rootS_size]
set_option maxRecDepth 100000 in
set_option maxHeartbeats 4000000 in
theorem awake_any (w : World) (l : List RootT) (hok : okL l) (h64 : l.length ≤ 64) (b off n c : Nat) (hn : 0 < n) (hn2 : n ≤ 5000) (hc : w.cell? ⟨b, off + (n - 1), none⟩ = some (.string (listS l))) :
    Calls Try.prog 21 #[.slice (some ⟨b, off, none⟩) n c] w fun e w' => e = .returned (.int .i64 (awQ l : Nat)) ∧ w = w' := by
  obtain ⟨n1, hn1⟩ : ∃ n1, Hid (∀ _ : Unit, n - 1 = n1) := ⟨_, Lib.hid fun _ => rfl⟩
  rw [hn1.out ()] at hc
  have hn1' := hn1.out ()
  have hsz : (listS l).size ≤ 64 * 65 := by
    rw [listS_size]
    have h1 := totS_named hok.2
    have h2 : l.length * 65 ≤ 64 * 65 := Nat.mul_le_mul_right _ h64
    omega
  have e1 : (n : Int) - 1 = (n1 : Int) := by omega
  have w1 : IntKind.i64.wrap (n1 : Int) = (n1 : Int) := by rw [IntKind.wrap_i64]; omega
  have g1 : (0 : Int) ≤ (n1 : Int) := by omega
  have g2 : (n1 : Int) < (n : Int) := by omega
  clear hn1'
  have hpos := Lib.hid fun (k : Nat) (x : RootT) (hx : l[k]? = some x) => listS_pos hx (by have := (hok.2 x (List.mem_of_getElem? hx)).2.1; omega)
  have hnm := Lib.hid fun (k : Nat) (x : RootT) (hx : l[k]? = some x) => (hok.2 x (List.mem_of_getElem? hx)).2.1
  have hfull : Hid (l.take l.length = l) := Lib.hid (List.take_of_length_le (Nat.le_refl _))
  obtain ⟨s, hs⟩ : ∃ s, Hid (∀ _ : Unit, listS l = s) := ⟨_, Lib.hid fun _ => rfl⟩
  rw [hs.out ()] at hc hsz hpos
  have hok' := Lib.hid hok
  clear hok
  go_enter Try.func21, Try.ntmps21
  go_wp2_with fail
  go_loop [4, 5] (fun nv iv => ∃ (k p : Nat), k ≤ l.length ∧ nv = .int .i64 (k : Int) ∧ iv = .int .i64 (p : Int) ∧ Hid (∀ _ : Unit, (listS (l.take k)).size = p) ∧ Hid (∀ (j : Nat) (x : RootT), j < k → l[j]? = some x → x.1.toList ≠ aS.toList)) (fun nv _ => l.length - (intOf nv).toNat)
  case atStart => exact ⟨0, 0, by omega, rfl, rfl, Lib.hid fun _ => by rw [List.take_zero]; rfl, Lib.hid fun j x hj => absurd hj (by omega)⟩
  case round =>
    obtain ⟨k, p, hk, rfl, rfl, hp, hno⟩ := hrel
    by_cases hkn : k < l.length
    · obtain ⟨x, hx⟩ : ∃ x, l[k]? = some x := ⟨_, List.getElem?_eq_getElem hkn⟩
      obtain ⟨hlt, hb, hle, hex⟩ := hpos.out k x hx
      have hx32 := hnm.out k x hx
      have hpn := listS_take hx
      simp only [hp.out ()] at hlt hb hle hex hpn
      obtain ⟨m, hm⟩ : ∃ m, x.1.size = m := ⟨_, rfl⟩
      rw [hm] at hb hle hex hx32 hpn
      have hpn' := Lib.hid hpn
      have hsl : (Instr.slice 9 (.string s) (some (.int .i64 ((p : Int) + 1))) (some (.int .i64 ((p : Int) + 1 + (m : Int)))) none).run Try.prog w = .ok (.string x.1) w := by
        rw [run_slice_string w 9 s .i64 .i64 ((p : Int) + 1) ((p : Int) + 1 + (m : Int)) Try.underlying9 (by omega) (by omega) (by omega)]
        rw [show ((p : Int) + 1).toNat = p + 1 by omega, show ((p : Int) + 1 + (m : Int)).toNat = p + 1 + m by omega, hex]
      have hx' := Lib.hid hx
      have hm' := Lib.hid hm
      clear hpn hx hm
      have q1 : (p : Int) < (s.size : Int) := by omega
      have q0 : (0 : Int) ≤ (p : Int) := by omega
      clear hex
      by_cases he : x.1.toList = aS.toList
      · have q2 : (x.1.toList == [97]) = true := by rw [he, aS_list]; rfl
        have hin := Lib.hid (show hasL aS l from ⟨x, List.mem_of_getElem? hx'.out, he⟩)
        clear he
        go_wp2_with fail
        go_ret
        exact ⟨by unfold awQ; rw [if_pos hin.out]; rfl, rfl⟩
      · have q2 : (x.1.toList == [97]) = false := by
          rw [aS_list] at he
          simpa using he
        have hno2 : Hid (∀ (j : Nat) (x : RootT), j < k + 1 → l[j]? = some x → x.1.toList ≠ aS.toList) := Lib.hid fun j y hj hy => by
          rcases Nat.lt_succ_iff_lt_or_eq.1 hj with h | rfl
          · exact hno.out j y h hy
          · rw [hx'.out] at hy
            cases hy
            exact he
        clear he
        go_wp2_with fail
        go_round
        case rel =>
          refine ⟨k + 1, p + m + 33, by omega, by go_num, ?_, Lib.hid fun _ => by rw [hpn'.out]; omega, hno2⟩
          congr 1
          omega
        case measure => simp [intOf]; omega
    · have hkl := Lib.hid (show k = l.length by omega)
      have hps : p = s.size := by
        rw [← hp.out (), ← hs.out (), hkl.out, hfull.out]
      have q1 : ¬ ((p : Int) < (s.size : Int)) := by omega
      have hni := Lib.hid (show ¬ hasL aS l from fun ⟨x, hx, he⟩ => by
        obtain ⟨j, hj, rfl⟩ := List.mem_iff_getElem.1 hx
        exact hno.out j _ (by rw [hkl.out]; exact hj) (List.getElem?_eq_getElem hj) he)
      clear hps
      by_cases h6 : 64 ≤ k
      · have q3 : (64 : Int) ≤ (k : Int) := by omega
        go_wp2_with fail
        go_ret
        exact ⟨by unfold awQ; rw [if_neg hni.out, if_pos (by have := hkl.out; omega)]; rfl, rfl⟩
      · have q3 : ¬ ((64 : Int) ≤ (k : Int)) := by omega
        go_wp2_with fail
        go_ret
        exact ⟨by unfold awQ; rw [if_neg hni.out, if_neg (by have := hkl.out; omega)]; rfl, rfl⟩
end Go.Proofs.Ytakcnkmlglkkpaa

/- Loads and stores of whole rows inside a fence. No program is named here. A tree of roots is gone through: each, all. A tree of roots in memory: least. -/
import Derived.Test.YtakcnkmlglkkpaaPkR3
import Derived.Deep.MidRow
import Derived.Laws.Tables
import Derived.RangeFuncBound
import Derived.Laws.ResultCell
import Derived.Deep.WholeRow

namespace Go.Proofs.Ytakcnkmlglkkpaa
open Go.RowKit
set_option linter.unusedSimpArgs false
set_option linter.unusedVariables false

section
variable {F : Fence} {n : Nat} {P : Program} {ops : Array Oper} {rest : List Oper} {o : Oper} {a : Act} {w w' : World} {Q : Exit → Act → World → Prop}
/-- An operation that is no call and yields a value. -/
theorem wpListIn_val {v : Value} (hw : Region.wanted o (yielded ops a.tmps) = true) (hnd : ∀ c, o.op ≠ .defer c) (hab : o.about P w a.eval = none) (hrun : (execOp a.eval o).run P w = .ok (.value v) w')
    (h : wpListIn F n P ops Q rest (a.put o.dst v) w') : wpListIn F n P ops Q (o :: rest) a w :=
  wpListIn_step fun K hK => by
    rw [if_pos hw]
    unfold Oper.wpIn
    rw [Oper.semAt_plain F _ _ hnd, hrun]
    exact ⟨fun f hf => (by rw [hab] at hf; cases hf), hK _ _ h⟩
theorem wpListIn_skipd (hw : Region.wanted o (yielded ops a.tmps) = true) (hnd : ∀ c, o.op ≠ .defer c) (hab : o.about P w a.eval = none) (hrun : (execOp a.eval o).run P w = .ok .skip w')
    (h : wpListIn F n P ops Q rest (a.put o.dst undef) w') : wpListIn F n P ops Q (o :: rest) a w :=
  wpListIn_step fun K hK => by
    rw [if_pos hw]
    unfold Oper.wpIn
    rw [Oper.semAt_plain F _ _ hnd, hrun]
    exact ⟨fun f hf => (by rw [hab] at hf; cases hf), hK _ _ h⟩
theorem wpListIn_load_mid (hw : Region.wanted o (yielded ops a.tmps) = true) (ty : TypeId) (x : Operand) (ho : o.op = .load ty x)
    (b f : Nat) (hx : a.eval x = .pointer (some ⟨b, f, none⟩)) (cs : List Value) (d : TypeDesc) (hc : w.rangeAt b f cs)
    (hu : P.underlying ty = some d) (hd : d.isRow = true) (hi : (P.info? ty).map (·.size) = some cs.length)
    (h : wpListIn F n P ops Q rest (a.put o.dst (.agg cs.toArray)) w) : wpListIn F n P ops Q (o :: rest) a w :=
  wpListIn_val hw (by rw [ho]; intro c hc; cases hc) (by simp [Oper.about, ho]) (by
    unfold execOp
    simp only [ho, hx, Instr.loadAt, Instr.sureAddr, Sem.run_bind, Sem.run_pure, Result.andThen_ok, run_loadVar_mid w b f ty cs d hc hu hd hi]) h
theorem wpListIn_load_row (hw : Region.wanted o (yielded ops a.tmps) = true) (ty : TypeId) (x : Operand) (ho : o.op = .load ty x)
    (g : Nat) (hx : a.eval x = .pointer (some ⟨g, 0, none⟩)) (t : TypeId) (cs : Array Value) (fr : Nat × Nat) (d : TypeDesc) (hg : w.heap[g]? = some (.cells cs t fr))
    (hu : P.underlying ty = some d) (hd : (match d with | .struct _ | .array _ _ => true | _ => false) = true) (hi : (P.info? ty).map (·.size) = some cs.size)
    (h : wpListIn F n P ops Q rest (a.put o.dst (.agg cs)) w) : wpListIn F n P ops Q (o :: rest) a w :=
  wpListIn_val hw (by rw [ho]; intro c hc; cases hc) (by simp [Oper.about, ho]) (by
    unfold execOp
    simp only [ho, hx, Instr.loadAt, Instr.sureAddr, Sem.run_bind, Sem.run_pure, Result.andThen_ok, run_loadVar_row w g t ty cs fr d hg hu hd hi]) h
theorem wpListIn_store_row (hw : Region.wanted o (yielded ops a.tmps) = true) (ty : TypeId) (x y : Operand) (ho : o.op = .store ty x y)
    (g : Nat) (cells : Array Value) (hx : a.eval x = .pointer (some ⟨g, 0, none⟩)) (hy : a.eval y = .agg cells)
    (t : TypeId) (old : Array Value) (hg : w.heap[g]? = some (.cells old t (0, 0))) (hi : (P.info? ty).map (·.size) = some cells.size)
    (hold : old.size = cells.size) (h1 : cells.all (·.oneCell') = true)
    (h : wpListIn F n P ops Q rest (a.put o.dst undef) (w.setRow g cells)) : wpListIn F n P ops Q (o :: rest) a w :=
  wpListIn_skipd hw (by rw [ho]; intro c hc; cases hc) (by simp [Oper.about, ho]) (by
    unfold execOp
    simp only [ho, hx, hy, Instr.storeAt, Instr.sureAddr, Sem.run_bind, Sem.run_pure, Result.andThen_ok, run_storeVar_row w g t ty old cells hg hi hold h1]) h
end
end Go.Proofs.Ytakcnkmlglkkpaa

namespace Go.Proofs.Ytakcnkmlglkkpaa
open Go.RowKit Go.Shelf
set_option linter.unusedSimpArgs false
set_option linter.unusedVariables false
attribute [local go_sem] Oper.semAt_some

theorem TreeAt.mid {ok : Nat → Prop} {N : Nat} (hok : ∀ k, k < N → ok k) {w w' : World} (hm : Mid ok w w') : ∀ (t : Tr) (v : Value), blk v ≤ N → TreeAt w t v → TreeAt w' t v
  | .nil, v, _, h => h
  | .node r l h, v, hb, ⟨g, vl, vh, hv, hg, hk, hl, hh⟩ => by
    have hgN : g + 1 ≤ N := by rw [hv] at hb; exact hb
    exact ⟨g, vl, vh, hv, (hm.block g (hok g (by omega))).trans hg, hk, TreeAt.mid hok hm l vl (by omega) hl, TreeAt.mid hok hm h vh (by omega) hh⟩
theorem pre_app {L a b c : List RootT} (h : a ++ (b ++ c) <+: L) : a ++ b <+: L := by
  obtain ⟨r, hr⟩ := h
  exact ⟨c ++ r, by rw [← hr]; simp⟩
set_option maxRecDepth 100000 in
set_option maxHeartbeats 4000000 in
theorem each_in (L : List RootT) (ok : Nat → Prop) (N lp : Nat) (hok : ∀ k, k < N → ok k) (J Jx : List RootT → World → Prop)
    (hY : ∀ pre x W, J pre W → pre ++ [x] <+: L → YieldAt Fence.wide 0 Try.prog lp #[.agg (encR x).toArray] W fun e W' =>
      (e = .returned (.bool true) ∧ J (pre ++ [x]) W' ∧ Mid ok W W') ∨ (e = .returned (.bool false) ∧ Jx (pre ++ [x]) W')) (T : Tr) :
    ∀ (v : Value) (pre : List RootT) (W : World), TreeAt W T v → blk v ≤ N → J pre W → pre ++ T.list <+: L →
      CallsIn Fence.wide 0 Try.prog 58 #[v, .func (.yield lp) #[] #[]] W fun e W' =>
        (e = .returned (.bool true) ∧ J (pre ++ T.list) W' ∧ Mid ok W W') ∨ (e = .returned (.bool false) ∧ ∃ q, q ≠ [] ∧ pre ++ q <+: L ∧ Jx (pre ++ q) W') := by
  induction T with
  | nil =>
    intro v pre W ht _ hJ _
    obtain rfl := ht
    refine callsIn_of_wp Try.func58 rfl trivial ?_ rfl
    simp only [Try.ntmps58, List.size_toArray, List.length_cons, List.length_nil, Nat.reduceAdd, Nat.reduceSub, Array.replicate_succ, Array.replicate_zero, List.push_toArray, List.append_toArray, List.nil_append, List.cons_append]
    gi_wp2_with fail
    refine ⟨trivial, ?_⟩
    gi_wp2_with fail
    all_goals (try (exfalso; have hh := ‹some undef = some (Value.bool _)›; cases hh; done))
    all_goals (refine ⟨fun _ h => (by cases h), ?_⟩)
    all_goals gi_wp2_with fail
    all_goals (try (exfalso; have hh := ‹some undef = some (Value.bool _)›; cases hh; done))
    all_goals (try refine ⟨trivial, ?_⟩)
    all_goals gi_wp2_with fail
    all_goals go_ret
    all_goals exact .inl ⟨rfl, by simpa [Tr.list] using hJ, Mid.refl _ _⟩
  | node r l h ihl ihr =>
    intro v pre W ht hb hJ hL
    have l33 : Hid (∀ r : RootT, (encR r).length = 33) := Lib.hid encR_length
    have hi33 : Hid ((Try.prog.info? 61).map (·.size) = some 33) := Lib.hid (by kernel_rfl)
    obtain ⟨g, vl, vh, rfl, hg, hk, tl, th⟩ := ht
    have hgN : g + 1 ≤ N := hb
    have hNd : NodeAt W g r vl vh _ _ := ⟨hg⟩
    have c1 := hNd.low
    obtain ⟨al, rfl⟩ := tl.ptr
    obtain ⟨ah, rfl⟩ := th.ptr
    have nd : ∀ W1, Mid ok W W1 → NodeAt W1 g r (.pointer al) (.pointer ah) (Tr.node r l h).deep (Tr.node r l h).cnt := fun W1 hm => ⟨(hm.block g (hok g (by omega))).trans hg⟩
    have hL2 : pre ++ (l.list ++ r :: h.list) <+: L := hL
    have e1 : pre ++ l.list <+: L := pre_app hL2
    have e2 : (pre ++ l.list) ++ [r] <+: L := pre_app (c := h.list) (by simpa using hL2)
    have hy2 : ∀ W1, J (pre ++ l.list) W1 → Mid ok W W1 → YieldAt Fence.wide 0 Try.prog lp #[.agg (encR r).toArray] W1 fun e W2 =>
        (e = .returned (.bool true) ∧ (J (pre ++ l.list ++ [r]) W2 ∧ Mid ok W W2) ∧ W2.cell? ⟨g, 34, none⟩ = some (.pointer ah)) ∨ (e = .returned (.bool false) ∧ Jx (pre ++ l.list ++ [r]) W2) := fun W1 hJ1 hb1 =>
      YieldAt.mono (hY _ r W1 hJ1 e2) fun e W2 h => h.elim
        (fun ⟨he, hj, hb2⟩ => .inl ⟨he, ⟨hj, hb1.trans hb2⟩, (nd W2 (hb1.trans hb2)).high⟩) .inr
    have ih1 := (ihl _ pre W tl (by omega) hJ e1).mono (R' := fun e W1 =>
        (e = .returned (.bool true) ∧ Hid (W1.rangeAt g 0 (encR r)) ∧ YieldAt Fence.wide 0 Try.prog lp #[.agg (encR r).toArray] W1 fun e W2 =>
          (e = .returned (.bool true) ∧ (J (pre ++ l.list ++ [r]) W2 ∧ Mid ok W W2) ∧ W2.cell? ⟨g, 34, none⟩ = some (.pointer ah)) ∨ (e = .returned (.bool false) ∧ Jx (pre ++ l.list ++ [r]) W2)) ∨
        (e = .returned (.bool false) ∧ ∃ q, q ≠ [] ∧ pre ++ q <+: L ∧ Jx (pre ++ q) W1))
      (fun e W1 h => h.elim (fun ⟨he, hj, hb1⟩ => .inl ⟨he, Lib.hid (nd W1 hb1).root, hy2 W1 hj hb1⟩) .inr)
    have ih2 : ∀ W2, J (pre ++ l.list ++ [r]) W2 ∧ Mid ok W W2 → CallsIn Fence.wide 0 Try.prog 58 #[.pointer ah, .func (.yield lp) #[] #[]] W2 fun e W' =>
        (e = .returned (.bool true) ∧ J (pre ++ (Tr.node r l h).list) W' ∧ Mid ok W W') ∨ (e = .returned (.bool false) ∧ ∃ q, q ≠ [] ∧ pre ++ q <+: L ∧ Jx (pre ++ q) W') := fun W2 ⟨hj, hm⟩ =>
      (ihr _ (pre ++ l.list ++ [r]) W2 (TreeAt.mid hok hm _ _ (by omega) th) (by omega) hj (by simpa using hL2)).mono fun e W3 h3 => h3.elim
        (fun ⟨he, hj3, hm3⟩ => .inl ⟨he, by simpa [Tr.list] using hj3, hm.trans hm3⟩)
        (fun ⟨he, q, hq, hp, hx⟩ => .inr ⟨he, l.list ++ [r] ++ q, by simp, by simpa using hp, by simpa using hx⟩)
    have ih1' := Lib.hid ih1
    have ih2' := Lib.hid ih2
    have e2' := Lib.hid e2
    clear ih1 ih2 hy2 ihl ihr hY e1 e2 hL hL2 nd hNd hg tl th hb hk hok hgN hJ
    refine callsIn_of_wp Try.func58 rfl trivial ?_ rfl
    simp only [Try.ntmps58, List.size_toArray, List.length_cons, List.length_nil, Nat.reduceAdd, Nat.reduceSub, Array.replicate_succ, Array.replicate_zero, List.push_toArray, List.append_toArray, List.nil_append, List.cons_append]
    gi_wp2_with (first
      | (refine ⟨trivial, rfl, ?_⟩; gi_at_call 58; refine ih1'.out.mono ?_; clear ih1'; rintro e W1 (⟨rfl, hrg, fn, tmps, assign, body, hy, hR⟩ | ⟨rfl, q, hq, hp1, hx1⟩))
      | (refine wpListIn_load_mid (by rfl) 61 _ rfl g 0 rfl (encR r) _ hrg.out Try.underlying61 rfl (by rw [l33.out]; exact hi33.out) ?_)
      | (refine ⟨rfl, hR.mono ?_⟩; clear hR; rintro e W2 (⟨rfl, hj2, c2⟩ | ⟨rfl, hx2⟩))
      | (refine ⟨trivial, rfl, ?_⟩; gi_at_call 58; refine (ih2'.out _ hj2).mono ?_; rintro e W3 (⟨rfl, hJ3⟩ | ⟨rfl, q, hq, hp3, hx3⟩)))
    · go_ret
      exact .inl ⟨rfl, hJ3⟩
    · go_ret
      exact .inr ⟨rfl, q, hq, hp3, hx3⟩
    · refine ⟨trivial, ?_⟩
      gi_wp2_with fail
      go_ret
      exact .inr ⟨rfl, l.list ++ [r], by simp, by simpa using e2'.out, by simpa using hx2⟩
    · refine ⟨fun _ h => (by cases h), ?_⟩
      gi_wp2_with fail
      all_goals (try (exfalso; have hh := ‹some undef = some (Value.bool _)›; cases hh; done))
      all_goals (try refine ⟨trivial, ?_⟩)
      all_goals gi_wp2_with fail
      all_goals go_ret
      all_goals exact .inr ⟨rfl, q, hq, hp1, hx1⟩
/-- What is told ahead of a round: the next root; the world is the one that the round ahead left. -/
def RtG (L : List RootT) (W0 W1 : World) (pre : List RootT) (x : RootT) : Prop := pre ++ [x] <+: L ∧ W0 = W1
theorem all1_seq (T : Tr) (v : Value) (g N : Nat) (ok : Nat → Prop) (w : World) (hok : ∀ k, k < N → ok k) (hg : ok g) (hc : w.cell? ⟨g, 0, none⟩ = some v) (ht : TreeAt w T v) (hb : blk v ≤ N) :
    SeqW Try.prog 57 #[.pointer (some ⟨g, 0, none⟩)] (fun x : RootT => #[Value.agg (encR x).toArray]) (RtG T.list) (fun xs => xs = T.list) (fun q => q ≠ [] ∧ q <+: T.list) ok w := by
  intro lp J Jx W hW h0 hY
  have hcW := (hW.cell (p := ⟨g, 0, none⟩) hg).trans hc
  have hp := each_in T.list ok N lp hok J Jx (fun pre x W hj hl => hY pre x W W hj ⟨hl, rfl⟩) T v [] W (TreeAt.mid hok hW T v hb ht) hb h0 (by simp)
  obtain ⟨a, rfl⟩ := ht.ptr
  have hp' := Lib.hid hp
  clear hp hY hW hc ht hb hok hg
  refine callsIn_of_wp Try.func57 rfl trivial ?_ rfl
  simp only [Try.ntmps57, List.size_toArray, List.length_cons, List.length_nil, Nat.reduceAdd, Nat.reduceSub, Array.replicate_succ, Array.replicate_zero, List.push_toArray, List.append_toArray, List.nil_append, List.cons_append]
  gi_wp2_with (refine ⟨trivial, rfl, ?_⟩; gi_at_call 58; refine hp'.out.mono ?_; rintro e W1 (⟨rfl, hJ1, _⟩ | ⟨rfl, q, hq, hl, hx⟩))
  · go_end0
    exact ⟨⟨_, rfl⟩, .inl ⟨_, W1, rfl, by simpa using hJ1, Below.refl _ _⟩⟩
  · go_end0
    exact ⟨⟨_, rfl⟩, .inr ⟨q, ⟨hq, by simpa using hl⟩, by simpa using hx⟩⟩
theorem all_tree (w : World) (a : Option Addr) :
    Calls Try.prog 50 #[.pointer a] w fun e w' => e = .returned (.func (.func 57) #[] #[.pointer (some ⟨w.heap.size, 0, none⟩)]) ∧ w' = w.alloc (.cells #[.pointer a] 81) := by
  go_enter Try.func50, Try.ntmps50
  go_wp2_with fail
  go_ret
  exact ⟨rfl, rfl⟩
end Go.Proofs.Ytakcnkmlglkkpaa

namespace Go.Proofs.Ytakcnkmlglkkpaa
open Go.RowKit
set_option linter.unusedSimpArgs false
set_option linter.unusedVariables false

theorem zero32 : (List.replicate 32 0 : List Nat).length = 32 := by simp
def rZ : RootT := (⟨#[]⟩, ⟨List.replicate 32 0, zero32⟩)
theorem zeroRt (w : World) : (zeroValue 61).run Try.prog w = .ok (.agg (encR rZ).toArray) w :=
  (zero_of_info (P := Try.prog) (t := 61) (v := .agg (encR rZ).toArray) (n := 33) (by kernel_rfl)).1 w
theorem encR_all (r : RootT) : (encR r).toArray.all (·.oneCell') = true := by
  have h : ∀ v ∈ encR r, v.oneCell' = true := by
    intro v hv
    unfold encR u8s at hv
    rcases List.mem_cons.1 hv with rfl | hv
    · rfl
    · obtain ⟨x, _, rfl⟩ := List.mem_map.1 hv
      rfl
  rw [Array.all_eq_true]
  intro i hi
  exact h _ (by simp)
set_option maxRecDepth 100000 in
set_option maxHeartbeats 4000000 in
theorem least_any (w : World) (t : Tr) (v : Value) (d : RootT) (ht : TreeAt w t v) (hn : ∃ r l h, t = .node r l h) :
    Calls Try.prog 59 #[v] w fun e w' => e = .returned (.agg (encR (t.least d)).toArray) ∧ Below w.heap.size w w' := by
  have hz := zeroRt
  have hi33 : (Try.prog.info? 61).map (·.size) = some 33 := by kernel_rfl
  have hi33' := Lib.hid hi33
  have l33 : Hid (∀ r : RootT, (encR r).length = 33) := Lib.hid encR_length
  have a33 : Hid (∀ r : RootT, (encR r).toArray.size = 33) := Lib.hid fun r => by simp [encR_length]
  have hall := Lib.hid encR_all
  obtain ⟨F, hF⟩ : ∃ F, Hid (∀ _ : Unit, t.least d = F) := ⟨_, Lib.hid fun _ => rfl⟩
  rw [hF.out ()]
  obtain ⟨w0, hw0⟩ : ∃ w0, Hid (∀ _ : Unit, w.alloc (.cells (encR rZ).toArray 61) = w0) := ⟨_, Lib.hid fun _ => rfl⟩
  have hb0 : Hid (Below w.heap.size w w0) := Lib.hid (by rw [← hw0.out ()]; exact (Below.refl _ _).alloc (Nat.le_refl _) _)
  have hx0 : Hid (w0.heap[w.heap.size]? = some (.cells (encR rZ).toArray 61 (0, 0))) := Lib.hid (by rw [← hw0.out ()]; exact heap_alloc_new w _)
  have ht' := Lib.hid (TreeAt.below hb0.out _ _ ht)
  have hn' := Lib.hid hn
  clear ht hn hi33
  go_enter Try.func59, Try.ntmps59
  go_wp2_with fail
  rw [hw0.out ()]
  go_loop [0] (fun x => ∃ (r : RootT) (l h : Tr) (d : RootT), Hid (TreeAt w0 (.node r l h) x) ∧ Hid (∀ _ : Unit, (Tr.node r l h).least d = F)) (fun x => blk x)
  case atStart =>
    obtain ⟨r, l, h, rfl⟩ := hn'.out
    exact ⟨r, l, h, d, ht', hF⟩
  case round =>
    obtain ⟨r, l, h, d2, hu, hf⟩ := hrel
    obtain ⟨g, vl, vh, rfl, hg, hk, tl, th⟩ := hu.out
    have c1 := NodeAt.low ⟨hg⟩
    have qr := Lib.hid (NodeAt.root ⟨hg⟩)
    have kl := Lib.hid hk.1
    have hl' := Lib.hid tl
    clear hg tl th hk hu
    cases l with
    | nil =>
      obtain rfl := hl'.out
      have hf2 : Hid (F = r) := Lib.hid (by rw [← hf.out ()]; rfl)
      have hcel := Lib.hid fun cs : Array Value => setRow_heap w0 w.heap.size _ cs 61 _ hx0.out
      go_wp2_with (first
        | (refine wpList_load_mid rfl 61 _ rfl g 0 rfl (encR r) _ qr.out Try.underlying61 rfl (by rw [l33.out]; exact hi33'.out) ?_)
        | (refine wpList_store_row rfl 61 _ _ rfl w.heap.size (encR r).toArray rfl rfl 61 _ hx0.out (by rw [a33.out]; exact hi33'.out) (by rw [a33.out, a33.out]) (hall.out _) ?_))
      refine bodyPost_ret (results_cell_row rfl _ _ w.heap.size 61 _ (0, 0) _ rfl (hcel.out _) Try.underlying61 rfl (by rw [a33.out]; exact hi33'.out)) rfl ?_
      rw [hf2.out]
      exact ⟨rfl, hb0.out.trans ⟨rfl, rfl, rfl, by simp, fun k hk => setRow_other _ _ _ _ (by omega)⟩⟩
    | node r2 l2 h2 =>
      have hl2 := hl'.out
      obtain ⟨g2, v2, v3, rfl, _⟩ := hl2
      go_wp2_with fail
      go_round
      case rel => exact ⟨r2, l2, h2, r, hl', Lib.hid fun _ => hf.out ()⟩
      case measure => have := kl.out; show g2 + 1 < g + 1; simp only [blk] at this; omega
end Go.Proofs.Ytakcnkmlglkkpaa

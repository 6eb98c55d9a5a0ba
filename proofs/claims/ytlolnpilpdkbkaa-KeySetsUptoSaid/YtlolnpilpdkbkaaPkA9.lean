/- Loads and stores of whole rows inside a fence. No program is named here. Appends and slice literals inside a fence. No program is named here. (Out of XRtZ.) All: an iterator over a set's keys; a range over it. -/
import Derived.Test.YtlolnpilpdkbkaaPkA8
import Derived.Deep.MidRow
import Derived.Laws.Tables
import Derived.Test.YtlolnpilpdkbkaaPkA2
import Derived.Great.Walk

namespace Go.Proofs.Ytlolnpilpdkbkaa
open Go.RowKit
set_option linter.unusedSimpArgs false
set_option linter.unusedVariables false

section
variable {F : Fence} {n : Nat} {P : Program} {ops : Array Oper} {rest : List Oper} {o : Oper} {a : Act} {w w' : World} {Q : Exit → Act → World → Prop}
/-- An operation that is no call and yields a value. -/
theorem wpListIn_val {v : Value} (hw : Region.wanted o (yielded ops a.tmps) = true) (hnd : ∀ c, o.op ≠ .defer c) (hab : o.about P w a.eval = none) (hrun : (execOp a.eval o).run P w = .ok (.value v) w')
    (h : wpListIn F n P ops Q rest (a.put o.dst v) w') : wpListIn F n P ops Q (o :: rest) a w :=
  wpListIn_step fun K hK => by
    rw [if_pos hw]
    unfold Oper.wpIn
    rw [Oper.semAt_plain F _ _ hnd, hrun]
    exact ⟨fun f hf => (by rw [hab] at hf; cases hf), hK _ _ h⟩
theorem wpListIn_skipd (hw : Region.wanted o (yielded ops a.tmps) = true) (hnd : ∀ c, o.op ≠ .defer c) (hab : o.about P w a.eval = none) (hrun : (execOp a.eval o).run P w = .ok .skip w')
    (h : wpListIn F n P ops Q rest (a.put o.dst undef) w') : wpListIn F n P ops Q (o :: rest) a w :=
  wpListIn_step fun K hK => by
    rw [if_pos hw]
    unfold Oper.wpIn
    rw [Oper.semAt_plain F _ _ hnd, hrun]
    exact ⟨fun f hf => (by rw [hab] at hf; cases hf), hK _ _ h⟩
theorem wpListIn_load_mid (hw : Region.wanted o (yielded ops a.tmps) = true) (ty : TypeId) (x : Operand) (ho : o.op = .load ty x)
    (b f : Nat) (hx : a.eval x = .pointer (some ⟨b, f, none⟩)) (cs : List Value) (d : TypeDesc) (hc : w.rangeAt b f cs)
    (hu : P.underlying ty = some d) (hd : d.isRow = true) (hi : (P.info? ty).map (·.size) = some cs.length)
    (h : wpListIn F n P ops Q rest (a.put o.dst (.agg cs.toArray)) w) : wpListIn F n P ops Q (o :: rest) a w :=
  wpListIn_val hw (by rw [ho]; intro c hc; cases hc) (by simp [Oper.about, ho]) (by
    unfold execOp
    simp only [ho, hx, Instr.loadAt, Instr.sureAddr, Sem.run_bind, Sem.run_pure, Result.andThen_ok, run_loadVar_mid w b f ty cs d hc hu hd hi]) h
theorem wpListIn_load_row (hw : Region.wanted o (yielded ops a.tmps) = true) (ty : TypeId) (x : Operand) (ho : o.op = .load ty x)
    (g : Nat) (hx : a.eval x = .pointer (some ⟨g, 0, none⟩)) (t : TypeId) (cs : Array Value) (fr : Nat × Nat) (d : TypeDesc) (hg : w.heap[g]? = some (.cells cs t fr))
    (hu : P.underlying ty = some d) (hd : (match d with | .struct _ | .array _ _ => true | _ => false) = true) (hi : (P.info? ty).map (·.size) = some cs.size)
    (h : wpListIn F n P ops Q rest (a.put o.dst (.agg cs)) w) : wpListIn F n P ops Q (o :: rest) a w :=
  wpListIn_val hw (by rw [ho]; intro c hc; cases hc) (by simp [Oper.about, ho]) (by
    unfold execOp
    simp only [ho, hx, Instr.loadAt, Instr.sureAddr, Sem.run_bind, Sem.run_pure, Result.andThen_ok, run_loadVar_row w g t ty cs fr d hg hu hd hi]) h
theorem wpListIn_store_row (hw : Region.wanted o (yielded ops a.tmps) = true) (ty : TypeId) (x y : Operand) (ho : o.op = .store ty x y)
    (g : Nat) (cells : Array Value) (hx : a.eval x = .pointer (some ⟨g, 0, none⟩)) (hy : a.eval y = .agg cells)
    (t : TypeId) (old : Array Value) (hg : w.heap[g]? = some (.cells old t (0, 0))) (hi : (P.info? ty).map (·.size) = some cells.size)
    (hold : old.size = cells.size) (h1 : cells.all (·.oneCell') = true)
    (h : wpListIn F n P ops Q rest (a.put o.dst undef) (w.setRow g cells)) : wpListIn F n P ops Q (o :: rest) a w :=
  wpListIn_skipd hw (by rw [ho]; intro c hc; cases hc) (by simp [Oper.about, ho]) (by
    unfold execOp
    simp only [ho, hx, hy, Instr.storeAt, Instr.sureAddr, Sem.run_bind, Sem.run_pure, Result.andThen_ok, run_storeVar_row w g t ty old cells hg hi hold h1]) h
end
end Go.Proofs.Ytlolnpilpdkbkaa

namespace Go.Proofs.Ytlolnpilpdkbkaa
open Go.RowKit Go.Shelf
set_option linter.unusedSimpArgs false
set_option linter.unusedVariables false
attribute [local go_sem] Oper.semAt_some

section
variable {F : Fence} {fn : Nat} {P : Program} {ops : Array Oper} {rest : List Oper} {o : Oper} {a : Act} {Q : Exit → Act → World → Prop}
theorem wpListIn_app {t e : TypeId} {z : Value} {size bytes : Nat} (E : ElemOk P t e z size bytes) (w : World) (hgd : o.guard = none) (s x : Operand)
    (ho : o.op = .call { callee := .builtin .append, args := #[s, x], argTypes := #[t, t] })
    {B : Nat} {A : Option Addr} {n c : Nat} {xs : List Value} (hs : a.eval s = .slice A n c) (hown : Own w B e size A n c xs)
    {B2 : Nat} {A2 : Option Addr} {m c2 : Nat} {g : Nat → Value} (hx : a.eval x = .slice A2 m c2) (hr : Rd w B2 A2 (m * size) g) (h1 : ∀ j, j < m * size → (g j).oneCell' = true)
    (hn : n + m ≤ maxLen) (hb : (n + m + (n + m) / 4 + 192) * bytes ≤ 281474976710656) (hB : B ≤ w.heap.size) (N : Nat) (hN : n + m = N) (ys : List Value) (hys : xs ++ (List.range (m * size)).map g = ys)
    (h : ∀ A' c' w', Own w' B e size A' N c' ys → AppAt w w' A A' → Below B w w' →
      wpListIn F fn P ops Q rest (a.put o.dst (.slice A' N c')) w') : wpListIn F fn P ops Q (o :: rest) a w := by
  subst hN hys
  refine wpListIn_plain hgd fun K hK => ?_
  obtain ⟨A', c', w', hrun, h2, h3⟩ := run_app (P := P) E o.type w hown hr h1 hn hb hB (c2 := c2)
  unfold Oper.wpIn
  refine ⟨?_, ?_⟩
  · simp [Oper.about, ho, resolve, Target.leads, Sem.run_pure]
  · rw [Oper.semAt_plain F _ _ (by rw [ho]; intro c hc'; cases hc')]
    simp only [execOp, ho, resolve, invoke, builtin, Sem.run_bind, Sem.run_pure, Result.andThen_ok, List.map_toArray, List.map_cons, List.map_nil, hs, hx, hrun]
    exact hK _ _ (h A' c' w' h2 h3 (h3.below hown hB))
theorem wpListIn_app1 {t e : TypeId} {z : Value} {size bytes : Nat} (E : ElemOk P t e z size bytes) (w : World) (cs : Array Value) (hcs : cs.size = size) (hgd : o.guard = none) (s x : Operand)
    (ho : o.op = .call { callee := .builtin .append, args := #[s, x], argTypes := #[t, t] })
    {B : Nat} {A : Option Addr} {n c : Nat} {xs : List Value} (hs : a.eval s = .slice A n c) (hown : Own w B e size A n c xs)
    (hx : a.eval x = .slice (some ⟨w.heap.size, 0, none⟩) 1 1) (h1 : ∀ u ∈ cs.toList, u.oneCell' = true)
    (hn : n + 1 ≤ maxLen) (hb : (n + 1 + (n + 1) / 4 + 192) * bytes ≤ 281474976710656) (hB : B ≤ w.heap.size) (N : Nat) (hN : n + 1 = N) (ys : List Value) (hys : xs ++ cs.toList = ys)
    (h : ∀ A' c' w', Own w' B e size A' N c' ys → AppAt w w' A A' → Below B w w' →
      wpListIn F fn P ops Q rest (a.put o.dst (.slice A' N c')) w') : wpListIn F fn P ops Q (o :: rest) a (w.alloc (.cells cs e)) := by
  subst hN hys
  have hrd : Rd (w.alloc (.cells cs e)) (w.heap.size + 1) (some ⟨w.heap.size, 0, none⟩) (1 * size) (fun j => cs.toList[j]?.getD undef) := fun _ => by
    refine ⟨w.heap.size, 0, rfl, by omega, fun j hj => ?_⟩
    rw [cell_of_row (w.alloc (.cells cs e)) w.heap.size (0 + j) cs e (0, 0) (heap_alloc_new w _)]
    simp [show j < cs.size by omega]
  refine wpListIn_app E (w.alloc (.cells cs e)) hgd s x ho hs (hown.alloc _) hx hrd ?_ hn hb (by simp; omega) (n + 1) rfl _ rfl ?_
  · intro j hj
    have hj' : j < cs.toList.length := by simp; omega
    simp only [List.getElem?_eq_getElem hj', Option.getD_some]
    exact h1 _ (List.getElem_mem hj')
  · intro A' c' w' h2 h3 h5
    have hl : (List.range (1 * size)).map (fun j => cs.toList[j]?.getD undef) = cs.toList := by
      apply List.ext_getElem
      · simp [hcs]
      · intro j hj _
        have hj' : j < cs.toList.length := by simp at hj ⊢; omega
        simp [show j < cs.size by simpa using hj']
    rw [hl] at h2
    have back : ∀ row, (w.alloc (.cells cs e)).grownBy w' row → w.grownBy w' row := fun row hg =>
      ⟨hg.os, hg.tape, hg.output, by have := hg.size; simp at this; omega, fun k hk hne => (hg.block k (by simp; omega) hne).trans (Below.heap_alloc w _ k hk)⟩
    refine h A' c' w' h2 ?_ (((Below.refl B w).alloc hB _).trans h5)
    rcases h3 with ⟨h6, h7⟩ | ⟨k, h6, h7, h8⟩
    · exact .inl ⟨h6, back _ h7⟩
    · exact .inr ⟨k, h6, by simp at h7; omega, back _ h8⟩
end
theorem run_bslice {P : Program} (w : World) (t e : TypeId) (len : Nat) (parts : Array (Nat × Value)) (cells : Array Value) (hu : P.underlying t = some (.slice e))
    (hf : P.builtSlice e len parts.toList = some cells) : (Instr.buildSlice t len parts).run P w = .ok (.slice (some ⟨w.heap.size, 0, none⟩) len len) (w.alloc (.cells cells e)) := by
  unfold Program.builtSlice at hf
  cases hie : P.info? e with
  | none => simp [hie] at hf
  | some ie =>
    simp only [hie] at hf
    cases hz : ie.zero with
    | none => simp [hz] at hf
    | some z =>
      simp only [hz] at hf
      by_cases hc : len * ie.size > 2 ^ 24 ∨ len * ie.size = 0
      · simp [hc] at hf
      · rw [if_neg hc] at hf
        exact run_buildSlice w t e len parts cells ie z hu hie hz (fun h' => hc (Or.inl h')) (fun h' => hc (Or.inr h')) hf
/-- What an append keeps that is no cells. -/
theorem AppAt.keeps {w w' : World} {A A' : Option Addr} {B : Nat} {e : TypeId} {size n c : Nat} {xs : List Value} (h : AppAt w w' A A') (ho : Own w B e size A n c xs) : KeepsOthers w w' :=
  KeepsOthers.of_grownBy h.grown fun j o hj hk => by
    rcases ho.2 with ⟨hv, _⟩ | ⟨g, cap, cur, hv, _, hg, _⟩
    · injection hv with hA
      rw [hA] at hj
      cases hj
    · injection hv with hA
      rw [hA] at hj
      cases hj
      rw [hg] at hk
      cases hk
      rfl
end Go.Proofs.Ytlolnpilpdkbkaa

namespace Go.Proofs.Ytlolnpilpdkbkaa
open Go.RowKit Go.Maps Go.Shelf
set_option linter.unusedSimpArgs false
set_option linter.unusedVariables false
attribute [local go_sem] Oper.semAt_some

/-- An iterator's variable at g, its row of keys. -/
def AllAt (w : World) (g : Nat) (A : Option Addr) (c : Nat) (ks : List (List Nat)) : Prop :=
  w.heap[g]? = some (.cells #[.slice A ks.length c] 34 (0, 0)) ∧ Own w 0 25 32 A ks.length c (rowsK ks)
theorem own_same {w w' : World} {B : Nat} {e : TypeId} {size n c : Nat} {A : Option Addr} {xs : List Value} (h : Own w B e size A n c xs) (hk : ∀ k, blockOf A = some k → w'.heap[k]? = w.heap[k]?) : Own w' B e size A n c xs := by
  refine ⟨h.1, ?_⟩
  rcases h.2 with h0 | ⟨g, cap, cur, hv, hg, hh, rest⟩
  · exact .inl h0
  · have hv' := hv
    injection hv' with hA
    subst hA
    exact .inr ⟨g, cap, cur, hv, hg, (hk g rfl).trans hh, rest⟩
theorem AllAt.keep {w w' : World} {g c : Nat} {A : Option Addr} {ks : List (List Nat)} (h : AllAt w g A c ks) (h1 : w'.heap[g]? = w.heap[g]?) (h2 : ∀ k, blockOf A = some k → w'.heap[k]? = w.heap[k]?) : AllAt w' g A c ks :=
  ⟨h1.trans h.1, own_same h.2 h2⟩
theorem AllAt.cell {w : World} {g c : Nat} {A : Option Addr} {ks : List (List Nat)} (h : AllAt w g A c ks) : w.cell? ⟨g, 0, none⟩ = some (.slice A ks.length c) := by
  unfold World.cell?
  simp [h.1]
theorem AllAt.lts {w : World} {g c : Nat} {A : Option Addr} {ks : List (List Nat)} (h : AllAt w g A c ks) : g < w.heap.size ∧ ∀ k, blockOf A = some k → k < w.heap.size :=
  ⟨(Array.getElem?_eq_some_iff.1 h.1).1, fun k hk => (h.2.lt k hk).2⟩
theorem AllAt.below {w w' : World} {g c B : Nat} {A : Option Addr} {ks : List (List Nat)} (h : AllAt w g A c ks) (hb : Below B w w') (hB : w.heap.size ≤ B) : AllAt w' g A c ks :=
  h.keep (hb.block _ (by have := h.lts.1; omega)) (fun k hk => hb.block _ (by have := h.lts.2 k hk; omega))
def AllP (w : World) (ks : List (List Nat)) (e : Ending) (w' : World) : Prop :=
  ∃ g A c, e = .returned (.func (.func 53) #[] #[.pointer (some ⟨g, 0, none⟩)]) ∧ AllAt w' g A c ks ∧ Below w.heap.size w w' ∧ w.heap.size ≤ g ∧ ∀ k, blockOf A = some k → w.heap.size ≤ k
set_option maxRecDepth 100000 in
set_option maxHeartbeats 1000000 in
theorem allK_any (w : World) (s m n : Nat) (ks : List (List Nat)) (h : SetK w s m n ks) (hn : ks.length * 40 + 8000 ≤ 281474976710656) :
    Calls Try.prog 26 #[.pointer (some ⟨s, 0, none⟩)] w (AllP w ks) := by
  have hS := Lib.hid (sorted_any w s m n ks h hn)
  have hfin : Hid (∀ w2 A c, Own w2 w.heap.size 25 32 A ks.length c (rowsK ks) → Below w.heap.size w w2 →
      AllP w ks (.returned (.func (.func 53) #[] #[.pointer (some ⟨w2.heap.size, 0, none⟩)])) (w2.alloc (.cells #[.slice A ks.length c] 34))) := Lib.hid fun w2 A c ho hb =>
    ⟨w2.heap.size, A, c, rfl, ⟨heap_alloc_new w2 _, (ho.alloc _).base (Nat.zero_le _)⟩, hb.alloc hb.size _, hb.size, fun k hk => (ho.lt k hk).1⟩
  obtain ⟨Q, hQ⟩ : ∃ Q, AllP w ks = Q := ⟨_, rfl⟩
  obtain ⟨N, hN⟩ : ∃ N, ks.length = N := ⟨_, rfl⟩
  unfold SortedP at hS
  rw [hQ] at hfin ⊢
  rw [hN] at hfin hS
  clear hQ hN h hn
  go_enter Try.func26, Try.ntmps26
  go_wp2_with (go_at_call 52; refine hS.out.mono ?_; rintro e w2 ⟨A, c, rfl, ho, hb⟩; have hf := Lib.hid (hfin.out _ _ _ ho hb); clear ho hb hS)
  exact hf.out
/-- What is told ahead of a round. -/
def KyG (ks : List (List Nat)) (W0 W1 : World) (pre : List (List Nat)) (x : List Nat) : Prop := pre ++ [x] <+: ks ∧ Below W0.heap.size W0 W1
theorem pre_of_take {ks : List (List Nat)} {k : Nat} {x : List Nat} (hx : ks[k]? = some x) : ks.take k ++ [x] <+: ks := by
  have := List.take_prefix (k + 1) ks
  rwa [List.take_add_one, hx, Option.toList_some] at this
set_option maxRecDepth 20000 in
set_option maxHeartbeats 2000000 in
theorem allK_seq (w : World) (g c : Nat) (A : Option Addr) (ks : List (List Nat)) (ok : Nat → Prop) (h : AllAt w g A c ks) (hr : Rise32 ks) (hL : ks.length < 140737488355328) (hg : ok g) (hA : ∀ k, blockOf A = some k → ok k) (hok : ∀ k, ok k → k < w.heap.size) :
    SeqW Try.prog 53 #[.pointer (some ⟨g, 0, none⟩)] (fun x : List Nat => #[Value.agg (u8s x).toArray]) (KyG ks) (fun xs => xs = ks) (fun q => q <+: ks) ok w := by
  intro lp J Jx W hW h0 hY
  have hAt : ∀ W', Mid ok w W' → AllAt W' g A c ks := fun W' hW' => h.keep (hW'.block g hg) (fun k hk => hW'.block k (hA k hk))
  have hc : W.cell? ⟨g, 0, none⟩ = some (.slice A ks.length c) := (hAt W hW).cell
  obtain ⟨N, hN⟩ : ∃ N, ks.length = N := ⟨_, rfl⟩
  have hAt' := Lib.hid hAt
  have hW0 := Lib.hid hok
  have hY' := Lib.hid hY
  have hW' := Lib.hid hW
  have hr' := Lib.hid hr
  rw [hN] at hc hL
  have hN' := Lib.hid hN
  have hi32 : Hid ((Try.prog.info? 25).map (·.size) = some 32) := Lib.hid (by kernel_rfl)
  have hzs : Hid ((u8s (zeros 32)).toArray.size = 32) := Lib.hid (by simp [u8s, zeros])
  have hzk := zeroKy
  clear hY hW hAt h hg hA hr hN hok
  refine callsIn_of_wp Try.func53 rfl trivial ?_ rfl
  simp only [Try.ntmps53, List.size_toArray, List.length_cons, List.length_nil, Nat.reduceAdd, Nat.reduceSub, Array.replicate_succ, Array.replicate_zero, List.push_toArray, List.append_toArray, List.nil_append, List.cons_append]
  gi_wp2
  gi_loopw [7] (fun i wr => ∃ k : Nat, k ≤ N ∧ i = .int .i64 k ∧ J (ks.take k) wr ∧ Mid ok w wr) (fun i _ => N - (intOf i).toNat)
  case atStart => exact ⟨0, by omega, rfl, by simpa using h0, hW'.out⟩
  case round =>
    clear hc h0
    obtain ⟨k, hk, rfl, hJ, hM⟩ := hrel
    have hJ' := Lib.hid hJ
    have hM' := Lib.hid hM
    clear hJ hM
    by_cases hlt : k < N
    · obtain ⟨x, hx⟩ : ∃ x, ks[k]? = some x := ⟨_, List.getElem?_eq_getElem (by rw [hN'.out]; exact hlt)⟩
      have hxk : IsK x := hr'.out.ok x (List.mem_of_getElem? hx)
      obtain ⟨b, off, rfl, hbl, hrg⟩ := ownK_at (hAt'.out wr hM'.out).2 (fun y hy => (hr'.out.ok y hy).1) hx
      have hrg' := Lib.hid hrg
      have hxs : Hid ((u8s x).toArray.size = 32) := Lib.hid (by simp [u8s, hxk.1])
      have hxl : Hid ((u8s x).length = 32) := Lib.hid (by simp [u8s, hxk.1])
      have hpre : Hid (ks.take k ++ [x] <+: ks) := Lib.hid (pre_of_take hx)
      have htk : Hid (ks.take (k + 1) = ks.take k ++ [x]) := Lib.hid (by rw [List.take_add_one, hx, Option.toList_some])
      have hkn := key_new wr x
      have hkc := Lib.hid hkn.1
      have hbn := Lib.hid hkn.2
      clear hx hrg hkn
      gi_wp2_with (first
        | (refine wpListIn_load_mid (by rfl) 25 _ rfl b (off + k * 32) rfl (u8s x) _ hrg'.out Try.underlying25 rfl (by rw [hxl.out]; exact hi32.out) ?_)
        | (refine wpListIn_store_row (by rfl) 25 _ _ rfl wr.heap.size (u8s x).toArray rfl rfl 25 _ (heap_alloc_new wr _) (by rw [hxs.out]; exact hi32.out) (by rw [hxs.out, hzs.out]) (all_oneCell_toArray u8s_one) ?_
           generalize ((wr.alloc (.cells (u8s (zeros 32)).toArray 25)).setRow wr.heap.size (u8s x).toArray) = w5 at hkc hbn ⊢
           generalize hgk : wr.heap.size = gk at hkc ⊢
           clear hgk)
        | (refine wpListIn_load_row (by rfl) 25 _ rfl gk rfl 25 (u8s x).toArray (0, 0) _ hkc.out Try.underlying25 rfl (by rw [hxs.out]; exact hi32.out) ?_
           obtain ⟨fn, tmps, assign, body_, hy, hR⟩ := hY'.out (ks.take k) x wr w5 hJ'.out ⟨hpre.out, hbn.out⟩))
      refine ⟨rfl, hR.mono ?_⟩
      rintro e W' (⟨rfl, hJ3, hb3⟩ | ⟨rfl, hJx⟩)
      · have hb4 : Mid ok w W' := (hM'.out.trans ⟨hbn.out.size, fun j hj => hbn.out.block j (Nat.lt_of_lt_of_le (hW0.out j hj) hM'.out.size)⟩).trans hb3
        have hJ4 : J (ks.take (k + 1)) W' := by rw [htk.out]; exact hJ3
        clear hb3 hJ3 hy hR
        gi_wp2
        go_roundw
        case rel => exact ⟨k + 1, by omega, by go_num, hJ4, hb4⟩
        case measure => simp [intOf]; omega
      · gi_wp2
        refine bodyPost_ret (results_none rfl _ _ _) rfl ?_
        exact ⟨⟨_, rfl⟩, .inr ⟨_, hpre.out, hJx⟩⟩
    · have hall : Hid (ks.take k = ks) := Lib.hid (List.take_of_length_le (by rw [hN'.out]; omega))
      gi_wp2
      go_end0
      exact ⟨⟨_, rfl⟩, .inl ⟨_, wr, hall.out, hJ'.out, Below.refl _ _⟩⟩
end Go.Proofs.Ytlolnpilpdkbkaa

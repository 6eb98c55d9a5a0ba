/- Get of a table. Steps of a region whose orders are gone through one by one; what a call leaves alone. Set and Drop of a table: what they answer. -/
import Derived.Test.YtakcnkmlglkkpaaPkR14
import Derived.Laws.ResultCell
import Derived.Deep.WholeRow

namespace Go.Proofs.Ytakcnkmlglkkpaa
open Go.RowKit
set_option linter.unusedSimpArgs false
set_option linter.unusedVariables false

theorem results_row_tmp {P : Program} {fn : Func} {p u : Tmp} {ty : TypeId} (h : fn.results = #[.cell p ty, .tmp u]) (tmps : Array Value) (w : World) (g : Nat) (t : TypeId) (cs : Array Value) (fr : Nat × Nat) (d : TypeDesc) (v : Value)
    (hp : tmps.getD p undef = .pointer (some ⟨g, 0, none⟩)) (hv : tmps.getD u undef = v) (hg : w.heap[g]? = some (.cells cs t fr))
    (hu : P.underlying ty = some d) (hd : (match d with | .struct _ | .array _ _ => true | _ => false) = true) (hi : (P.info? ty).map (·.size) = some cs.size) :
    (results fn tmps).run P w = .ok (.tuple #[.agg cs, v]) w := by
  have hp' : tmps[p]?.getD undef = .pointer (some ⟨g, 0, none⟩) := by simpa using hp
  have hv' : tmps[u]?.getD undef = v := by simpa using hv
  simp [results, h, hp', hv', asAddr, run_loadVar_row w g t ty cs fr d hg hu hd hi]
def kZ : RKey := ⟨List.replicate 32 0, zero32⟩
def encKy (k : RKey) : List Value := u8s k.1
theorem encKy_length (k : RKey) : (encKy k).length = 32 := by simp [encKy, u8s, k.2]
theorem encKy_all (k : RKey) : (encKy k).toArray.all (·.oneCell') = true := by
  rw [Array.all_eq_true]
  intro i hi
  simp [encKy, u8s]
  rfl
theorem zeroKy (w : World) : (zeroValue 35).run Try.prog w = .ok (.agg (encKy kZ).toArray) w :=
  (zero_of_info (P := Try.prog) (t := 35) (v := .agg (encKy kZ).toArray) (n := 32) (by kernel_rfl)).1 w
theorem buildKy (w : World) : (Instr.build 35 #[]).run Try.prog w = .ok (.agg (encKy kZ).toArray) w := run_build w _ _ _ (by kernel_rfl)
theorem setRow_bel {B : Nat} {a w : World} (h : Below B a w) {g : Nat} (hg : B ≤ g) (cs : Array Value) : Below B a (w.setRow g cs) := h.trans ⟨rfl, rfl, rfl, by simp, fun k hk => setRow_other _ _ _ _ (by omega)⟩
theorem NodeAt.key {w : World} {g : Nat} {r : RootT} {vl vh : Value} {d n : Nat} (h : NodeAt w g r vl vh d n) : w.rangeAt g 1 (encKy r.2) := fun j v hj => by
  have hr := h.root (j + 1) v (by simpa [encR, encKy] using hj)
  rw [Nat.add_comm 1 j]
  simpa using hr
/-- What Get answers of a tree. -/
def getT (t : Tr) (s : ByteArray) : RKey × Nat :=
  match t.find s with
  | .nil => (kZ, 132)
  | .node r _ _ => (r.2, 0)
set_option maxRecDepth 100000 in
set_option maxHeartbeats 4000000 in
theorem get_any (w : World) {B g c : Nat} {A : Option Addr} {vs : List Tr} {ps : List Value} (h : Tbl w B g A c vs ps) {t : Tr} (ht : vs[vs.length - 1]? = some t) (s : ByteArray) :
    Calls Try.prog 26 #[.pointer (some ⟨g, 0, none⟩), .string s] w fun e w' =>
      ((Name s ∧ e = .returned (.tuple #[.agg (encKy (getT t s).1).toArray, .int .i64 ((getT t s).2 : Nat)])) ∨ (¬ Name s ∧ e = .returned (.tuple #[.agg (encKy kZ).toArray, .int .i64 130]))) ∧ Below w.heap.size w w' := by
  have hz := zeroKy
  have hbz := buildKy
  have hi32 : Hid ((Try.prog.info? 35).map (·.size) = some 32) := Lib.hid (by kernel_rfl)
  have l32 : Hid (∀ k : RKey, (encKy k).length = 32) := Lib.hid encKy_length
  have a32 : Hid (∀ k : RKey, (encKy k).toArray.size = 32) := Lib.hid fun k => by simp [encKy_length]
  have hone := Lib.hid encKy_all
  obtain ⟨w0, hw0⟩ : ∃ w0, Hid (∀ _ : Unit, w.alloc (.cells (encKy kZ).toArray 35) = w0) := ⟨_, Lib.hid fun _ => rfl⟩
  have hb0 : Hid (Below w.heap.size w w0) := Lib.hid (by rw [← hw0.out ()]; exact (Below.refl _ _).alloc (Nat.le_refl _) _)
  have hx0 : Hid (w0.heap[w.heap.size]? = some (.cells (encKy kZ).toArray 35 (0, 0))) := Lib.hid (by rw [← hw0.out ()]; exact heap_alloc_new w _)
  have hn := Lib.hid (namedT_any w0 (h.below hb0.out) ht s)
  have hf : Hid (∀ (m : Nat) (p : Value), TreeAt w0 t p → Calls Try.prog 48 #[p, .string s] (w0.drewN m) fun e w' => (∃ v', e = .returned v' ∧ TreeAt w0 (t.find s) v') ∧ w0.drewN m = w') := Lib.hid fun m p hp => by
    refine (find_any (w0.drewN m) t p s (hp.drew m)).mono ?_
    rintro e w' ⟨⟨v', h1, h2⟩, h3⟩
    exact ⟨⟨v', h1, TreeAt.below (w := w0.drewN m) (w' := w0) ⟨rfl, rfl, rfl, Nat.le_refl _, fun _ _ => rfl⟩ _ _ h2⟩, h3⟩
  clear h ht
  go_enter Try.func26, Try.ntmps26
  go_wp2_with fail
  rw [hw0.out ()]
  have hcel : Hid (∀ (m : Nat) (cs : Array Value), ((w0.drewN m).setRow w.heap.size cs).heap[w.heap.size]? = some (.cells cs 35 (0, 0))) := Lib.hid fun m cs => setRow_heap (w0.drewN m) w.heap.size _ cs 35 _ hx0.out
  have hfin : Hid (∀ (m : Nat) (cs : Array Value), Below w.heap.size w ((w0.drewN m).setRow w.heap.size cs)) := Lib.hid fun m cs => setRow_bel (below_drewN hb0.out m) (Nat.le_refl _) cs
  refine hn.out.mono ?_
  rintro e w1 ⟨(⟨p, rfl, hs, tp⟩ | ⟨rfl, hs⟩), m, rfl⟩
  · have tp' := Lib.hid tp
    have hfm := Lib.hid (hf.out m p tp)
    have hgt : getT t s = match t.find s with | .nil => (kZ, 132) | .node r _ _ => (r.2, 0) := rfl
    clear tp
    cases hF : t.find s with
    | nil =>
      rw [hF] at hgt
      simp only at hgt
      have hgt' := Lib.hid hgt
      have hF' := Lib.hid hF
      clear hgt hF
      go_wp2_with (first
        | (go_at_call 48; refine hfm.out.mono ?_; rintro e w2 ⟨⟨v', rfl, t2⟩, rfl⟩; rw [hF'.out] at t2; obtain rfl := t2)
        | (refine wpList_store_row rfl 35 _ _ rfl w.heap.size (encKy kZ).toArray rfl rfl 35 _ hx0.out (by rw [a32.out]; exact hi32.out) (by rw [a32.out]) (hone.out _) ?_))
      refine bodyPost_ret (results_row_tmp rfl _ _ w.heap.size 35 _ (0, 0) _ (.int .i64 132) rfl rfl (hcel.out m _) Try.underlying35 rfl (by rw [a32.out]; exact hi32.out)) rfl ⟨.inl ⟨hs, ?_⟩, hfin.out m _⟩
      rw [hgt'.out]
      rfl
    | node r l h =>
      rw [hF] at hgt
      simp only at hgt
      have hgt' := Lib.hid hgt
      have hF' := Lib.hid hF
      clear hgt hF
      go_wp2_with (first
        | (go_at_call 48; refine hfm.out.mono ?_; rintro e w2 ⟨⟨v', rfl, t2⟩, rfl⟩; rw [hF'.out] at t2; obtain ⟨gn, vl, vh, rfl, hg, _, _, _⟩ := t2; have hky := Lib.hid (NodeAt.key (w := w0) ⟨hg⟩); clear hg)
        | (refine wpList_load_mid rfl 35 _ rfl gn 1 rfl (encKy r.2) _ hky.out Try.underlying35 rfl (by rw [l32.out]; exact hi32.out) ?_)
        | (refine wpList_store_row rfl 35 _ _ rfl w.heap.size (encKy r.2).toArray rfl rfl 35 _ hx0.out (by rw [a32.out]; exact hi32.out) (by rw [a32.out, a32.out]) (hone.out _) ?_))
      refine bodyPost_ret (results_row_tmp rfl _ _ w.heap.size 35 _ (0, 0) _ (.int .i64 0) rfl rfl (hcel.out m _) Try.underlying35 rfl (by rw [a32.out]; exact hi32.out)) rfl ⟨.inl ⟨hs, ?_⟩, hfin.out m _⟩
      rw [hgt'.out]
      rfl
  · go_wp2_with (refine wpList_store_row rfl 35 _ _ rfl w.heap.size (encKy kZ).toArray rfl rfl 35 _ hx0.out (by rw [a32.out]; exact hi32.out) (by rw [a32.out]) (hone.out _) ?_)
    refine bodyPost_ret (results_row_tmp rfl _ _ w.heap.size 35 _ (0, 0) _ (.int .i64 130) rfl rfl (hcel.out m _) Try.underlying35 rfl (by rw [a32.out]; exact hi32.out)) rfl ⟨.inr ⟨hs, rfl⟩, hfin.out m _⟩
end Go.Proofs.Ytakcnkmlglkkpaa

namespace Go.Proofs.Ytakcnkmlglkkpaa
open Go.RowKit
set_option linter.unusedSimpArgs false
set_option linter.unusedVariables false

section
variable {P : Program} {md : Region.Mode} {ops : Array Oper} {Q : Exit → Act → World → Prop} {o : Oper} {a : Act} {w : World} {K : Act → World → Prop} {E : Prop}
theorem takeA {i d : Nat} {oi : Oper} {v : Value} {fuel : Nat} {listed : Array Bool} {t : Array Value} {df : List Deferred} {w : World} (hi : ops[i]? = some oi) (hd : oi.dst = some d)
    (hs : Region.noSelect ops = true) (hf : Region.free md ops listed i = true) (hr : (Region.ready md ops listed).contains i = true)
    (hQ : ∀ c a w, Q (.panic c) (a.put oi.dst v) w → Q (.panic c) a w) (hy : Yields P ops oi v ⟨t, df⟩)
    (h : wpAny P md ops Q fuel (listed.setIfInBounds i true) ⟨t.setIfInBounds d v, df⟩ w) : wpAny P md ops Q (fuel + 1) listed ⟨t, df⟩ w := by
  refine wpAny_take hi hs hf hr hQ hy ?_
  rw [hd]
  exact h
theorem step_load_rw (hw : Region.wanted o (yielded ops a.tmps) = true) (ty : TypeId) (x : Operand) (ho : o.op = .load ty x)
    (g : Nat) (hx : a.eval x = .pointer (some ⟨g, 0, none⟩)) (t : TypeId) (cs : Array Value) (fr : Nat × Nat) (d : TypeDesc) (hg : w.heap[g]? = some (.cells cs t fr))
    (hu : P.underlying ty = some d) (hd : (match d with | .struct _ | .array _ _ => true | _ => false) = true) (hi : (P.info? ty).map (·.size) = some cs.size)
    (h : K (a.put o.dst (.agg cs)) w) : if Region.wanted o (yielded ops a.tmps) = true then Oper.wp P o a w K Q else E := by
  rw [if_pos hw]
  exact wp_load_row ty x ho g hx t cs fr d hg hu hd hi h
theorem step_app1 {t e : TypeId} {z : Value} {size bytes : Nat} (L : ElemOk P t e z size bytes) (cs : Array Value) (hcs : cs.size = size) (hgd : o.guard = none) (s x : Operand)
    (ho : o.op = .call { callee := .builtin .append, args := #[s, x], argTypes := #[t, t] })
    {B : Nat} {A : Option Addr} {n c : Nat} {xs : List Value} (hs : a.eval s = .slice A n c) (hown : Own w B e size A n c xs)
    (hx : a.eval x = .slice (some ⟨w.heap.size, 0, none⟩) 1 1) (h1 : ∀ u ∈ cs.toList, u.oneCell' = true)
    (hn : n + 1 ≤ maxLen) (hb : (n + 1 + (n + 1) / 4 + 192) * bytes ≤ 281474976710656) (hB : B ≤ w.heap.size) (N : Nat) (hN : n + 1 = N) (ys : List Value) (hys : xs ++ cs.toList = ys)
    (h : ∀ A' c' w', Own w' B e size A' N c' ys → AppAt w w' A A' → Below B w w' → K (a.put o.dst (.slice A' N c')) w') :
    if Region.wanted o (yielded ops a.tmps) = true then Oper.wp P o a (w.alloc (.cells cs e)) K Q else E := by
  rw [if_pos (by simp [Region.wanted, hgd])]
  subst hN hys
  obtain ⟨A', c', w', hrun, h2, h3⟩ := run_app (P := P) L o.type (w.alloc (.cells cs e)) (hown.alloc _) (B2 := w.heap.size + 1) (A2 := some ⟨w.heap.size, 0, none⟩) (m := 1) (c2 := 1) (g := fun j => cs.toList[j]?.getD undef)
    (fun _ => ⟨w.heap.size, 0, rfl, by omega, fun j hj => by
      rw [cell_of_row (w.alloc (.cells cs e)) w.heap.size (0 + j) cs e (0, 0) (heap_alloc_new w _)]
      simp [show j < cs.size by omega]⟩)
    (fun j hj => by
      have hj' : j < cs.toList.length := by simp; omega
      simp only [List.getElem?_eq_getElem hj', Option.getD_some]
      exact h1 _ (List.getElem_mem hj')) hn hb (by simp; omega)
  have hl : (List.range (1 * size)).map (fun j => cs.toList[j]?.getD undef) = cs.toList := by
    apply List.ext_getElem
    · simp [hcs]
    · intro j hj _
      have hj' : j < cs.toList.length := by simp at hj ⊢; omega
      simp [show j < cs.size by simpa using hj']
  rw [hl] at h2
  have h5 := h3.below (hown.alloc _) (by simp; omega : B ≤ (w.alloc (.cells cs e)).heap.size)
  have back : ∀ row, (w.alloc (.cells cs e)).grownBy w' row → w.grownBy w' row := fun row hg =>
    ⟨hg.os, hg.tape, hg.output, by have := hg.size; simp at this; omega, fun k hk hne => (hg.block k (by simp; omega) hne).trans (Below.heap_alloc w _ k hk)⟩
  unfold Oper.wp execOp
  simp only [ho, resolve, invoke, builtin, Sem.run_bind, Sem.run_pure, Result.andThen_ok, List.map_toArray, List.map_cons, List.map_nil, hs, hx, hrun]
  refine h A' c' w' h2 ?_ (((Below.refl B w).alloc hB _).trans h5)
  rcases h3 with ⟨h6, h7⟩ | ⟨k, h6, h7, h8⟩
  · exact .inl ⟨h6, back _ h7⟩
  · exact .inr ⟨k, h6, by simp at h7; omega, back _ h8⟩
theorem yields_build (hw : Region.wanted o (yielded ops a.tmps) = true) (t : TypeId) (parts : Array (Nat × Operand)) (ho : o.op = .build t parts) (vs : Array (Nat × Value)) (hv : (parts.map fun (i, x) => (i, a.eval x)) = vs) (v : Value)
    (hr : ∀ w, (Instr.build t vs).run P w = .ok v w) : Yields P ops o v a :=
  .inl ⟨hw, fun w => by
    unfold execOp
    simp only [ho, hv, Sem.run_bind, hr w, Result.andThen_ok, Sem.run_pure]⟩
end
/-- What lies elsewhere than S says stays. -/
structure Gro (S : Nat → Prop) (w w' : World) : Prop where
  os : w'.os = w.os
  tape : w'.tape = w.tape
  output : w'.output = w.output
  size : w.heap.size ≤ w'.heap.size
  block : ∀ k, k < w.heap.size → ¬ S k → w'.heap[k]? = w.heap[k]?
section
variable {S S' : Nat → Prop} {w w' w2 : World} {B : Nat}
theorem Gro.of_below (h : Below w.heap.size w w') : Gro S w w' := ⟨h.os, h.tape, h.output, h.size, fun k hk _ => h.block k hk⟩
theorem Gro.trans (h : Gro S w w') (k : Gro S' w' w2) (hS : ∀ j, S' j → S j ∨ w.heap.size ≤ j) : Gro S w w2 :=
  ⟨k.os.trans h.os, k.tape.trans h.tape, k.output.trans h.output, Nat.le_trans h.size k.size, fun j hj hn => (k.block j (Nat.lt_of_lt_of_le hj h.size) (fun hs => by
    rcases hS j hs with h1 | h1
    · exact hn h1
    · omega)).trans (h.block j hj hn)⟩
theorem Gro.below (h : Gro S w w') (hB : B ≤ w.heap.size) (hS : ∀ j, S j → B ≤ j) : Below B w w' :=
  ⟨h.os, h.tape, h.output, h.size, fun k hk => h.block k (by omega) (fun hs => by have := hS k hs; omega)⟩
end
theorem TreeAt.keepN {w w' : World} (hk : ∀ (k : Nat) (cs : Array Value) (fr : Nat × Nat), w.heap[k]? = some (.cells cs 92 fr) → w'.heap[k]? = w.heap[k]?) : ∀ (t : Tr) (v : Value), TreeAt w t v → TreeAt w' t v
  | .nil, v, h => h
  | .node r l h, v, ⟨g, vl, vh, hv, hg, hb, hl, hh⟩ => ⟨g, vl, vh, hv, (hk g _ _ hg).trans hg, hb, TreeAt.keepN hk l vl hl, TreeAt.keepN hk h vh hh⟩
theorem Own.same {w w' : World} {B : Nat} {e : TypeId} {size n c : Nat} {A : Option Addr} {xs : List Value} (h : Own w B e size A n c xs) (hk : ∀ k, blockOf A = some k → w'.heap[k]? = w.heap[k]?) : Own w' B e size A n c xs := by
  refine ⟨h.1, ?_⟩
  rcases h.2 with h2 | ⟨g, cap, cur, hv, hg, hh, r⟩
  · exact Or.inl h2
  · refine Or.inr ⟨g, cap, cur, hv, hg, ?_, r⟩
    rw [hk g ?_]
    · exact hh
    · injection hv with hA
      subst hA
      rfl
theorem Own.type {w : World} {B : Nat} {e : TypeId} {size n c : Nat} {A : Option Addr} {xs : List Value} (h : Own w B e size A n c xs) {k : Nat} (hk : blockOf A = some k) : ∃ cs fr, w.heap[k]? = some (.cells cs e fr) := by
  rcases h.2 with ⟨hv, _⟩ | ⟨g, cap, cur, hv, hg, hh, r⟩
  · injection hv with hA
    rw [hA] at hk
    cases hk
  · injection hv with hA
    rw [hA] at hk
    cases hk
    exact ⟨_, _, hh⟩
theorem setCell_blk {w : World} {g : Nat} {v0 v : Value} {t : TypeId} (h : w.heap[g]? = some (.cells #[v0] t (0, 0))) : (w.setCell ⟨g, 0, none⟩ v).heap[g]? = some (.cells #[v] t (0, 0)) := by
  simp [World.setCell, Array.getElem?_modify, h]
theorem setCell_oth {w : World} {g k : Nat} {v : Value} (h : k ≠ g) : (w.setCell ⟨g, 0, none⟩ v).heap[k]? = w.heap[k]? := by
  simp [World.setCell, Array.getElem?_modify, Ne.symm h]
theorem Tbl.dis {w : World} {B g c : Nat} {A : Option Addr} {vs : List Tr} {ps : List Value} (h : Tbl w B g A c vs ps) : blockOf A ≠ some g := fun e => by
  obtain ⟨cs, fr, hk⟩ := h.own.type e
  rw [h.blk] at hk
  cases hk
theorem Tbl.gro {w w' : World} {B g c : Nat} {A : Option Addr} {vs : List Tr} {ps : List Value} {S : Nat → Prop} (h : Tbl w B g A c vs ps) (hg : Gro S w w') (hS : ∀ j, S j → j ≠ g ∧ blockOf A ≠ some j ∧ ∀ cs fr, w.heap[j]? ≠ some (.cells cs 92 fr)) : Tbl w' B g A c vs ps := by
  refine ⟨(hg.block g h.lt (fun hs => (hS g hs).1 rfl)).trans h.blk, h.gB, h.own.same (fun k hk => hg.block k (h.own.lt k hk).2 (fun hs => (hS k hs).2.1 hk)), ?_, h.ne, h.few, h.many, h.rise, h.nam⟩
  intro i t ht
  obtain ⟨p, h1, h2⟩ := h.tree i t ht
  exact ⟨p, h1, TreeAt.keepN (fun k cs fr hk => hg.block k (Array.getElem?_eq_some_iff.1 hk).1 (fun hs => (hS k hs).2.2 cs fr hk)) _ _ h2⟩
/-- A version more. -/
theorem Tbl.more {w w1 w4 : World} {B g c c' : Nat} {A A' : Option Addr} {vs : List Tr} {ps : List Value} {t' : Tr} {v1 : Value} (h : Tbl w B g A c vs ps) (hw : Below w.heap.size w w1) (ht : TreeAt w1 t' v1)
    (ho : Own w4 B 81 1 A' (vs.length + 1) c' (ps ++ [v1])) (hat : AppAt w1 w4 A A') (hfew : t'.cnt ≤ 64) (hri : Rise t'.list) (hna : ∀ r ∈ t'.list, Name r.1) (hm : vs.length < 100000) :
    Tbl (w4.setCell ⟨g, 0, none⟩ (.slice A' (vs.length + 1) c')) B g A' c' (vs ++ [t']) (ps ++ [v1]) ∧ Gro (fun j => j = g ∨ blockOf A = some j) w (w4.setCell ⟨g, 0, none⟩ (.slice A' (vs.length + 1) c')) ∧ (∀ j, blockOf A' = some j → blockOf A = some j ∨ w.heap.size ≤ j) := by
  have h1 := h.below hw
  have hgr := hat.grown
  have hAA : ∀ j, blockOf A' = some j → blockOf A = some j ∨ w.heap.size ≤ j := fun j hj => by
    rcases hat with ⟨e, _⟩ | ⟨k, e, hk, _⟩
    · exact .inl (e ▸ hj)
    · rw [hj] at e
      cases e
      exact .inr (Nat.le_trans hw.size hk)
  have hne : blockOf A' ≠ some g := hat.off h1.lt h1.dis
  have hb4 : w4.heap[g]? = some (.cells #[.slice A vs.length c] 68 (0, 0)) := (hgr.block g h1.lt (fun e => h1.dis e.symm)).trans h1.blk
  have node : ∀ (k : Nat) (cs : Array Value) (fr : Nat × Nat), w1.heap[k]? = some (.cells cs 92 fr) → (w4.setCell ⟨g, 0, none⟩ (.slice A' (vs.length + 1) c')).heap[k]? = w1.heap[k]? := fun k cs fr hk => by
    have kg : k ≠ g := fun e => by
      subst e
      rw [h1.blk] at hk
      cases hk
    rw [setCell_oth kg]
    refine hgr.block k (Array.getElem?_eq_some_iff.1 hk).1 fun e => ?_
    obtain ⟨cs2, fr2, h2⟩ := h1.own.type e.symm
    rw [hk] at h2
    cases h2
  refine ⟨⟨?_, h.gB, by simpa using ho.same (fun k hk => setCell_oth (fun e => hne (by rw [e] at hk; exact hk))), ?_, by simp, ?_, by simp; omega, ?_, ?_⟩, ?_, hAA⟩
  · rw [setCell_blk hb4]
    simp
  · intro i t hi
    rw [List.getElem?_append] at hi
    by_cases hl : i < vs.length
    · rw [if_pos hl] at hi
      obtain ⟨p, hp, htr⟩ := h1.tree i t hi
      have hpl := (List.getElem?_eq_some_iff.1 hp).1
      exact ⟨p, by rw [List.getElem?_append_left hpl]; exact hp, TreeAt.keepN node _ _ htr⟩
    · rw [if_neg hl] at hi
      have hps : ps.length = vs.length := by have := h.own.len; omega
      have h0 : i - vs.length = 0 := by have := (List.getElem?_eq_some_iff.1 hi).1; simpa using this
      rw [h0] at hi
      cases hi
      have hi0 : i = ps.length := by omega
      exact ⟨v1, by rw [hi0]; simp, TreeAt.keepN node _ _ ht⟩
  · intro t hi
    rcases List.mem_append.1 hi with hi | hi
    · exact h.few t hi
    · rw [List.mem_singleton.1 hi]; exact hfew
  · intro t hi
    rcases List.mem_append.1 hi with hi | hi
    · exact h.rise t hi
    · rw [List.mem_singleton.1 hi]; exact hri
  · intro t hi
    rcases List.mem_append.1 hi with hi | hi
    · exact h.nam t hi
    · rw [List.mem_singleton.1 hi]; exact hna
  · refine ⟨hgr.os.trans hw.os, hgr.tape.trans hw.tape, hgr.output.trans hw.output, ?_, fun k hk hn => ?_⟩
    · have := hgr.size
      have := hw.size
      simp [World.setCell]
      omega
    · rw [setCell_oth (fun e => hn (.inl e))]
      exact (hgr.block k (Nat.lt_of_lt_of_le hk hw.size) (fun e => hn (.inr e.symm))).trans (hw.block k hk)
/-! ### What set and drop do to a list -/
theorem rise_low {s : ByteArray} {x : RootT} {l : List RootT} (hr : Rise (x :: l)) (h : hasL s (x :: l)) : ltS s x.1 = false := by
  obtain ⟨y, hy, he⟩ := h
  rcases List.mem_cons.1 hy with rfl | hy
  · rw [ltS_right he, ltS_irrefl]
  · have h1 := hr.1 y hy
    cases h2 : ltS s x.1 with
    | false => rfl
    | true =>
      have := ltS_trans h2 h1
      rw [ltS_right he, ltS_irrefl] at this
      cases this
theorem setL_len {r : RootT} : ∀ l : List RootT, Rise l → hasL r.1 l → (setL r l).length = l.length
  | [], _, ⟨_, h, _⟩ => nomatch h
  | x :: l, hr, h => by
    have h0 := rise_low hr h
    simp only [setL]
    rw [if_neg (by rw [h0]; decide)]
    split
    · rename_i hlt
      obtain ⟨y, hy, he⟩ := h
      rcases List.mem_cons.1 hy with rfl | hy
      · rw [ltS_left he, ltS_irrefl] at hlt
        cases hlt
      · rw [List.length_cons, setL_len l hr.2 ⟨y, hy, he⟩, List.length_cons]
    · rfl
theorem mem_setL {r y : RootT} : ∀ l : List RootT, y ∈ setL r l → y = r ∨ y ∈ l
  | [], h => .inl (by simpa [setL] using h)
  | x :: l, h => by
    simp only [setL] at h
    split at h
    · simpa using h
    · split at h
      · rcases List.mem_cons.1 h with rfl | h
        · exact .inr (by simp)
        · rcases mem_setL l h with h | h
          · exact .inl h
          · exact .inr (by simp [h])
      · rcases List.mem_cons.1 h with rfl | h
        · exact .inl rfl
        · exact .inr (by simp [h])
theorem setL_rise {r : RootT} : ∀ l : List RootT, Rise l → Rise (setL r l)
  | [], _ => by simp [setL, Rise]
  | x :: l, hr => by
    simp only [setL]
    cases h1 : ltS r.1 x.1 with
    | true =>
      rw [if_pos rfl]
      exact ⟨fun y hy => by
        rcases List.mem_cons.1 hy with rfl | hy
        · exact h1
        · exact ltS_trans h1 (hr.1 y hy), hr⟩
    | false =>
      rw [if_neg (by decide)]
      cases h2 : ltS x.1 r.1 with
      | true =>
        rw [if_pos rfl]
        exact ⟨fun y hy => by
          rcases mem_setL l hy with rfl | hy
          · exact h2
          · exact hr.1 y hy, setL_rise l hr.2⟩
      | false =>
        rw [if_neg (by decide)]
        have he := ltS_three h1 h2
        exact ⟨fun y hy => by rw [ltS_left he]; exact hr.1 y hy, hr.2⟩
theorem mem_dropL {s : ByteArray} {y : RootT} : ∀ l : List RootT, y ∈ dropL s l → y ∈ l
  | [], h => h
  | x :: l, h => by
    simp only [dropL] at h
    split at h
    · exact h
    · split at h
      · rcases List.mem_cons.1 h with rfl | h
        · simp
        · simp [mem_dropL l h]
      · simp [h]
theorem dropL_rise {s : ByteArray} : ∀ l : List RootT, Rise l → Rise (dropL s l)
  | [], _ => trivial
  | x :: l, hr => by
    simp only [dropL]
    split
    · exact hr
    · split
      · exact ⟨fun y hy => hr.1 y (mem_dropL l hy), dropL_rise l hr.2⟩
      · exact hr.2
end Go.Proofs.Ytakcnkmlglkkpaa

namespace Go.Proofs.Ytakcnkmlglkkpaa
open Go.RowKit
set_option linter.unusedSimpArgs false
set_option linter.unusedVariables false

theorem elN : ElemOk Try.prog 66 81 (.pointer none) 1 8 := ⟨Try.underlying66, by kernel_rfl, rfl, by decide⟩
theorem buildRtL (s : ByteArray) (a0 a1 a2 a3 a4 a5 a6 a7 a8 a9 a10 a11 a12 a13 a14 a15 a16 a17 a18 a19 a20 a21 a22 a23 a24 a25 a26 a27 a28 a29 a30 a31 : Nat) :
    Try.prog.built 61 [(0, .string s), (1, .agg (u8s [a0, a1, a2, a3, a4, a5, a6, a7, a8, a9, a10, a11, a12, a13, a14, a15, a16, a17, a18, a19, a20, a21, a22, a23, a24, a25, a26, a27, a28, a29, a30, a31]).toArray)] = some (Value.string s :: u8s [a0, a1, a2, a3, a4, a5, a6, a7, a8, a9, a10, a11, a12, a13, a14, a15, a16, a17, a18, a19, a20, a21, a22, a23, a24, a25, a26, a27, a28, a29, a30, a31]).toArray := by kernel_rfl
theorem buildRt (s : ByteArray) (k : RKey) (w : World) : (Instr.build 61 #[(0, .string s), (1, .agg (encKy k).toArray)]).run Try.prog w = .ok (.agg (encR (s, k)).toArray) w := by
  refine run_build w _ _ _ ?_
  obtain ⟨l, hl⟩ := k
  match l, hl with
  | [a0, a1, a2, a3, a4, a5, a6, a7, a8, a9, a10, a11, a12, a13, a14, a15, a16, a17, a18, a19, a20, a21, a22, a23, a24, a25, a26, a27, a28, a29, a30, a31], _ => exact buildRtL s a0 a1 a2 a3 a4 a5 a6 a7 a8 a9 a10 a11 a12 a13 a14 a15 a16 a17 a18 a19 a20 a21 a22 a23 a24 a25 a26 a27 a28 a29 a30 a31
theorem Tbl.mid {w w1 w4 : World} {B g c : Nat} {A A' : Option Addr} {vs : List Tr} {ps : List Value} (h : Tbl w B g A c vs ps) (hw : Below w.heap.size w w1) (hat : AppAt w1 w4 A A') :
    w4.cell? ⟨g, 0, none⟩ = some (.slice A vs.length c) ∧ w4.frozen? ⟨g, 0, none⟩ = false := by
  have h1 := h.below hw
  have hb4 : w4.heap[g]? = some (.cells #[.slice A vs.length c] 68 (0, 0)) := (hat.grown.block g h1.lt (fun e => h1.dis e.symm)).trans h1.blk
  exact ⟨by simp [World.cell?, hb4], by simp [World.frozen?, hb4]⟩
/-- What a change leaves: the table with some versions, the rest of the memory as it was. -/
def Chd (w : World) (B g : Nat) (A : Option Addr) (vs' : List Tr) (w' : World) : Prop :=
  ∃ A' c' ps', Tbl w' B g A' c' vs' ps' ∧ Gro (fun j => j = g ∨ blockOf A = some j) w w' ∧ (∀ j, blockOf A' = some j → blockOf A = some j ∨ w.heap.size ≤ j)
theorem Tbl.still {w w' : World} {B g c : Nat} {A : Option Addr} {vs : List Tr} {ps : List Value} (h : Tbl w B g A c vs ps) (hb : Below w.heap.size w w') : Chd w B g A vs w' := ⟨A, c, ps, h.below hb, Gro.of_below hb, fun j hj => .inl hj⟩
end Go.Proofs.Ytakcnkmlglkkpaa

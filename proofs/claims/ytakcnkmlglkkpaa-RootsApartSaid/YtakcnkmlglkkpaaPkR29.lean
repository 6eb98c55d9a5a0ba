/- The program's Turns: what is left of a list; steps. -/
import Derived.Test.YtakcnkmlglkkpaaPkR28

namespace Go.Proofs.Ytakcnkmlglkkpaa
open Go.RowKit
set_option linter.unusedSimpArgs false
set_option linter.unusedVariables false
open Classical

def slLen : Value → Nat
  | .slice _ n _ => n
  | _ => 0
section
variable {w w' : World} {B g : Nat} {A : Option Addr} {L : Lists}
theorem TblL.below (h : TblL w B g A L) (hb : Below w.heap.size w w') : TblL w' B g A L := by
  obtain ⟨c, vs, ps, e, h⟩ := h
  exact ⟨c, vs, ps, e, h.below hb⟩
theorem TblL.few (h : TblL w B g A L) {l : List RootT} (hl : l ∈ L) : l.length ≤ 64 := by
  obtain ⟨c, vs, ps, rfl, h⟩ := h
  obtain ⟨t, ht, rfl⟩ := List.mem_map.1 hl
  rw [Tr.cnt_list]
  exact h.few t ht
end
/-- What is left of a list. -/
structure LeftR (w2 : World) (A : Option Addr) (n c : Nat) (l : List RootT) : Prop where
  row : RowR w2 w2.heap.size A l
  len : l.length = n
  cap : n ≤ c
theorem LeftR.cons {w2 : World} {A : Option Addr} {n c : Nat} {x : RootT} {l : List RootT} (h : LeftR w2 A n c (x :: l)) :
    ∃ b o, A = some ⟨b, o, none⟩ ∧ b < w2.heap.size ∧ (∀ W, Below w2.heap.size w2 W → W.cell? ⟨b, o, none⟩ = some (.string x.1)) ∧ (∀ W, Below w2.heap.size w2 W → W.rangeAt b (o + 1) (encKy x.2)) ∧ LeftR w2 (cutR A 1 c) (n - 1) (c - 1) l := by
  have hx : (x :: l)[0]? = some x := rfl
  obtain ⟨b, o, e, hb, _⟩ := RowR.range h.row hx
  have hr : ∀ W, Below w2.heap.size w2 W → W.rangeAt b o (encR x) := fun W hW => by
    obtain ⟨b0, o0, e0, _, hr⟩ := RowR.range (Rd.below h.row hW) hx
    rw [e] at e0
    cases e0
    simpa using hr
  have hl := h.len
  have hc := h.cap
  simp only [List.length_cons] at hl
  refine ⟨b, o, e, hb, fun W hW => by simpa using hr W hW 0 _ (show (encR x)[0]? = some (.string x.1) from rfl), fun W hW => key_range (hr W hW), ⟨?_, by omega, by omega⟩⟩
  have := RowR.drop h.row 1 c (by simp) (by simp only [List.length_cons]; omega)
  simpa using this
theorem LeftR.nil {w2 : World} {A : Option Addr} {c : Nat} {l : List RootT} (h : LeftR w2 A 0 c l) : l = [] := List.eq_nil_of_length_eq_zero h.len
section
variable {ops : Array Oper} {rest : List Oper} {o : Oper} {a : Act} {w : World} {K : Act → World → Prop} {Q : Exit → Act → World → Prop} {E : Prop}
theorem wpList_slL1 (hg : o.guard = none) (x y : Operand) (ho : o.op = .slice 24 x (some y) none none) {A : Option Addr} {n c : Nat} (hx : a.eval x = .slice A n c) (hy : a.eval y = .int .i64 1) (hi : 1 ≤ n)
    (h : wpList Try.prog ops Q rest (a.put o.dst (.slice (cutR A 1 c) (n - 1) (c - 1))) w) : wpList Try.prog ops Q (o :: rest) a w :=
  wpList_slL hg x y ho hx (i := 1) hy hi h
theorem wpList_buildTn (hg : o.guard = none) (ps : Array (Nat × Operand)) (ho : o.op = .build 55 ps) (s : ByteArray) (p q : Bool) (j k : RKey)
    (he : ps.map (fun x => (x.1, a.eval x.2)) = #[(0, .string s), (1, .bool p), (2, .bool q), (3, .agg (encKy j).toArray), (4, .agg (encKy k).toArray)])
    (h : wpList Try.prog ops Q rest (a.put o.dst (.agg (encT ⟨s, p, q, j, k⟩).toArray)) w) : wpList Try.prog ops Q (o :: rest) a w :=
  wpList_plain hg fun K hK => by
    unfold Oper.wp execOp
    simp only [ho, he, Sem.run_bind, buildTn, Result.andThen_ok, Sem.run_pure]
    exact hK _ _ h
theorem wpList_bslT (hg : o.guard = none) (t : TurnT) (t1 : Operand) (ho : o.op = .buildSlice 51 1 #[(0, t1)]) (hx : a.eval t1 = .agg (encT t).toArray)
    (h : wpList Try.prog ops Q rest (a.put o.dst (.slice (some ⟨w.heap.size, 0, none⟩) 1 1)) (w.alloc (.cells (encT t).toArray 55))) : wpList Try.prog ops Q (o :: rest) a w :=
  wpList_plain hg fun K hK => by
    have hr := run_bslice (P := Try.prog) w 51 55 1 #[(0, .agg (encT t).toArray)] (encT t).toArray Try.underlying51 (builtT t)
    unfold Oper.wp execOp
    simp only [ho, List.map_toArray, List.map_cons, List.map_nil, hx, Sem.run_bind, hr, Result.andThen_ok, Sem.run_pure]
    exact hK _ _ h
end
section
variable {w2 wr : World} {a b ra rb : List RootT} {Ao : Option Addr} {no co : Nat} {O : List TurnT}
theorem PTI.drew (h : PTI w2 wr a b ra rb Ao no co O) (m : Nat) : PTI w2 (wr.drewN m) a b ra rb Ao no co O :=
  ⟨below_drewN h.bel m, h.own.drewN m, h.len, h.le, h.eq⟩
theorem PTI.more {w4 : World} {ra' rb' : List RootT} {A4 : Option Addr} {c4 : Nat} {t : TurnT} (h : PTI w2 wr a b ra rb Ao no co O)
    (ho : Own w4 w2.heap.size 55 67 A4 (no + 1) c4 (rowsT O ++ encT t)) (hb : Below w2.heap.size wr w4) (hl : ra'.length + rb'.length + 1 ≤ ra.length + rb.length) (hm : mergeQ ra rb = t :: mergeQ ra' rb') : PTI w2 w4 a b ra' rb' A4 (no + 1) c4 (O ++ [t]) :=
  ⟨h.bel.trans hb, by rw [rowsT_snoc]; exact ho, by simp [h.len], by have := h.le; omega, by rw [← h.eq, hm]; simp⟩
theorem PTI.on {w4 : World} (h : PTI w2 wr a b ra rb Ao no co O) (ho : Own w4 w2.heap.size 55 67 Ao no co (rowsT O)) (hb : Below w2.heap.size wr w4) : PTI w2 w4 a b ra rb Ao no co O :=
  ⟨h.bel.trans hb, ho, h.len, h.le, h.eq⟩
theorem PTI.skip {ra' rb' : List RootT} (h : PTI w2 wr a b ra rb Ao no co O) (hl : ra'.length + rb'.length ≤ ra.length + rb.length) (hm : mergeQ ra rb = mergeQ ra' rb') : PTI w2 wr a b ra' rb' Ao no co O :=
  ⟨h.bel, h.own, h.len, by have := h.le; omega, by rw [← hm]; exact h.eq⟩
end
/-! ### The turn that is being made, beside all that stood when the round began -/
theorem belTA {B b : Nat} {a : World} (hb : B ≤ b) : ∀ (vs : List Value) (o : Nat) (w : World), Below B a w → Below B a (w.setCells b o vs)
  | [], _, _, h => h
  | v :: vs, o, w, h => belTA hb vs (o + 1) _ (h.setCell (p := ⟨b, o, none⟩) hb v)
structure PTO (wr W : World) (T : Nat) (t : TurnT) : Prop where
  bel : Below wr.heap.size wr W
  ta : TA W T t
  lt : T < W.heap.size
  ge : wr.heap.size ≤ T
theorem PTO.new (wr : World) (t : TurnT) : PTO wr (wr.alloc (.cells (encT t).toArray 55)) wr.heap.size t :=
  ⟨(Below.refl _ _).alloc (Nat.le_refl _) _, TA.new wr t, by simp, Nat.le_refl _⟩
section
variable {wr W : World} {T : Nat} {t : TurnT}
theorem PTO.drew (h : PTO wr W T t) (m : Nat) : PTO wr (W.drewN m) T t := ⟨below_drewN h.bel m, h.ta.drew m, h.lt, h.ge⟩
theorem PTO.drew1 (h : PTO wr W T t) : PTO wr W.drew T t := h.drew 1
theorem setCells_heap_size (b : Nat) : ∀ (vs : List Value) (o : Nat) (w : World), (w.setCells b o vs).heap.size = w.heap.size
  | [], _, _ => rfl
  | v :: vs, o, w => (setCells_heap_size b vs (o + 1) _).trans (by simp [World.setCell])
theorem PTO.all (h : PTO wr W T t) (t' : TurnT) : PTO wr (W.setCells T 0 (encT t')) T t' := ⟨belTA h.ge _ _ _ h.bel, h.ta.all t', by rw [setCells_heap_size]; exact h.lt, h.ge⟩
theorem PTO.key (h : PTO wr W T t) (k : RKey) : PTO wr (W.setCells T 35 (encKy k)) T { t with new := k } := ⟨belTA h.ge _ _ _ h.bel, h.ta.key k, by rw [setCells_heap_size]; exact h.lt, h.ge⟩
theorem PTO.name (h : PTO wr W T t) (s : ByteArray) : PTO wr (W.setCell ⟨T, 0, none⟩ (.string s)) T { t with name := s } := ⟨h.bel.setCell (p := ⟨T, 0, none⟩) h.ge _, h.ta.name s, by simpa [World.setCell] using h.lt, h.ge⟩
theorem PTO.has (h : PTO wr W T t) (b : Bool) : PTO wr (W.setCell ⟨T, 2, none⟩ (.bool b)) T { t with has := b } := ⟨h.bel.setCell (p := ⟨T, 2, none⟩) h.ge _, h.ta.has b, by simpa [World.setCell] using h.lt, h.ge⟩
theorem TA.old (h : TA W T t) : W.rangeAt T 3 (encKy t.old) := fun j v hj => by
  have hl : j < 32 := by have := (List.getElem?_eq_some_iff.1 hj).1; rwa [encKy_length] at this
  refine h.cell ?_
  unfold encT
  rw [List.append_assoc, List.getElem?_append_right (by simp), List.getElem?_append_left (by rw [encKy_length]; simp; omega)]
  simpa using hj
theorem TA.new_ (h : TA W T t) : W.rangeAt T 35 (encKy t.new) := fun j v hj => by
  refine h.cell ?_
  unfold encT
  rw [List.getElem?_append_right (by simp [encKy_length])]
  simpa [encKy_length] using hj
theorem TA.nm (h : TA W T t) : W.cell? ⟨T, 0, none⟩ = some (.string t.name) := h.cell (by simp [encT])
theorem TA.hd (h : TA W T t) : W.cell? ⟨T, 1, none⟩ = some (.bool t.had) := h.cell (by simp [encT])
theorem TA.hs (h : TA W T t) : W.cell? ⟨T, 2, none⟩ = some (.bool t.has) := h.cell (by simp [encT])
end
theorem TA.k35 {W : World} {T : Nat} {t : TurnT} (h : TA W T t) : W.there T 35 32 := fun j hj => by
  have := h.there (35 + j) (by omega)
  rwa [Nat.zero_add] at this
theorem PTI.below {w2 wr W : World} {a b ra rb : List RootT} {Ao : Option Addr} {no co : Nat} {O : List TurnT} (h : PTI w2 wr a b ra rb Ao no co O) (hb : Below wr.heap.size wr W) : PTI w2 W a b ra rb Ao no co O :=
  ⟨h.bel.trans (hb.mono h.bel.size), h.own.below hb (fun k hk => (h.own.lt k hk).2), h.len, h.le, h.eq⟩
end Go.Proofs.Ytakcnkmlglkkpaa

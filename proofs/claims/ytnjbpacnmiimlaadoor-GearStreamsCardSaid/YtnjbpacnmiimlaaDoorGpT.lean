/- GearPieces: what stands while the pieces are gone through. -/
import Derived.Test.YtnjbpacnmiimlaaDoorGpS
import Derived.Test.YtnjbpacnmiimlaaDoorGpW
import Derived.Test.YtnjbpacnmiimlaaDoorFxH
import Derived.Test.YtnjbpacnmiimlaaDoorGearK
import Derived.Test.YtnjbpacnmiimlaaDoorGLent
import Derived.Test.YtnjbpacnmiimlaaDoorGLeft
namespace Go.Proofs.YtnjbpacnmiimlaaDoor
open Go.RowKit Go.Shelf

set_option maxRecDepth 20000 in
theorem pieces_any (a m x : Int) (A : Option Addr) (L c : Nat) (w : World) :
    Calls Tryd.prog 19 #[.agg #[.int .i64 a, .int .i64 m, .int .i64 x], .slice A L c] w fun e w' => (∃ gr gd, e = .returned (.func (.func 33) #[] #[.pointer (some ⟨gr, 0, none⟩), .pointer (some ⟨gd, 0, none⟩)]) ∧
      w'.cell? ⟨gr, 0, none⟩ = some (.int .i64 a) ∧ w'.cell? ⟨gr, 1, none⟩ = some (.int .i64 m) ∧ w'.cell? ⟨gr, 2, none⟩ = some (.int .i64 x) ∧ w'.cell? ⟨gd, 0, none⟩ = some (.slice A L c)) ∧ Below w.heap.size w w' := by
  go_enter Tryd.func19, Tryd.ntmps19
  go_wp2_with fail
  go_ret
  have h0 := heap_alloc2_old w (.cells #[.int .i64 a, .int .i64 m, .int .i64 x] 23) (.cells #[.slice A L c] 24)
  have h1 := heap_alloc2_new w (.cells #[.int .i64 a, .int .i64 m, .int .i64 x] 23) (.cells #[.slice A L c] 24)
  exact ⟨⟨w.heap.size, w.heap.size + 1, rfl, cell_of_row _ _ 0 _ _ _ h0, cell_of_row _ _ 1 _ _ _ h0, cell_of_row _ _ 2 _ _ _ h0, cell_of_row _ _ 0 _ _ _ h1⟩, ((Below.refl _ _).alloc (Nat.le_refl _) _).alloc (by simp) _⟩

theorem gp_equalIn_func {P : Program} (w : World) (d : Nat) (t : TypeId) {ps rs : Array TypeId} {v : Bool} (h : P.underlying t = some (.func ps rs v)) (f : Fn) (a b : Array Value) : (Op.equalIn (d + 1) t (.func f a b) .nilFunc).run P w = .ok false w := by
  simp [Op.equalIn, run_underlying h]
theorem gp_equal_func {P : Program} (w : World) (t : TypeId) {ps rs : Array TypeId} {v : Bool} (h : P.underlying t = some (.func ps rs v)) (f : Fn) (a b : Array Value) : (Op.equal t (.func f a b) .nilFunc).run P w = .ok false w := gp_equalIn_func w 9999 t h f a b
theorem gp_eql_seq (w : World) (f : Fn) (a b : Array Value) : (binOp .eql 43 (.func f a b) .nilFunc).run Tryd.prog w = .ok (.bool false) w := by
  simp [binOp, gp_equal_func w _ Tryd.underlying43 f a b]

theorem own_ne {W : World} {B e size n c k : Nat} {A : Option Addr} {xs : List Value} (h : Own W B e size A n c xs) {cs : Array Value} {t : TypeId} {f : Nat × Nat} (hk : W.heap[k]? = some (.cells cs t f)) (ht : t ≠ e) : blockOf A ≠ some k := fun e1 => by
  rcases h.2 with ⟨hv, _⟩ | ⟨g, cap, cur, hv, _, hg, _⟩
  · injection hv with hA
    rw [hA] at e1
    cases e1
  · injection hv with hA
    rw [hA] at e1
    have e2 : g = k := by injection e1
    subst e2
    rw [hg] at hk
    injection hk with hk
    injection hk with _ h2
    exact ht h2.symm
theorem own_ne_def {W : World} {B e size n c k : Nat} {A : Option Addr} {xs : List Value} (h : Own W B e size A n c xs) {l : Option (List Deferred)} (hk : W.heap[k]? = some (.deferred l)) : blockOf A ≠ some k := fun e1 => by
  rcases h.2 with ⟨hv, _⟩ | ⟨g, cap, cur, hv, _, hg, _⟩
  · injection hv with hA
    rw [hA] at e1
    cases e1
  · injection hv with hA
    rw [hA] at e1
    have e2 : g = k := by injection e1
    subst e2
    rw [hg] at hk
    cases hk
theorem set_grownBy (W : World) (b j : Nat) (v : Value) : W.grownBy (W.setCell ⟨b, j, none⟩ v) (some b) :=
  ⟨rfl, rfl, rfl, by simp [World.setCell], fun k _ hk => heap_setCell_other W _ k _ (fun e => hk (by rw [e]))⟩
theorem lt_of_heap {W : World} {k : Nat} {o : Obj} (h : W.heap[k]? = some o) : k < W.heap.size := (Array.getElem?_eq_some_iff.1 h).1

/-- What stands of the lists. K: the block of the variable kept. -/
structure KpI (K : Nat) (Ds : List Nat) (zs : List Pt) (AK : Option Addr) (cK : Nat) (W : World) : Prop where
  ke : W.heap[K]? = some (.cells #[.slice AK zs.length cK] 45 (0, 0))
  own : Own W (K + 1) 24 1 AK zs.length cK (zs.map Pt.v)
  each : ∀ x ∈ zs, Own W (K + 1) 5 1 x.A x.l.length x.c (u8s x.l)
  len : ∀ x ∈ zs, x.l.length ≤ 1048576
  dis : zs.Pairwise fun x y => Dis x.A y.A
  ds : ∀ D ∈ Ds, W.heap[D]? = some (.deferred (some []))
section
variable {K : Nat} {W W' : World} {Ds : List Nat} {zs : List Pt} {AK : Option Addr} {cK : Nat}
theorem KpI.cell (h : KpI K Ds zs AK cK W) : W.cell? ⟨K, 0, none⟩ = some (.slice AK zs.length cK) ∧ W.frozen? ⟨K, 0, none⟩ = false := ⟨cell_of_row _ _ 0 _ _ _ h.ke, frozen_of_row _ _ 0 _ _ h.ke⟩
theorem KpI.keep (h : KpI K Ds zs AK cK W) (hb : Below W.heap.size W W') : KpI K Ds zs AK cK W' :=
  ⟨(hb.block _ (lt_of_heap h.ke)).trans h.ke, h.own.below hb fun j hj => (h.own.lt j hj).2, fun x hx => (h.each x hx).below hb fun j hj => ((h.each x hx).lt j hj).2, h.len, h.dis, fun D hD => (hb.block _ (lt_of_heap (h.ds D hD))).trans (h.ds D hD)⟩
theorem KpI.puts {D : Nat} (h : KpI K Ds zs AK cK W) (hp : Puts D W W') (h3 : ∀ E ∈ Ds, E < D) : KpI K Ds zs AK cK W' :=
  ⟨hp.cells _ _ _ _ h.ke, h.own.puts hp, fun x hx => (h.each x hx).puts hp, h.len, h.dis, fun E hE => (hp.bel.block _ (h3 E hE)).trans (h.ds E hE)⟩
/-- A variable's cell is set. -/
theorem KpI.set (h : KpI K Ds zs AK cK W) {g : Nat} {cs : Array Value} (hg : W.heap[g]? = some (.cells cs 3 (0, 0))) (v : Value) : KpI K Ds zs AK cK (W.setCell ⟨g, 0, none⟩ v) := by
  have hG := set_grownBy W g 0 v
  have ho : ∀ k, k ≠ g → (W.setCell ⟨g, 0, none⟩ v).heap[k]? = W.heap[k]? := fun k hk => heap_setCell_other W _ k _ hk
  refine ⟨(ho K fun e => ?_).trans h.ke, h.own.kept hG fun k hk e => own_ne h.own hg (by decide) (by rw [hk]; exact e.symm), fun x hx => (h.each x hx).kept hG fun k hk e => own_ne (h.each x hx) hg (by decide) (by rw [hk]; exact e.symm), h.len, h.dis, fun D hD => (ho D fun e => ?_).trans (h.ds D hD)⟩
  · have := h.ke
    rw [e, hg] at this
    injection this with this
    injection this with _ h2
    exact absurd h2 (by decide)
  · have := h.ds D hD
    rw [e, hg] at this
    cases this
theorem KpI.app (h : KpI K Ds zs AK cK W) {A' : Option Addr} {c' : Nat} {x : Pt} (hat : AppAt W W' AK A') (ho : Own W' (K + 1) 24 1 A' (zs.length + 1) c' (zs.map Pt.v ++ [x.v]))
    (hx : Own W (K + 1) 5 1 x.A x.l.length x.c (u8s x.l)) (hl : x.l.length ≤ 1048576) (hd : ∀ y ∈ zs, Dis y.A x.A) :
    KpI K Ds (zs ++ [x]) A' c' (W'.setCell ⟨K, 0, none⟩ (.slice A' (zs.length + 1) c')) := by
  have hlt := lt_of_heap h.ke
  have hg := hat.grown
  have hb : Below (K + 1) W W' := hat.below h.own (by omega)
  have hli : W'.heap[K]? = some (.cells #[.slice AK zs.length cK] 45 (0, 0)) := (hb.block _ (by omega)).trans h.ke
  have h5 : ∀ k, k ≠ K → (W'.setCell ⟨K, 0, none⟩ (.slice A' (zs.length + 1) c')).heap[k]? = W'.heap[k]? := fun k hk => heap_setCell_other W' _ k _ hk
  have hlow : ∀ {e n c : Nat} {A : Option Addr} {xs : List Value}, Own W' (K + 1) e 1 A n c xs → Own (W'.setCell ⟨K, 0, none⟩ (.slice A' (zs.length + 1) c')) (K + 1) e 1 A n c xs := fun h => h.setFar (p := ⟨K, 0, none⟩) (Nat.lt_succ_self _) _
  have hu := fun (y : Pt) (hy : Own W (K + 1) 5 1 y.A y.l.length y.c (u8s y.l)) => hlow (hat.other hy (h.own.unlike hy (by decide)))
  exact {
    ke := by
      have := heap_setCell_same W' _ 0 _ _ (.slice A' (zs.length + 1) c') hli
      rw [List.length_append]
      exact this
    own := by
      rw [List.length_append, List.map_append]
      exact hlow ho
    each := fun y hy => by
      rcases List.mem_append.1 hy with hy | hy
      · exact hu y (h.each y hy)
      · simp at hy
        subst hy
        exact hu _ hx
    len := fun y hy => by
      rcases List.mem_append.1 hy with hy | hy
      · exact h.len y hy
      · simp at hy
        subst hy
        exact hl
    dis := List.pairwise_append.2 ⟨h.dis, by simp, fun y hy z hz => by
      simp at hz
      subst hz
      exact hd y hy⟩
    ds := fun D hD => by
      have hd := h.ds D hD
      refine (h5 D fun e => ?_).trans ((hg.block D (lt_of_heap hd) (fun e => own_ne_def h.own hd e.symm)).trans hd)
      rw [e, h.ke] at hd
      cases hd }
/-- What an append to kept leaves of a variable. -/
theorem KpI.var (h : KpI K Ds zs AK cK W) {A' : Option Addr} {c' n' : Nat} (hat : AppAt W W' AK A') {g : Nat} {v : Value} (hg : W.heap[g]? = some (.cells #[v] 3 (0, 0))) :
    (W'.setCell ⟨K, 0, none⟩ (.slice A' n' c')).heap[g]? = some (.cells #[v] 3 (0, 0)) := by
  refine (heap_setCell_other W' _ g _ (fun e => ?_)).trans ((hat.grown.block g (lt_of_heap hg) (fun e => own_ne h.own hg (by decide) e.symm)).trans hg)
  have e' : g = K := e
  have := h.ke
  rw [← e', hg] at this
  injection this with this
  injection this with _ h2
  exact absurd h2 (by decide)
theorem KpI.calls (h : KpI K Ds zs AK cK W) (hm : zs.length ≤ 8796093022208) : Calls Tryd.prog 21 #[.slice AK zs.length cK] W fun e w' => e = .returned (.bool true) ∧ Below (K + 1) W w' ∧ KeepsOthers W w' := by
  have hz : ∀ i, zAt zs i ∈ zs ∨ zAt zs i = Pt.none_ := fun i => by
    unfold zAt
    rcases Nat.lt_or_ge i zs.length with h | h
    · rw [List.getElem?_eq_getElem h]
      exact .inl (List.getElem_mem h)
    · rw [List.getElem?_eq_none h]
      exact .inr rfl
  have hO' : ∀ i, Own W (K + 1) 5 1 (zAt zs i).A (zAt zs i).l.length (zAt zs i).c (u8s (zAt zs i).l) := fun i => by
    rcases hz i with e | e
    · exact h.each _ e
    · rw [e]
      exact Own.nil _ _ _ _
  have hDD : ∀ i j, i < j → Dis (zAt zs i).A (zAt zs j).A := fun i j hij => by
    rcases Nat.lt_or_ge j zs.length with hj | hj
    · have hi : i < zs.length := by omega
      have h1 := List.pairwise_iff_getElem.1 h.dis i j hi hj hij
      have e1 : zAt zs i = zs[i] := by unfold zAt; rw [List.getElem?_eq_getElem hi]; rfl
      have e2 : zAt zs j = zs[j] := by unfold zAt; rw [List.getElem?_eq_getElem hj]; rfl
      rw [e1, e2]
      exact h1
    · have e2 : zAt zs j = Pt.none_ := by unfold zAt; rw [List.getElem?_eq_none hj]; rfl
      rw [e2]
      intro k _ h2
      cases h2
  refine apart_any zs AK zs.length cK (K + 1) W rfl hm ?_ hO' (fun i => ?_) (fun i j hij => ?_) (fun i => h.own.unlike (hO' i) (by decide)) (by have := lt_of_heap h.ke; omega)
  · have hr := h.own.rd
    rw [Nat.mul_one] at hr
    exact hr.congr fun j hj => by
      have e : zAt zs j = zs[j] := by unfold zAt; rw [List.getElem?_eq_getElem hj]; rfl
      rw [e]
      simp [hj]
  · rcases hz i with e | e
    · exact h.len _ e
    · rw [e]
      exact Nat.zero_le _
  · rcases Nat.lt_trichotomy i j with h1 | h1 | h1
    · exact hDD i j h1
    · exact absurd h1 hij
    · exact (hDD j i h1).symm
end
/-- A function that holds several such loops. -/
theorem leaves_marksG {P : Program} {fn : Func} {tmps : Array Value} {R : Ending → World → Prop} : ∀ (Ds : List Nat) (w : World), Ds.Nodup → (∀ D ∈ Ds, w.heap[D]? = some (.deferred (some []))) →
    (∀ W, (∀ lo, (∀ D ∈ Ds, lo ≤ D) → Puts lo w W) → ∃ v, (results fn tmps).run P W = .ok v W ∧ R (.returned v) W) → LeavesInM Fence.wide 0 P fn tmps R (Ds.map mark) .returning w
  | [], w, _, _, h => h w fun lo _ => ⟨Below.refl _ _, fun _ _ _ _ hk => hk⟩
  | D :: Ds, w, hn, hD, h => by
    obtain ⟨h1, h2⟩ := List.nodup_cons.1 hn
    have hd := hD D (by simp)
    refine ⟨by simp, .inl ⟨_, _, rfl, run_takeDeferred hd, leaves_marksG Ds _ h2 (fun E hE => ?_) fun W hW => h W fun lo hlo => ?_⟩⟩
    · exact (World.putObj_heap_other (by rintro rfl; exact h1 hE)).trans (hD E (by simp [hE]))
    · exact (Puts.putObj _ hd rfl (hlo D (by simp))).trans (hW lo fun E hE => hlo E (by simp [hE]))
end Go.Proofs.YtnjbpacnmiimlaaDoor

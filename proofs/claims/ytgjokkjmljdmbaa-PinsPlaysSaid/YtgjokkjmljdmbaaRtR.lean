/- A range over a function: the law for a loop whose iterator hands out new memory, and whose caller may say what the new memory holds. No program is named here. -/
import Derived.Test.YtgjokkjmljdmbaaOwn2
import Derived.RangeFuncNested
import Derived.RangeFuncCalls
import Derived.RangeFuncLeaves
import Derived.OwnWalkIn
import Derived.TacticsInMore
import Derived.LoopNIn
import Derived.LoopIn
import Derived.Shelf.Abstract
namespace Go.Proofs.Ytgjokkjmljdmbaa
open Go.RowKit

/-- A step that turns (or lays) an object that holds no cells, from block D on. -/
structure Puts (D : Nat) (W W' : World) : Prop where
  bel : Below D W W'
  cells : ∀ (k : Nat) (c : Array Value) (t : TypeId) (f : Nat × Nat), W.heap[k]? = some (.cells c t f) → W'.heap[k]? = some (.cells c t f)

theorem Puts.putObj {D : Nat} {W : World} {l : Nat} {o : Obj} (o' : Obj) (hl : W.heap[l]? = some o) (ho : o.isCells = false) (hD : D ≤ l) : Puts D W (W.putObj l o') where
  bel := ⟨rfl, rfl, rfl, by simp, fun k hk => World.putObj_heap_other (by omega)⟩
  cells := fun k _ _ _ hk => by
    rw [World.putObj_heap_other (fun e => by subst e; rw [hl] at hk; cases hk; cases ho)]
    exact hk
theorem Puts.alloc {D : Nat} (W : World) (o : Obj) (hD : D ≤ W.heap.size) : Puts D W (W.alloc o) where
  bel := (Below.refl _ _).alloc hD _
  cells := fun k _ _ _ hk => (Below.heap_alloc W o k (Array.getElem?_eq_some_iff.1 hk).1).trans hk
theorem Puts.trans {D : Nat} {A B C : World} (h : Puts D A B) (k : Puts D B C) : Puts D A C := ⟨h.bel.trans k.bel, fun i c t f hi => k.cells i c t f (h.cells i c t f hi)⟩
theorem Puts.cell {D : Nat} {W W' : World} (h : Puts D W W') {p : Addr} {v : Value} (hc : W.cell? p = some v) : W'.cell? p = some v := by
  unfold World.cell? at hc ⊢
  cases hb : W.heap[p.block]? with
  | none => rw [hb] at hc; cases hc
  | some o =>
    cases o with
    | cells c t f => rw [h.cells _ _ _ _ hb]; rw [hb] at hc; exact hc
    | _ => rw [hb] at hc; cases hc
theorem Puts.frozen {D : Nat} {W W' : World} (h : Puts D W W') {p : Addr} {v : Value} (hc : W.cell? p = some v) : W'.frozen? p = W.frozen? p := by
  unfold World.cell? at hc
  unfold World.frozen?
  cases hb : W.heap[p.block]? with
  | none => rw [hb] at hc; cases hc
  | some o =>
    cases o with
    | cells c t f => rw [h.cells _ _ _ _ hb]
    | _ => rw [hb] at hc; cases hc
theorem Rd.puts {D : Nat} {W W' : World} {B n : Nat} {A : Option Addr} {g : Nat → Value} (h : Rd W B A n g) (hp : Puts D W W') : Rd W' B A n g := fun hn => by
  obtain ⟨b, off, e, hb, hc⟩ := h hn
  exact ⟨b, off, e, hb, fun j hj => hp.cell (hc j hj)⟩
theorem Own.puts {D : Nat} {W W' : World} {B : Nat} {e : TypeId} {size n c : Nat} {A : Option Addr} {xs : List Value} (h : Own W B e size A n c xs) (hp : Puts D W W') : Own W' B e size A n c xs := by
  refine ⟨h.1, ?_⟩
  rcases h.2 with h0 | ⟨g, cap, cur, hv, hg, hh, rest⟩
  · exact .inl h0
  · exact .inr ⟨g, cap, cur, hv, hg, hp.cells _ _ _ _ hh, rest⟩
theorem below_puts {B D : Nat} {a w w' : World} (h : Below B a w) (hp : Puts D w w') (hB : B ≤ D) : Below B a w' := h.trans (hp.bel.mono hB)

/-- The blocks that 'ok' tells of are as they were. -/
structure Mid (ok : Nat → Prop) (W W' : World) : Prop where
  size : W.heap.size ≤ W'.heap.size
  block : ∀ k, ok k → W'.heap[k]? = W.heap[k]?
section
variable {ok : Nat → Prop} {W W' W2 : World}
theorem Mid.refl (ok : Nat → Prop) (W : World) : Mid ok W W := ⟨Nat.le_refl _, fun _ _ => rfl⟩
theorem Mid.trans (h : Mid ok W W') (k : Mid ok W' W2) : Mid ok W W2 := ⟨Nat.le_trans h.size k.size, fun i h1 => (k.block i h1).trans (h.block i h1)⟩
theorem Mid.of_below {B' : Nat} (h : Below B' W W') (hB : ∀ k, ok k → k < B') : Mid ok W W' := ⟨h.size, fun k hk => h.block k (hB k hk)⟩
theorem Mid.setCell (h : Mid ok W W') {p : Addr} (hp : ¬ ok p.block) (u : Value) : Mid ok W (W'.setCell p u) :=
  ⟨by have := h.size; simp [World.setCell]; exact this, fun k h1 => (Below.heap_setCell W' p u k (fun e => hp (e ▸ h1))).trans (h.block k h1)⟩
theorem Mid.cell (h : Mid ok W W') {p : Addr} (h1 : ok p.block) : W'.cell? p = W.cell? p := World.cell?_of_block (h.block _ h1)
end

/-- An iterator's contract: what it hands over is said by G of the world behind the round ahead and of the present one. -/
def SeqW {α : Type} (P : Program) (g : Nat) (lb : Array Value) (encs : α → Array Value) (G : World → World → List α → α → Prop) (S Sp : List α → Prop) (ok : Nat → Prop) (w : World) : Prop :=
  ∀ (l : Nat) (J Jx : List α → World → Prop) (W : World), Mid ok w W → J [] W →
    (∀ pre x W0 W1, J pre W0 → G W0 W1 pre x → YieldAt Fence.wide 0 P l (encs x) W1 fun e W' =>
      (e = .returned (.bool true) ∧ J (pre ++ [x]) W' ∧ Mid ok W1 W') ∨ (e = .returned (.bool false) ∧ Jx (pre ++ [x]) W')) →
    CallsIn Fence.wide 0 P g (#[.func (.yield l) #[] #[]] ++ lb) W fun e W' => (∃ v, e = .returned v) ∧ ((∃ xs W0, S xs ∧ J xs W0 ∧ Below W0.heap.size W0 W') ∨ (∃ pre, Sp pre ∧ Jx pre W'))

/-- How a round's body may be left. -/
def rndPost {α : Type} (D : Nat) (ok : Nat → Prop) (I : List α → World → Prop) (Ix : Code → List α → World → Prop) (xs : List α) (W1 W : World) : Exit → Act → World → Prop
  | .normal, _, W' => KeepsFrom D W W' ∧ Mid ok W1 W' ∧ I xs W'
  | .ret, _, W' => KeepsFrom D W W' ∧ Ix .ret xs W'
  | .exit id, _, W' => KeepsFrom D W W' ∧ Ix (.exit id) xs W'
  | .goto t, _, W' => KeepsFrom D W W' ∧ Ix (.goto t) xs W'
  | .panic _, _, _ => False
  | .outgrown, _, _ => False

def mark (D : Nat) : Deferred := { target := .collected D, args := #[] }

theorem keepsFrom_below {D : Nat} {W W' : World} (h : Below W.heap.size W W') : KeepsFrom D W W' :=
  ⟨h.size, fun k _ _ hk _ => (h.block k (Array.getElem?_eq_some_iff.1 hk).1).trans hk⟩

theorem keepsFrom_set (D : Nat) (W : World) (a : Addr) (u : Value) : KeepsFrom D W (W.setCell a u) := (KeepsOthers.setCell W a u).from D

theorem wp_rangeFunc {α : Type} {P : Program} {g : Operand} {ps : Array Tmp} {assign body : Code} {Q : Exit → Act → World → Prop} {a : Act} {w : World}
    {gf : Nat} {lb : Array Value} (hg : a.eval g = .func (.func gf) #[] lb) (eg : ∀ args w, (callFunc gf args).run P w = .ok (.enter gf args) w)
    {encs : α → Array Value} (hps : ∀ x, (encs x).size = ps.size) {G : World → World → List α → α → Prop} (hG : ∀ {W0 W1 pre x}, G W0 W1 pre x → Below W0.heap.size W0 W1) {S Sp : List α → Prop} {ok : Nat → Prop} {w0 : World}
    (hseq : SeqW P gf lb encs G S Sp ok w0) (hb0 : Mid ok w0 w) (hB : ∀ k, ok k → k < w.heap.size)
    (I : List α → World → Prop) (Ix : Code → List α → World → Prop)
    (hI : ∀ s W W', I s W → Puts w.heap.size W W' → I s W') (hIx : ∀ c s W W', Ix c s W → Puts w.heap.size W W' → Ix c s W') (hIb : ∀ s W W', I s W → Below W.heap.size W W' → I s W') (h0 : I [] w)
    (hround : ∀ (l : Nat) (pre : List α) (x : α) (W0 W1 : World), w.heap.size < l → I pre W0 → w.heap.size < W0.heap.size → G W0 W1 pre x →
      assign.wpIn (Fence.wide.inRound l) 0 P (Exit.then (fun a' W2 => KeepsFrom w.heap.size W1 W2 ∧ ∀ W3, Puts w.heap.size W2 W3 → body.wpIn (Fence.wide.inRound l) 0 P (rndPost w.heap.size ok I Ix (pre ++ [x]) W1 W3) a' W3) (fun _ _ _ => False))
        { tmps := (ps.zip (encs x)).foldl (fun t (p, v) => t.setIfInBounds p v) a.tmps, defers := [] } W1)
    (hdone : ∀ (D : Nat) (xs : List α) (W : World), w.heap.size ≤ D → S xs → I xs W → W.heap[D]? = some (.deferred (some [])) → Q .normal { a with defers := mark D :: a.defers } W)
    (hstop : ∀ (D : Nat) (c : Code) (pre : List α) (W : World), w.heap.size ≤ D → Sp pre → Ix c pre W → W.heap[D]? = some (.deferred (some [])) → c.wp P Q { a with defers := mark D :: a.defers } W) :
    (Code.rangeFunc g ps assign body).wp P Q a w := by
  refine (wpIn_wide (n := 0)).1 (wpIn_rangeFunc fun fn _ => ?_)
  obtain ⟨rec, hrec⟩ : ∃ rec : LoopState → Option Code → Loop, rec = fun st pe => { state := st, pending := pe, fn, tmps := a.tmps, params := ps, assign, body, defers := w.heap.size } := ⟨_, rfl⟩
  have hA1 : Puts w.heap.size w (w.alloc (.deferred (some []))) := Puts.alloc _ _ (Nat.le_refl _)
  have hA2 : Puts w.heap.size w ((w.alloc (.deferred (some []))).alloc (.loop (rec .ready none))) := hA1.trans (Puts.alloc _ _ (by simp))
  have hL1 : ((w.alloc (.deferred (some []))).alloc (.loop (rec .ready none))).heap[w.heap.size + 1]? = some (.loop (rec .ready none)) := by
    have := World.alloc_heap_new (w.alloc (.deferred (some []))) (.loop (rec .ready none))
    rwa [World.size_alloc] at this
  have hK1 : ((w.alloc (.deferred (some []))).alloc (.loop (rec .ready none))).heap[w.heap.size]? = some (.deferred (some [])) :=
    (Below.heap_alloc _ _ _ (by simp)).trans (World.alloc_heap_new w _)
  have hI1 := hI _ _ _ h0 hA2
  have hb1 : Mid ok w0 ((w.alloc (.deferred (some []))).alloc (.loop (rec .ready none))) := hb0.trans (Mid.of_below hA2.bel hB)
  have hent := run_enterLoop_outer (P := P) (w := w) fn a.tmps ps assign body
  rw [show ((w.alloc (.deferred (some []))).alloc (.loop { state := .ready, pending := none, fn, tmps := a.tmps, params := ps, assign, body, defers := w.heap.size })) = (w.alloc (.deferred (some []))).alloc (.loop (rec .ready none)) by rw [hrec]] at hent
  generalize ((w.alloc (.deferred (some []))).alloc (.loop (rec .ready none))) = W1 at hL1 hK1 hI1 hb1 hent
  clear hA1 hA2
  refine ⟨w.heap.size + 1, [mark w.heap.size], W1, { target := .fn (.func gf) lb, args := #[.func (.yield (w.heap.size + 1)) #[] #[]] }, W1, gf, #[.func (.yield (w.heap.size + 1)) #[] #[]] ++ lb, W1, hent, ?_, fun _ _ => trivial, ?_, fun h => by simp [Fence.wide] at h, ?_⟩
  · simp only [resolve, hg]
    simp [go_sem]
  · simp [invoke, go_sem, eg]
  refine (hseq (w.heap.size + 1)
    (fun pre W => I pre W ∧ W.heap[w.heap.size + 1]? = some (.loop (rec .ready none)) ∧ W.heap[w.heap.size]? = some (.deferred (some [])))
    (fun pre W => ∃ c, Ix c pre W ∧ W.heap[w.heap.size + 1]? = some (.loop (rec .done (some c))) ∧ W.heap[w.heap.size]? = some (.deferred (some [])))
    W1 hb1 ⟨hI1, hL1, hK1⟩ ?_).mono ?_
  · rintro pre x W0 W2 ⟨hi, hl0, hk0⟩ hg2
    have hbel := hG hg2
    have hlt0 : w.heap.size + 1 < W0.heap.size := (Array.getElem?_eq_some_iff.1 hl0).1
    have hl : W2.heap[w.heap.size + 1]? = some (.loop (rec .ready none)) := (hbel.block _ hlt0).trans hl0
    have hk : W2.heap[w.heap.size]? = some (.deferred (some [])) := (hbel.block _ (by omega)).trans hk0
    have hy := run_yield (P := P) (args := encs x) hl (by rw [hrec]; exact hps x)
    rw [hrec] at hy
    refine ⟨fn, _, assign, body, hy, roundIn_of_wpIn trivial (wpIn_mono (hround (w.heap.size + 1) pre x W0 W2 (by omega) hi (by omega) hg2) ?_)⟩
    clear hy
    rintro e a' W3 hp
    cases e with
    | normal =>
      obtain ⟨hkf, hbody⟩ := hp
      have hl3 := hkf.same _ _ (by omega) hl rfl
      have hk3 := hkf.same _ _ (Nat.le_refl _) hk rfl
      have hlt : w.heap.size + 1 < W3.heap.size := (Array.getElem?_eq_some_iff.1 hl3).1
      refine ⟨_, run_beginRound hl3 (by rw [hrec]), ?_⟩
      have hl4 : (W3.putObj (w.heap.size + 1) (.loop { rec .ready none with state := .busy })).heap[w.heap.size + 1]? = some (.loop { rec .ready none with state := .busy }) := World.putObj_heap_same hlt
      have hk4 : (W3.putObj (w.heap.size + 1) (.loop { rec .ready none with state := .busy })).heap[w.heap.size]? = some (.deferred (some [])) := (World.putObj_heap_other (by omega)).trans hk3
      refine wpIn_mono (hbody _ (Puts.putObj _ hl3 rfl (by omega))) ?_
      have fin : ∀ (jump : Option Code) (W5 : World), KeepsFrom w.heap.size (W3.putObj (w.heap.size + 1) (.loop { rec .ready none with state := .busy })) W5 →
          (Instr.endRound (w.heap.size + 1) jump).run P W5 = .ok (.bool jump.isNone) (W5.putObj (w.heap.size + 1) (.loop (rec (if jump.isNone then .ready else .done) jump))) ∧
          Puts w.heap.size W5 (W5.putObj (w.heap.size + 1) (.loop (rec (if jump.isNone then .ready else .done) jump))) ∧
          (W5.putObj (w.heap.size + 1) (.loop (rec (if jump.isNone then .ready else .done) jump))).heap[w.heap.size + 1]? = some (.loop (rec (if jump.isNone then .ready else .done) jump)) ∧
          (W5.putObj (w.heap.size + 1) (.loop (rec (if jump.isNone then .ready else .done) jump))).heap[w.heap.size]? = some (.deferred (some [])) := fun jump W5 hk5 => by
        have hl5 := hk5.same _ _ (by omega) hl4 rfl
        have h1 := run_endRound (P := P) jump hl5
        rw [hrec] at h1 ⊢
        exact ⟨h1, Puts.putObj _ hl5 rfl (by omega), World.putObj_heap_same (Array.getElem?_eq_some_iff.1 hl5).1, (World.putObj_heap_other (by omega)).trans (hk5.same _ _ (Nat.le_refl _) hk4 rfl)⟩
      rintro e a6 W5 hp
      cases e with
      | normal =>
        obtain ⟨h5, hb5, hi5⟩ := hp
        obtain ⟨hr, hpt, h6, h7⟩ := fin none W5 h5
        exact ⟨_, _, hr, .inl ⟨rfl, ⟨hI _ _ _ hi5 hpt, h6, h7⟩, hb5.trans (Mid.of_below hpt.bel hB)⟩⟩
      | ret =>
        obtain ⟨h5, hi5⟩ := hp
        obtain ⟨hr, hpt, h6, h7⟩ := fin (some .ret) W5 h5
        exact ⟨_, _, hr, .inr ⟨rfl, .ret, hIx _ _ _ _ hi5 hpt, h6, h7⟩⟩
      | exit id =>
        obtain ⟨h5, hi5⟩ := hp
        obtain ⟨hr, hpt, h6, h7⟩ := fin (some (.exit id)) W5 h5
        exact ⟨_, _, hr, .inr ⟨rfl, .exit id, hIx _ _ _ _ hi5 hpt, h6, h7⟩⟩
      | goto t =>
        obtain ⟨h5, hi5⟩ := hp
        obtain ⟨hr, hpt, h6, h7⟩ := fin (some (.goto t)) W5 h5
        exact ⟨_, _, hr, .inr ⟨rfl, .goto t, hIx _ _ _ _ hi5 hpt, h6, h7⟩⟩
      | panic ch => exact hp.elim
      | outgrown => exact hp.elim
    | _ => exact hp.elim
  · rintro e W2 ⟨⟨v, rfl⟩, (⟨xs, W0, hS, ⟨hi, hl, hk⟩, hb⟩ | ⟨pre, hSp, c, hi, hl, hk⟩)⟩
    · have hlt : w.heap.size + 1 < W0.heap.size := (Array.getElem?_eq_some_iff.1 hl).1
      have hl2 := (hb.block _ hlt).trans hl
      have hk2 := (hb.block _ (by omega)).trans hk
      have h1 := run_endLoop (P := P) hl2 (by rw [hrec]; simp)
      rw [hrec] at h1 hl2
      exact ⟨none, _, h1, hdone _ xs _ (Nat.le_refl _) hS (hI _ _ _ (hIb _ _ _ hi hb) (Puts.putObj _ hl2 rfl (by omega))) ((World.putObj_heap_other (by omega)).trans hk2)⟩
    · have h1 := run_endLoop (P := P) hl (by rw [hrec]; simp)
      rw [hrec] at h1 hl
      exact ⟨some c, _, h1, wpIn_wide.2 (hstop _ c pre _ (Nat.le_refl _) hSp (hIx _ _ _ _ hi (Puts.putObj _ hl rfl (by omega))) ((World.putObj_heap_other (by omega)).trans hk))⟩

/-- A function that holds such loops: its contract from its body. -/
theorem calls_marks {P : Program} {f : FuncId} {fn : Func} {c : Code} {args : Array Value} {w : World} {R : Ending → World → Prop}
    (hf : P.funcs[f]? = some fn) (hb : fn.body = some c)
    (h : c.wp P (bodyPostM Fence.wide 0 P fn R) { tmps := args ++ Array.replicate (fn.ntmps - args.size) undef, defers := [] } w) : Calls P f args w R :=
  (callsIn_wide (n := 0)).1 (callsIn_of_wp_marks hf hb trivial (wpIn_wide.2 h))
theorem keepsFrom_drewN (D : Nat) (W : World) (m : Nat) : KeepsFrom D W (W.drewN m) := ⟨Nat.le_refl _, fun _ _ _ h _ => h⟩
theorem leaves_none {P : Program} {fn : Func} {tmps : Array Value} {R : Ending → World → Prop} {w : World} {v : Value} (hr : (results fn tmps).run P w = .ok v w) (h : R (.returned v) w) : LeavesInM Fence.wide 0 P fn tmps R [] .returning w := ⟨v, hr, h⟩
theorem leaves_mark {P : Program} {fn : Func} {tmps : Array Value} {R : Ending → World → Prop} {w : World} {D : Nat} {v : Value} (hD : w.heap[D]? = some (.deferred (some [])))
    (hr : (results fn tmps).run P (w.putObj D (.deferred none)) = .ok v (w.putObj D (.deferred none))) (h : R (.returned v) (w.putObj D (.deferred none))) : LeavesInM Fence.wide 0 P fn tmps R [mark D] .returning w :=
  ⟨by simp, .inl ⟨_, _, rfl, run_takeDeferred hD, ⟨v, hr, h⟩⟩⟩
theorem results_cell1 {P : Program} {fn : Func} {p : Tmp} {ty : TypeId} (h : fn.results = #[.cell p ty]) {tmps : Array Value} {w : World} {a : Addr} {v : Value} (hp : tmps.getD p undef = .pointer (some a)) (hs : (loadVar ty a).run P w = .ok v w) :
    (results fn tmps).run P w = .ok v w := by
  have hp' : tmps[p]?.getD undef = .pointer (some a) := by simpa using hp
  simp [results, h, hp', asAddr, hs]
end Go.Proofs.Ytgjokkjmljdmbaa

/- KeyAlgebra: the walk. -/
import Derived.Test.YtlolnpilpdkbkaaKaP
import Derived.Test.YtlolnpilpdkbkaaKxW
import Derived.Deep.Cut
import Derived.Deep.CutRange
namespace Go.Proofs.Ytlolnpilpdkbkaa
open Go.RowKit Go.Maps
set_option linter.unusedSimpArgs false
set_option linter.unusedVariables false

theorem SetK.below {W W' : World} {s m n : Nat} {ks : List (List Nat)} (h : SetK W s m n ks) (hb : Below W.heap.size W W') : SetK W' s m n ks :=
  h.keep (hb.block _ h.lts.1) (hb.block _ h.lts.2)
theorem rangeAt_below {W W' : World} {b off : Nat} {cs : List Value} (hb : Below W.heap.size W W') (hl : b < W.heap.size) (h : W.rangeAt b off cs) : W'.rangeAt b off cs := fun i v hv => (hb.cell (p := ⟨b, off + i, none⟩) hl).trans (h i v hv)
theorem KeyRow.below {W W' : World} {A : Option Addr} {xs : List (List Nat)} (h : KeyRow W A xs) (hb : Below W.heap.size W W') : KeyRow W' A xs := fun k x hk => by
  obtain ⟨h1, b, off, h2, h3, h4⟩ := h k x hk
  exact ⟨h1, b, off, h2, Nat.lt_of_lt_of_le h3 hb.size, rangeAt_below hb h3 h4⟩
/-- What stands behind the sets have been made. -/
structure AlgW (w : World) (Aa : Option Addr) (xs : List (List Nat)) (Ab : Option Addr) (ys : List (List Nat)) (s t u v m : Nat) (KA KB U V M : List (List Nat)) (W : World) : Prop where
  bel : Below w.heap.size w W
  ra : KeyRow W Aa xs
  rb : KeyRow W Ab ys
  hs : ∃ a b, SetK W s a b KA
  ht : ∃ a b, SetK W t a b KB
  hu : ∃ a b, SetK W u a b U
  hv : ∃ a b, SetK W v a b V
  hm : ∃ a b, SetK W m a b M
section
variable {w W W' : World} {Aa Ab : Option Addr} {xs ys KA KB U V M : List (List Nat)} {s t u v m : Nat}
theorem AlgW.keep (h : AlgW w Aa xs Ab ys s t u v m KA KB U V M W) (hb : Below W.heap.size W W') : AlgW w Aa xs Ab ys s t u v m KA KB U V M W' := by
  obtain ⟨h1, h2, h3, ⟨a1, b1, s1⟩, ⟨a2, b2, s2⟩, ⟨a3, b3, s3⟩, ⟨a4, b4, s4⟩, ⟨a5, b5, s5⟩⟩ := h
  exact ⟨h1.trans (hb.mono h1.size), h2.below hb, h3.below hb, ⟨a1, b1, s1.below hb⟩, ⟨a2, b2, s2.below hb⟩, ⟨a3, b3, s3.below hb⟩, ⟨a4, b4, s4.below hb⟩, ⟨a5, b5, s5.below hb⟩⟩
theorem AlgW.lens (h : AlgW w Aa xs Ab ys s t u v m KA KB U V M W) :
    (Calls Try.prog 14 #[.pointer (some ⟨s, 0, none⟩)] W fun e w' => e = .returned (.int .i64 (KA.length : Int)) ∧ w' = W) ∧
    (Calls Try.prog 14 #[.pointer (some ⟨t, 0, none⟩)] W fun e w' => e = .returned (.int .i64 (KB.length : Int)) ∧ w' = W) ∧
    (Calls Try.prog 14 #[.pointer (some ⟨u, 0, none⟩)] W fun e w' => e = .returned (.int .i64 (U.length : Int)) ∧ w' = W) ∧
    (Calls Try.prog 14 #[.pointer (some ⟨v, 0, none⟩)] W fun e w' => e = .returned (.int .i64 (V.length : Int)) ∧ w' = W) ∧
    (Calls Try.prog 14 #[.pointer (some ⟨m, 0, none⟩)] W fun e w' => e = .returned (.int .i64 (M.length : Int)) ∧ w' = W) := by
  obtain ⟨_, _, _, ⟨a1, b1, s1⟩, ⟨a2, b2, s2⟩, ⟨a3, b3, s3⟩, ⟨a4, b4, s4⟩, ⟨a5, b5, s5⟩⟩ := h
  exact ⟨lenK_any _ _ _ _ _ s1, lenK_any _ _ _ _ _ s2, lenK_any _ _ _ _ _ s3, lenK_any _ _ _ _ _ s4, lenK_any _ _ _ _ _ s5⟩
/-- What the sets tell of a key. -/
theorem AlgW.has (h : AlgW w Aa xs Ab ys s t u v m KA KB U V M W) (x : List Nat) (hx : IsK x) (hb : Below W.heap.size W W') :
    (Calls Try.prog 16 #[.pointer (some ⟨s, 0, none⟩), .agg (u8s x).toArray] W' fun e w' => e = .returned (.bool (decide (x ∈ KA))) ∧ Below W'.heap.size W' w') ∧
    (Calls Try.prog 16 #[.pointer (some ⟨t, 0, none⟩), .agg (u8s x).toArray] W' fun e w' => e = .returned (.bool (decide (x ∈ KB))) ∧ Below W'.heap.size W' w') ∧
    (Calls Try.prog 16 #[.pointer (some ⟨u, 0, none⟩), .agg (u8s x).toArray] W' fun e w' => e = .returned (.bool (decide (x ∈ U))) ∧ Below W'.heap.size W' w') ∧
    (Calls Try.prog 16 #[.pointer (some ⟨v, 0, none⟩), .agg (u8s x).toArray] W' fun e w' => e = .returned (.bool (decide (x ∈ V))) ∧ Below W'.heap.size W' w') ∧
    (Calls Try.prog 16 #[.pointer (some ⟨m, 0, none⟩), .agg (u8s x).toArray] W' fun e w' => e = .returned (.bool (decide (x ∈ M))) ∧ Below W'.heap.size W' w') := by
  obtain ⟨_, _, _, ⟨a1, b1, s1⟩, ⟨a2, b2, s2⟩, ⟨a3, b3, s3⟩, ⟨a4, b4, s4⟩, ⟨a5, b5, s5⟩⟩ := h.keep hb
  exact ⟨hasK_any _ _ _ _ _ s1 x hx, hasK_any _ _ _ _ _ s2 x hx, hasK_any _ _ _ _ _ s3 x hx, hasK_any _ _ _ _ _ s4 x hx, hasK_any _ _ _ _ _ s5 x hx⟩
end
/-- In the third loop: the cell of 'at'. -/
def AtS (w6 : World) (g13 : Nat) (x : List Nat) (W : World) : Prop := Below w6.heap.size w6 W ∧ W.heap[g13]? = some (.cells (u8s x).toArray 25 (0, 0))
theorem AtS.keep {w6 W W' : World} {g13 : Nat} {x : List Nat} (h : AtS w6 g13 x W) (hb : Below W.heap.size W W') : AtS w6 g13 x W' :=
  ⟨h.1.trans (hb.mono h.1.size), (hb.block _ (Array.getElem?_eq_some_iff.1 h.2).1).trans h.2⟩
theorem yieldsIf_binA {P : Program} {ops : Array Oper} {S : World → Prop} {op : Oper} {a : Act} (hw : Region.wanted op (yielded ops a.tmps) = true) (bo : BinOp) (t t2 : TypeId) (x y : Operand) (ho : op.op = .binOp bo t x y t2) (u1 u2 : Value) (hx : a.eval x = u1) (hy : a.eval y = u2) (v : Value)
    (hg : ∀ w, (eqGuard bo t x y u1 u2).run P w = .ok () w) (hr : ∀ w, S w → (binOp bo t u1 u2).run P w = .ok v w) : YieldsIf P ops S op v a :=
  .inl ⟨hw, fun w hw' => by unfold execOp; simp [ho, hx, hy, hg w, hr w hw']⟩
section
variable {P : Program} {ops : Array Oper} {rest : List Oper} {o : Oper} {a : Act} {w : World} {Q : Exit → Act → World → Prop}
/-- A guarded load of a range of cells. -/
theorem wpList_load_mid_gA (hw : Region.wanted o (yielded ops a.tmps) = true) (ty : TypeId) (x : Operand) (ho : o.op = .load ty x)
    (b k : Nat) (hx : a.eval x = .pointer (some ⟨b, k, none⟩)) (cs : List Value) (d : TypeDesc) (hc : w.rangeAt b k cs)
    (hu : P.underlying ty = some d) (hd : d.isRow = true) (hi : (P.info? ty).map (·.size) = some cs.length)
    (h : wpList P ops Q rest (a.put o.dst (.agg cs.toArray)) w) : wpList P ops Q (o :: rest) a w :=
  wpList_step fun K hK => by
    rw [if_pos hw]
    exact wp_load_mid ty x ho b k hx cs d hc hu hd hi (hK _ _ h)
end
/-- 'tk', the list written out: no rewriting of the frame in the proof. -/
theorem tkL {P : Program} {md : Region.Mode} {ops : Array Oper} {Q : Exit → Act → World → Prop} {S : World → Prop} {i d : Nat} {oi : Oper} {v : Value} {fuel : Nat} {listed : Array Bool} {t : List Value} {df : List Deferred} {w : World} (hi : ops[i]? = some oi) (hd : oi.dst = some d)
    (hy : YieldsIf P ops S oi v ⟨t.toArray, df⟩) (hS : S w) (h : wpAnyH P md ops Q S fuel (listed.setIfInBounds i true) ⟨(t.set d v).toArray, df⟩ w)
    (hs : Region.noSelect ops = true := by kernel_rfl) (hf : Region.free md ops listed i = true := by kernel_rfl) (hr : (Region.ready md ops listed).contains i = true := by kernel_rfl)
    (hQ : ∀ c a w, Q (.panic c) (a.put oi.dst v) w → Q (.panic c) a w := by exact fun _ _ _ h => h) : wpAnyH P md ops Q S (fuel + 1) listed ⟨t.toArray, df⟩ w := by
  refine tk hi hd hy hS ?_ hs hf hr hQ
  rw [show t.toArray.setIfInBounds d v = (t.set d v).toArray by simp]
  exact h
end Go.Proofs.Ytlolnpilpdkbkaa

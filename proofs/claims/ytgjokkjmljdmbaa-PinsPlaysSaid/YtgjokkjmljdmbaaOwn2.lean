/- More words on rows of the call's own. No program is named here. -/
import Derived.Test.YtgjokkjmljdmbaaOwn
namespace Go.Proofs.Ytgjokkjmljdmbaa
open Go.RowKit
section
variable {P : Program} {ops : Array Oper} {rest : List Oper} {o : Oper} {a : Act} {Q : Exit → Act → World → Prop}
/-- The same, the new block's number spelled otherwise. -/
theorem wpList_app1h {t e : TypeId} {z : Value} {size bytes : Nat} (E : ElemOk P t e z size bytes) (w : World) (cs : Array Value) (hcs : cs.size = size) (hgd : o.guard = none) (s x : Operand)
    (ho : o.op = .call { callee := .builtin .append, args := #[s, x], argTypes := #[t, t] })
    {B : Nat} {A : Option Addr} {n c : Nat} {xs : List Value} (hs : a.eval s = .slice A n c) (hown : Own w B e size A n c xs)
    (H : Nat) (hH : w.heap.size = H) (hx : a.eval x = .slice (some ⟨H, 0, none⟩) 1 1) (h1 : ∀ u ∈ cs.toList, u.oneCell' = true)
    (hn : n + 1 ≤ maxLen) (hb : (n + 1 + (n + 1) / 4 + 192) * bytes ≤ 281474976710656) (hB : B ≤ w.heap.size) (N : Nat) (hN : n + 1 = N) (ys : List Value) (hys : xs ++ cs.toList = ys)
    (h : ∀ A' c' w', Own w' B e size A' N c' ys → AppAt w w' A A' → Below B w w' →
      wpList P ops Q rest (a.put o.dst (.slice A' N c')) w') : wpList P ops Q (o :: rest) a (w.alloc (.cells cs e)) := by
  subst hH
  exact wpList_app1 E w cs hcs hgd s x ho hs hown hx h1 hn hb hB N hN ys hys h

end
theorem Own.setFar {w : World} {B e size n c : Nat} {A : Option Addr} {xs : List Value} (h : Own w B e size A n c xs) {p : Addr} (hp : p.block < B) (u : Value) : Own (w.setCell p u) B e size A n c xs := ownsRow_setCell_below h hp u
theorem own_turn {w : World} {B e size n c : Nat} {A : Option Addr} {l : List Value} {q : IntKind} {x y : Int} (h : Own w B e size A n c (l ++ #[Value.int q x].toList)) (hxy : x = y) : Own w B e size A n c (l ++ [.int q y]) := by
  subst hxy
  exact h
end Go.Proofs.Ytgjokkjmljdmbaa

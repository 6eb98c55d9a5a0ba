/- Bytes appended. No program is named here. -/
import Derived.Test.YtnjbpacnmiimlaaDoorOwn
namespace Go.Proofs.YtnjbpacnmiimlaaDoor
open Go.RowKit

section
variable {P : Program} {ops : Array Oper} {rest : List Oper} {o : Oper} {a : Act} {Q : Exit → Act → World → Prop}
/-- append(s, x...) of bytes. -/
theorem wpList_appB {t e : TypeId} {z : Value} (E : ElemOk P t e z 1 1) (w : World) (hgd : o.guard = none) (s x : Operand)
    (ho : o.op = .call { callee := .builtin .append, args := #[s, x], argTypes := #[t, t] })
    {B : Nat} {A : Option Addr} {n c : Nat} {l : List Nat} (hs : a.eval s = .slice A n c) (hown : Own w B e 1 A n c (u8s l))
    {B2 : Nat} {A2 : Option Addr} {k c2 : Nat} {m : List Nat} (hx : a.eval x = .slice A2 k c2) (hm : m.length = k) (hr : Byt w B2 A2 m)
    (hn : n + k ≤ 70368744177664) (hB : B ≤ w.heap.size) (N : Nat) (hN : n + k = N)
    (h : ∀ A' c' w', Own w' B e 1 A' N c' (u8s (l ++ m)) → AppAt w w' A A' → Below B w w' →
      wpList P ops Q rest (a.put o.dst (.slice A' N c')) w') : wpList P ops Q (o :: rest) a w :=
  wpList_app E w hgd s x ho hs hown hx (m := k) (by rw [Nat.mul_one, ← hm]; exact hr) (fun _ _ => rfl) (by unfold maxLen; omega) (by omega) hB N hN _ (u8s_app hm.symm) h
end

theorem ownB_nil (w : World) (B : Nat) (e : TypeId) : Own w B e 1 none 0 0 (u8s []) := Own.nil w B e 1

end Go.Proofs.YtnjbpacnmiimlaaDoor

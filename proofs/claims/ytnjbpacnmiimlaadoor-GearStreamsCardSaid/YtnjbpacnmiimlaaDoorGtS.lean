/- GearStreams: what stands while Write goes on, and that the pieces are rows of their own. -/
import Derived.Test.YtnjbpacnmiimlaaDoorGtU
import Derived.Test.YtnjbpacnmiimlaaDoorGpP
namespace Go.Proofs.YtnjbpacnmiimlaaDoor
open Go.RowKit

structure WStO (w0 : World) (B : Nat) (D0 : Nat → Prop) (bc : Nat) (a m x : Int) (w : World) (A : Option Addr) (n c : Nat) (held : List Nat) (S tn th : Nat) (Ao : Option Addr) (co : Nat) (zs : List Pt) : Prop where
  st : WSt w0 B D0 bc a m x w A n c held S tn th Ao co zs
  po : ∀ z ∈ zs, Own w w0.heap.size 5 1 z.A z.l.length z.c (u8s z.l)
  di : zs.Pairwise fun x y => Dis x.A y.A
section
variable {w0 : World} {B : Nat} {D0 D1 : Nat → Prop} {bc : Nat} {a m x : Int} {w w' : World} {A A' : Option Addr} {n n' c c' : Nat} {held held' : List Nat} {S S' tn th tn' th' : Nat} {Ao Ao' : Option Addr} {co co' : Nat} {zs : List Pt}
theorem WStO.po_fr (h : WStO w0 B D0 bc a m x w A n c held S tn th Ao co zs) (hf : Fr D1 w w') (h1 : ∀ k, k < w.heap.size → D1 k → Dirty bc A S k) : ∀ z ∈ zs, Own w' w0.heap.size 5 1 z.A z.l.length z.c (u8s z.l) := fun z hz =>
  (h.po z hz).fr hf fun k hk e => ((h.st.pcs z hz).2 k hk).2.2.1 (h1 k ((h.po z hz).lt k hk).2 e)
theorem WStO.below (h : WStO w0 B D0 bc a m x w A n c held S tn th Ao co zs) (hb : Below w.heap.size w w') : WStO w0 B D0 bc a m x w' A n c held S tn th Ao co zs :=
  ⟨h.st.below hb, h.po_fr (Fr.of_below (fun _ => False) hb) (fun _ _ e => e.elim), h.di⟩
theorem WStO.app (h : WStO w0 B D0 bc a m x w A n c held S tn th Ao co zs) {b : Nat} (ho : Own w' B 5 1 A' (n + 1) c' (u8s (held ++ [b]))) (hat : AppAt w w' A A') :
    WStO w0 B D0 bc a m x (w'.setCell ⟨bc, 3, none⟩ (.slice A' (n + 1) c')) A' (n + 1) c' (held ++ [b]) S tn th Ao co zs := by
  have f1 : Fr (fun k => blockOf A = some k) w w' := Fr.of_grown hat.grown
  have f2 := Fr.setCell w' ⟨bc, 3, none⟩ (.slice A' (n + 1) c')
  have f3 : Fr (fun k => blockOf A = some k ∨ k = bc) w (w'.setCell ⟨bc, 3, none⟩ (.slice A' (n + 1) c')) := (f1.mono (fun k _ e => .inl e)).trans f2 (fun k _ e => .inr e)
  exact ⟨h.st.app ho hat, h.po_fr f3 (fun k _ e => by rcases e with e | e; exact .inr (.inl e); exact .inl e), h.di⟩
theorem WStO.tick (h : WStO w0 B D0 bc a m x w A n c held S tn th Ao co zs) (tn' th' q : Nat) : WStO w0 B D0 bc a m x (tstW w S tn' th' q) A n c held S tn' th' Ao co zs :=
  ⟨h.st.tick tn' th' q, h.po_fr (fr_tst w S tn' th' q) (fun k _ e => .inr (.inr (by omega))), h.di⟩
theorem WStO.piece (h : WStO w0 B D0 bc a m x w A n c held S tn th Ao co zs) {w1 : World} {Ap : Option Addr} {cp : Nat} {l : List Nat} (hb : Below w.heap.size w w1) (hp : Own w1 w.heap.size 5 1 Ap l.length cp (u8s l)) (ho : Own w' w0.heap.size 24 1 Ao' (zs.length + 1) co' (zs.map Pt.v ++ [.slice Ap l.length cp])) (hat : AppAt w1 w' Ao Ao') :
    WStO w0 B D0 bc a m x w' A n c held S tn th Ao' co' (zs ++ [⟨Ap, l, cp⟩]) := by
  have h1 := h.below hb
  have hs := h.st.size
  refine ⟨h.st.piece hb hp ho hat, fun z hz => ?_, List.pairwise_append.2 ⟨h.di, by simp, fun y hy z hz => ?_⟩⟩
  · rcases List.mem_append.1 hz with hz | hz
    · exact hat.other (h1.po z hz) (h1.st.out.unlike (h1.po z hz) (by decide))
    · obtain rfl := List.mem_singleton.1 hz
      exact hat.other (hp.base hs) (h1.st.out.unlike hp (by decide))
  · obtain rfl := List.mem_singleton.1 hz
    exact Dis.of_lt (fun k hk => ((h.po y hy).lt k hk).2) (fun k hk => (hp.lt k hk).1)
theorem WStO.reset (h : WStO w0 B D0 bc a m x w A n c held S tn th Ao co zs) {w1 : World} (hb : Below w.heap.size w w1) (ht : Tst w1 w.heap.size a m x 0 0) :
    WStO w0 B D0 bc a m x ((w1.setCell ⟨bc, 3, none⟩ (.slice A 0 c)).setCell ⟨bc, 4, none⟩ (tstV w.heap.size)) A 0 c [] w.heap.size 0 0 Ao co zs := by
  have f2 := Fr.setCell w1 ⟨bc, 3, none⟩ (.slice A 0 c)
  have f3 := Fr.setCell (w1.setCell ⟨bc, 3, none⟩ (.slice A 0 c)) ⟨bc, 4, none⟩ (tstV w.heap.size)
  have f4 : Fr (fun k => k = bc) w1 ((w1.setCell ⟨bc, 3, none⟩ (.slice A 0 c)).setCell ⟨bc, 4, none⟩ (tstV w.heap.size)) := f2.trans f3 (fun k _ e => e)
  have f5 : Fr (fun k => k = bc) w ((w1.setCell ⟨bc, 3, none⟩ (.slice A 0 c)).setCell ⟨bc, 4, none⟩ (tstV w.heap.size)) := (Fr.of_below (fun k => k = bc) hb).trans f4 (fun k _ e => e)
  exact ⟨h.st.reset hb ht, h.po_fr f5 (fun k _ e => .inl e), h.di⟩
end
end Go.Proofs.YtnjbpacnmiimlaaDoor

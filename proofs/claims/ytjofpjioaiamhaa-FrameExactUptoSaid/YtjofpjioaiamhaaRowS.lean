/- FrameRow: what stands in memory between its loops. -/
import Derived.Test.YtjofpjioaiamhaaRowP
import Derived.Test.YtjofpjioaiamhaaTurnedLaw
import Derived.Test.YtjofpjioaiamhaaEnd
namespace Go.Proofs.Ytjofpjioaiamhaa
open Go.RowKit Go.Shelf

/-- A list of bytes as it lies in a row of lists. -/
structure In where
  A : Option Addr
  l : List Nat
  c : Nat
def In.v (x : In) : Value := .slice x.A x.l.length x.c
def In.none_ : In := ⟨none, [], 0⟩
def lsOf (zs : List In) : List (List Nat) := zs.map (·.l)
theorem lsOf_get (zs : List In) (i : Nat) : (lsOf zs)[i]?.getD [] = (zs[i]?.getD In.none_).l := by
  unfold lsOf
  rw [List.getElem?_map]
  cases zs[i]? <;> rfl
theorem lsOf_len (zs : List In) : (lsOf zs).length = zs.length := by simp [lsOf]

theorem elI : ElemOk Try.prog 46 3 (.int .i64 0) 1 8 := ⟨Try.underlying46, by kernel_rfl, rfl, by decide⟩

/-- A row of numbers, given by a function. -/
def intsF (f : Nat → Nat) (k : Nat) : List Value := (List.range k).map fun i => Value.int .i64 (f i : Nat)
theorem intsF_succ (f : Nat → Nat) (k : Nat) : intsF f k ++ [.int .i64 (f k : Nat)] = intsF f (k + 1) := by simp [intsF, List.range_succ]
theorem intsF_get (f : Nat → Nat) {k j : Nat} (h : j < k) : (intsF f k)[j]? = some (.int .i64 (f j : Nat)) := by simp [intsF, h]

/-- The boxed argument and the result's cell. -/
structure Rw (w wr : World) (AB : Option Addr) (m cB : Nat) (AH : Option Addr) (nH cH : Nat) : Prop where
  bel : Below w.heap.size w wr
  sz : w.heap.size + 1 < wr.heap.size
  x0 : wr.cell? ⟨w.heap.size, 0, none⟩ = some (.slice AB m cB)
  x1 : wr.cell? ⟨w.heap.size, 1, none⟩ = some (.slice AH nH cH)
  r : wr.cell? ⟨w.heap.size + 1, 0, none⟩ = some (.bool false)
  rf : wr.frozen? ⟨w.heap.size + 1, 0, none⟩ = false
theorem Rw.keep {w wr w' : World} {AB AH : Option Addr} {m cB nH cH : Nat} (h : Rw w wr AB m cB AH nH cH) (hb : Below (w.heap.size + 2) wr w') : Rw w w' AB m cB AH nH cH where
  bel := h.bel.trans (hb.mono (by omega))
  sz := Nat.lt_of_lt_of_le h.sz hb.size
  x0 := (hb.cell (p := ⟨w.heap.size, 0, none⟩) (by simp)).trans h.x0
  x1 := (hb.cell (p := ⟨w.heap.size, 1, none⟩) (by simp)).trans h.x1
  r := (hb.cell (p := ⟨w.heap.size + 1, 0, none⟩) (by simp)).trans h.r
  rf := (hb.frozen (p := ⟨w.heap.size + 1, 0, none⟩) (by simp)).trans h.rf

/-- What stands while the records are put. H: the block of the variable at. -/
structure P2 (w : World) (H : Nat) (wr : World) (AB : Option Addr) (m cB : Nat) (AH : Option Addr) (nH cH : Nat) (f g : Nat → Nat) (la : List Nat) (ka ks : Nat) (Al : Option Addr) (cl : Nat) (Aa : Option Addr) (ca : Nat) (As : Option Addr) (cs : Nat) : Prop where
  base : Rw w wr AB m cB AH nH cH
  hH : w.heap.size + 2 ≤ H
  hW : H < wr.heap.size
  atc : wr.cell? ⟨H, 0, none⟩ = some (.slice Aa ka ca)
  atf : wr.frozen? ⟨H, 0, none⟩ = false
  oall : Own wr (H + 1) 5 1 Al la.length cl (u8s la)
  oat : Own wr (H + 1) 3 1 Aa ka ca (intsF f ka)
  osz : Own wr (H + 1) 3 1 As ks cs (intsF g ks)
  d1 : Dis Aa As
  d2 : Dis Aa Al
  d3 : Dis As Al

section
variable {w wr w' : World} {H : Nat} {AB AH Al Aa As A' : Option Addr} {m cB nH cH ka ks cl ca cs c' : Nat} {f g : Nat → Nat} {la : List Nat}
theorem P2.keep (h : P2 w H wr AB m cB AH nH cH f g la ka ks Al cl Aa ca As cs) (hb : Below wr.heap.size wr w') : P2 w H w' AB m cB AH nH cH f g la ka ks Al cl Aa ca As cs where
  base := h.base.keep (hb.mono (by have := h.hH; have := h.hW; omega))
  hH := h.hH
  hW := Nat.lt_of_lt_of_le h.hW hb.size
  atc := (hb.cell (p := ⟨H, 0, none⟩) h.hW).trans h.atc
  atf := (hb.frozen (p := ⟨H, 0, none⟩) h.hW).trans h.atf
  oall := h.oall.below hb (fun k hk => (h.oall.lt k hk).2)
  oat := h.oat.below hb (fun k hk => (h.oat.lt k hk).2)
  osz := h.osz.below hb (fun k hk => (h.osz.lt k hk).2)
  d1 := h.d1
  d2 := h.d2
  d3 := h.d3
theorem P2.stepA (h : P2 w H wr AB m cB AH nH cH f g la ka ks Al cl Aa ca As cs) (hat : AppAt wr w' Aa A') (ho : Own w' (H + 1) 3 1 A' (ka + 1) c' (intsF f ka ++ [.int .i64 (f ka : Nat)])) :
    P2 w H (w'.setCell ⟨H, 0, none⟩ (.slice A' (ka + 1) c')) AB m cB AH nH cH f g la (ka + 1) ks Al cl A' c' As cs := by
  have hW := h.hW
  have hb : Below (H + 1) wr w' := hat.below h.oat (by omega)
  have hq := (hb.cell (p := ⟨H, 0, none⟩) (Nat.lt_succ_self _)).trans h.atc
  have hf := (hb.frozen (p := ⟨H, 0, none⟩) (Nat.lt_succ_self _)).trans h.atf
  have hs := hb.size
  rw [intsF_succ] at ho
  have hH := h.hH
  refine ⟨(h.base.keep (hb.mono (by omega))).keep ((Below.refl _ _).setCell (p := ⟨H, 0, none⟩) hH _), hH, ?_, World.cell?_setCell_same _ _ _ hq, ?_, ownsRow_setCell_below (hat.other h.oall h.d2) (Nat.lt_succ_self _) _, ownsRow_setCell_below ho (Nat.lt_succ_self _) _, ownsRow_setCell_below (hat.other h.osz h.d1) (Nat.lt_succ_self _) _, hat.dis h.osz h.d1, hat.dis h.oall h.d2, h.d3⟩
  · simp [World.setCell]; omega
  · rw [World.frozen?_setCell]; exact hf
theorem P2.stepS (h : P2 w H wr AB m cB AH nH cH f g la ka ks Al cl Aa ca As cs) (hat : AppAt wr w' As A') (ho : Own w' (H + 1) 3 1 A' (ks + 1) c' (intsF g ks ++ [.int .i64 (g ks : Nat)])) :
    P2 w H w' AB m cB AH nH cH f g la ka (ks + 1) Al cl Aa ca A' c' := by
  have hW := h.hW
  have hb : Below (H + 1) wr w' := hat.below h.osz (by omega)
  rw [intsF_succ] at ho
  have hH := h.hH
  exact ⟨h.base.keep (hb.mono (by omega)), hH, Nat.lt_of_lt_of_le hW hb.size, (hb.cell (p := ⟨H, 0, none⟩) (Nat.lt_succ_self _)).trans h.atc, (hb.frozen (p := ⟨H, 0, none⟩) (Nat.lt_succ_self _)).trans h.atf,
    hat.other h.oall h.d3, hat.other h.oat h.d1.symm, ho, (hat.dis h.oat h.d1.symm).symm, h.d2, hat.dis h.oall h.d3⟩
theorem P2.stepAll {lb : List Nat} (h : P2 w H wr AB m cB AH nH cH f g la ka ks Al cl Aa ca As cs) (hb : Below wr.heap.size wr w') (ho : Own w' wr.heap.size 5 1 A' lb.length c' (u8s lb)) :
    P2 w H w' AB m cB AH nH cH f g lb ka ks A' c' Aa ca As cs := by
  have hW := h.hW
  have k := h.keep hb
  refine ⟨k.base, k.hH, k.hW, k.atc, k.atf, ho.base (by omega), k.oat, k.osz, k.d1, ?_, ?_⟩
  · exact Dis.of_lt (fun i hi => (h.oat.lt i hi).2) (fun i hi => (ho.lt i hi).1)
  · exact Dis.of_lt (fun i hi => (h.osz.lt i hi).2) (fun i hi => (ho.lt i hi).1)
end
end Go.Proofs.Ytjofpjioaiamhaa

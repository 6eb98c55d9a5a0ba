/- GearPieces: apart: what stands while the lists are marked. -/
import Derived.Test.YtnjbpacnmiimlaaDoorGpP
namespace Go.Proofs.YtnjbpacnmiimlaaDoor
open Go.RowKit

def zAt (zs : List Pt) (i : Nat) : Pt := zs[i]?.getD Pt.none_
/-- What list i holds while list n is marked up to k. -/
def curL (zs : List Pt) (n k i : Nat) : List Nat := if i < n then markL i (zAt zs i).l.length else if i = n then markL n k ++ (zAt zs i).l.drop k else (zAt zs i).l
theorem curL_length {zs : List Pt} {n k : Nat} (hk : k ≤ (zAt zs n).l.length) (i : Nat) : (curL zs n k i).length = (zAt zs i).l.length := by
  unfold curL
  split
  · exact markL_length _ _
  · split
    · rename_i h
      subst h
      rw [List.length_append, markL_length, List.length_drop]
      omega
    · rfl
theorem curL_zero (zs : List Pt) (i : Nat) : curL zs 0 0 i = (zAt zs i).l := by
  unfold curL
  rw [if_neg (by omega)]
  split
  · simp [markL]
  · rfl
theorem curL_next (zs : List Pt) (n i : Nat) : curL zs (n + 1) 0 i = curL zs n (zAt zs n).l.length i := by
  unfold curL
  rcases Nat.lt_trichotomy i n with h | h | h
  · rw [if_pos (by omega), if_pos h]
  · subst h
    rw [if_pos (by omega), if_neg (by omega), if_pos rfl, List.drop_length, List.append_nil]
  · rw [if_neg (show ¬ i < n + 1 by omega), if_neg (show ¬ i < n by omega), if_neg (show ¬ i = n by omega)]
    split
    · simp [markL]
    · rfl
theorem curL_set {zs : List Pt} {n k : Nat} (hk : k < (zAt zs n).l.length) : (curL zs n k n).set k (markF n k) = curL zs n (k + 1) n := by
  unfold curL
  rw [if_neg (by omega), if_pos rfl, if_neg (by omega), if_pos rfl, List.set_append_right _ _ (by rw [markL_length]; exact Nat.le_refl _), markL_length, Nat.sub_self, ← markL_succ, List.drop_eq_getElem_cons hk, List.set_cons_zero, List.append_assoc]
  rfl
theorem curL_other {zs : List Pt} {n k i : Nat} (h : i ≠ n) : curL zs n (k + 1) i = curL zs n k i := by
  unfold curL
  rw [if_neg h, if_neg h]
theorem curL_end (zs : List Pt) {n i : Nat} (h : i < n) : curL zs n 0 i = markL i (zAt zs i).l.length := by
  unfold curL
  rw [if_pos h]

/-- What stands while the lists are marked. -/
structure Ow1 (zs : List Pt) (AL : Option Addr) (m B : Nat) (w : World) (n k : Nat) (W : World) : Prop where
  row : Rd W W.heap.size AL m (fun j => (zAt zs j).v)
  own : ∀ i, Own W B 5 1 (zAt zs i).A (zAt zs i).l.length (zAt zs i).c (u8s (curL zs n k i))
  bel : Below B w W
  oth : KeepsOthers w W
section
variable {zs : List Pt} {AL : Option Addr} {m B n k : Nat} {w W : World}
theorem Ow1.next (h : Ow1 zs AL m B w n (zAt zs n).l.length W) : Ow1 zs AL m B w (n + 1) 0 W := ⟨h.row, fun i => by rw [curL_next]; exact h.own i, h.bel, h.oth⟩
theorem Ow1.drew (h : Ow1 zs AL m B w n k W) : Ow1 zs AL m B w n k W.drew := ⟨Rd.drewN h.row 1, fun i => (h.own i).drew, below_drewN h.bel 1, ⟨h.oth.size, h.oth.same⟩⟩
theorem Ow1.put (h : Ow1 zs AL m B w n k W) (hk : k < (zAt zs n).l.length) {g : Nat} (hg : (zAt zs n).A = some ⟨g, 0, none⟩) (hL : blockOf AL ≠ some g) (hD : ∀ i, i ≠ n → blockOf (zAt zs i).A ≠ some g) (hB : B ≤ W.heap.size) :
    Ow1 zs AL m B w n (k + 1) (W.setCell ⟨g, k, none⟩ (.int .u8 (markF n k : Nat))) := by
  have ho := h.own n
  rw [hg] at ho
  refine ⟨fun hm => ?_, fun i => ?_, h.bel.trans (ho.set_below hB k _), h.oth.trans (KeepsOthers.setCell _ _ _)⟩
  · obtain ⟨b, off, e, hb, hc⟩ := h.row hm
    subst e
    refine ⟨b, off, rfl, by simpa [World.setCell] using hb, fun j hj => ?_⟩
    have hne : b ≠ g := fun e => hL (by rw [← e]; rfl)
    exact (World.cell?_of_block (heap_setCell_other W ⟨g, k, none⟩ b _ hne)).trans (hc j hj)
  · by_cases hi : i = n
    · subst hi
      have := ho.set k (.int .u8 (markF i k : Nat))
      rw [u8s_setR, curL_set hk] at this
      rw [hg]
      exact this
    · rw [curL_other hi]
      exact (h.own i).kept (ho.set_grown k _) fun j hj e => hD i hi (by rw [hj]; exact e.symm)
end
end Go.Proofs.YtnjbpacnmiimlaaDoor

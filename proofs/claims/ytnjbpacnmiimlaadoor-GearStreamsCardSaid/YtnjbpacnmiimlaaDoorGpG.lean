/- GearPieces: apart: what stands while the lists are grown. -/
import Derived.Test.YtnjbpacnmiimlaaDoorGpO
namespace Go.Proofs.YtnjbpacnmiimlaaDoor
open Go.RowKit


abbrev Gs := Nat → Option Addr × Nat
/-- The lists that were grown. -/
def grL (zs : List Pt) (gs : Gs) (n : Nat) : List Value := (List.range n).map fun i => .slice (gs i).1 ((zAt zs i).l.length + 40) (gs i).2
/-- What stands while list n is grown (by k marks; g: where it lies now). -/
structure Ow2 (zs : List Pt) (AL : Option Addr) (m B : Nat) (w : World) (gs : Gs) (n k : Nat) (AG : Option Addr) (cG : Nat) (Ag : Option Addr) (cg : Nat) (W : World) : Prop where
  row : Rd W W.heap.size AL m (fun j => (zAt zs j).v)
  red : ∀ i, Byt W W.heap.size (zAt zs i).A (markL i (zAt zs i).l.length)
  old : ∀ i, n < i → Own W B 5 1 (zAt zs i).A (zAt zs i).l.length (zAt zs i).c (u8s (markL i (zAt zs i).l.length))
  gro : ∀ i, i < n → Own W B 5 1 (gs i).1 ((zAt zs i).l.length + 40) (gs i).2 (u8s (markL i ((zAt zs i).l.length + 40)))
  cur : Own W B 5 1 Ag ((zAt zs n).l.length + k) cg (u8s (markL n ((zAt zs n).l.length + k)))
  lng : Own W w.heap.size 24 1 AG n cG (grL zs gs n)
  sep : ∀ i, i < n → ∀ j, j ≠ i → Dis (gs i).1 (zAt zs j).A
  sep2 : ∀ j, j ≠ n → Dis Ag (zAt zs j).A
  sep3 : ∀ i, i < n → Dis (gs i).1 Ag
  sepL : Dis AL Ag
  bel : Below B w W
  oth : KeepsOthers w W
theorem rd_grown {W W' : World} {B n : Nat} {A Ag : Option Addr} {f : Nat → Value} (h : Rd W B A n f) (hg : W.grownBy W' (blockOf Ag)) (hd : Dis A Ag) : Rd W' W'.heap.size A n f := fun hn => by
  obtain ⟨b, off, e, _, hc⟩ := h hn
  subst e
  have hb := World.block_lt_of_cell? _ _ (hc 0 hn)
  exact ⟨b, off, rfl, Nat.lt_of_lt_of_le hb hg.size, fun j hj => (World.cell?_of_block (hg.block b hb (fun e => hd b rfl e.symm))).trans (hc j hj)⟩
theorem app_new {W W' : World} {A A' A2 : Option Addr} (h : AppAt W W' A A') (hd : Dis A2 A) (hlt : ∀ k, blockOf A2 = some k → k < W.heap.size) : Dis A2 A' := fun k h1 h2 => by
  rcases h with ⟨h3, _⟩ | ⟨k', h3, h4, _⟩
  · exact hd k h1 (h3 ▸ h2)
  · rw [h2] at h3
    cases h3
    have := hlt k h1
    omega
theorem Ow2.grow {zs : List Pt} {AL : Option Addr} {m B : Nat} {w : World} {gs : Gs} {n k : Nat} {AG : Option Addr} {cG : Nat} {Ag A' : Option Addr} {cg c' : Nat} {W W' : World} (h : Ow2 zs AL m B w gs n k AG cG Ag cg W)
    (hat : AppAt W W' Ag A') (ho : Own W' B 5 1 A' ((zAt zs n).l.length + (k + 1)) c' (u8s (markL n ((zAt zs n).l.length + (k + 1)))))
    (hZ : ∀ i j, blockOf (zAt zs i).A = some j → j < w.heap.size) (hAL : ∀ j, blockOf AL = some j → j < w.heap.size) (hB : B ≤ W.heap.size) (hu : Dis AG Ag) (h00 : ∀ ad, (zAt zs n).A = some ad → ∃ b, ad = ⟨b, 0, none⟩) :
    Ow2 zs AL m B w gs n (k + 1) AG cG A' c' W' where
  row := rd_grown h.row hat.grown h.sepL
  red := fun i => by
    by_cases hi : i = n
    · subst hi
      cases hA : (zAt zs i).A with
      | none =>
        intro hp
        have := h.red i hp
        rw [hA] at this
        obtain ⟨_, _, e, _⟩ := this
        cases e
      | some ad =>
        obtain ⟨b, rfl⟩ := h00 ad hA
        have hr := h.red i
        rw [hA] at hr
        have e : markL i ((zAt zs i).l.length + (k + 1)) = markL i ((zAt zs i).l.length + k) ++ [markF i ((zAt zs i).l.length + k)] := (markL_succ _ _).symm
        rw [e, u8s_append] at ho
        exact hat.prefix_ ho hr fun _ j hj => by
          rw [markL_length] at hj
          rw [u8s_get _ _ (by rw [markL_length]; omega), markL_at _ _ _ (by omega), markL_at _ _ _ hj]
    · exact rd_grown (h.red i) hat.grown (h.sep2 i hi).symm
  old := fun i hi => hat.other (h.old i hi) (h.sep2 i (by omega))
  gro := fun i hi => hat.other (h.gro i hi) (h.sep3 i hi).symm
  cur := ho
  lng := hat.other h.lng hu.symm
  sep := h.sep
  sep2 := fun j hj => (app_new hat (h.sep2 j hj).symm fun k hk => Nat.lt_of_lt_of_le (hZ j k hk) h.bel.size).symm
  sep3 := fun i hi => app_new hat (h.sep3 i hi) fun k hk => ((h.gro i hi).lt k hk).2
  sepL := app_new hat h.sepL fun k hk => Nat.lt_of_lt_of_le (hAL k hk) h.bel.size
  bel := h.bel.trans (hat.below h.cur hB)
  oth := h.oth.trans (hat.keeps h.cur)
/-- The list of the grown ones, one more. -/
theorem Ow2.done {zs : List Pt} {AL : Option Addr} {m B : Nat} {w : World} {gs : Gs} {n : Nat} {AG A' : Option Addr} {cG c' : Nat} {Ag : Option Addr} {cg : Nat} {W W' : World} (h : Ow2 zs AL m B w gs n 40 AG cG Ag cg W)
    (hat : AppAt W W' AG A') (ho : Own W' w.heap.size 24 1 A' (n + 1) c' (grL zs gs n ++ [.slice Ag ((zAt zs n).l.length + 40) cg]))
    (hAL : ∀ j, blockOf AL = some j → j < w.heap.size) (hB : B ≤ w.heap.size) (hu : ∀ X : Option Addr, (∃ (b : Nat) (k c : Nat) (xs : List Value), Own W b 5 1 X k c xs) → Dis AG X) (hr : ∀ i, Dis (zAt zs i).A AG)
    (hD : ∀ i j, i ≠ j → Dis (zAt zs i).A (zAt zs j).A) (hDL : ∀ i, Dis AL (zAt zs i).A) (hs : w.heap.size ≤ W.heap.size) :
    ∃ gs', (∀ i, i < n → gs' i = gs i) ∧ Ow2 zs AL m B w gs' (n + 1) 0 A' c' (zAt zs (n + 1)).A (zAt zs (n + 1)).c W' := by
  refine ⟨fun i => if i = n then (Ag, cg) else gs i, fun i hi => by simp [show i ≠ n by omega], ?_⟩
  have hd : Dis AL AG := fun k h1 h2 => by
    have := hAL k h1
    have := (h.lng.lt k h2).1
    omega
  have e : grL zs (fun i => if i = n then (Ag, cg) else gs i) (n + 1) = grL zs gs n ++ [.slice Ag ((zAt zs n).l.length + 40) cg] := by
    unfold grL
    rw [List.range_succ, List.map_append]
    congr 1
    · apply List.map_congr_left
      intro i hi
      have := List.mem_range.1 hi
      simp [show i ≠ n by omega]
    · simp
  have hz1 := h.old (n + 1) (by omega)
  exact {
    row := rd_grown h.row hat.grown hd
    red := fun i => rd_grown (h.red i) hat.grown (hr i)
    old := fun i hi => hat.other (h.old i (by omega)) (hr i).symm
    gro := fun i hi => by
      by_cases hin : i = n
      · subst hin
        simp only [if_true]
        exact hat.other h.cur (hu _ ⟨_, _, _, _, h.cur⟩)
      · simp only [if_neg hin]
        exact hat.other (h.gro i (by omega)) (hu _ ⟨_, _, _, _, h.gro i (by omega)⟩)
    cur := hat.other hz1 (hr _).symm
    lng := by rw [e]; exact ho
    sep := fun i hi j hj => by
      by_cases hin : i = n
      · subst hin
        simp only [if_true]
        exact h.sep2 j hj
      · simp only [if_neg hin]
        exact h.sep i (by omega) j hj
    sep2 := fun j hj => hD _ _ (Ne.symm hj)
    sep3 := fun i hi => by
      by_cases hin : i = n
      · subst hin
        simp only [if_true]
        exact h.sep2 _ (by omega)
      · simp only [if_neg hin]
        exact h.sep i (by omega) _ (by omega)
    sepL := hDL _
    bel := h.bel.trans ((hat.below h.lng hs).mono hB)
    oth := h.oth.trans (hat.keeps h.lng) }
/-- All are marked, none is grown. -/
theorem Ow1.grow0 {zs : List Pt} {AL : Option Addr} {m B : Nat} {w W : World} (h : Ow1 zs AL m B w m 0 W) (hm : zs.length = m) (gs : Gs)
    (hD : ∀ i j, i ≠ j → Dis (zAt zs i).A (zAt zs j).A) (hDL : ∀ i, Dis AL (zAt zs i).A) : Ow2 zs AL m B w gs 0 0 none 0 (zAt zs 0).A (zAt zs 0).c W := by
  have ho : ∀ i, Own W B 5 1 (zAt zs i).A (zAt zs i).l.length (zAt zs i).c (u8s (markL i (zAt zs i).l.length)) := fun i => by
    have h1 := h.own i
    rcases Nat.lt_or_ge i m with hi | hi
    · rw [curL_end zs hi] at h1
      exact h1
    · have e : zAt zs i = Pt.none_ := by
        unfold zAt
        rw [List.getElem?_eq_none (by omega)]
        rfl
      rw [e]
      exact Own.nil _ _ _ _
  exact ⟨h.row, fun i => (ho i).byt, fun i _ => ho i, fun i hi => absurd hi (by omega), ho 0, Own.nil _ _ _ _, fun i hi => absurd hi (by omega), fun j hj => hD _ _ (Ne.symm hj), fun i hi => absurd hi (by omega), hDL _, h.bel, h.oth⟩
end Go.Proofs.YtnjbpacnmiimlaaDoor

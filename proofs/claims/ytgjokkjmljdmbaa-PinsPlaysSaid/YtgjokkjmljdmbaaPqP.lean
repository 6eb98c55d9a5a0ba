/- spoilt: what stands while lists of sessions are written over. -/
import Derived.Test.YtgjokkjmljdmbaaPqM
namespace Go.Proofs.Ytgjokkjmljdmbaa
open Go.RowKit Go.Maps
set_option linter.unusedSimpArgs false
set_option linter.unusedVariables false

/-! ### cells written in a row -/
def setL : List Value → Nat → List Value → List Value
  | xs, _, [] => xs
  | xs, k, v :: r => setL (xs.set k v) (k + 1) r
theorem setL_mid : ∀ (vs b a c : List Value), vs.length = b.length → setL (a ++ b ++ c) a.length vs = a ++ vs ++ c
  | [], [], a, c, _ => rfl
  | [], _ :: _, _, _, h => by simp at h
  | _ :: _, [], _, _, h => by simp at h
  | v :: r, b0 :: b, a, c, h => by
    have ih := setL_mid r b (a ++ [v]) c (by simpa using h)
    have e : (a ++ b0 :: b ++ c).set a.length v = (a ++ [v]) ++ b ++ c := by
      rw [List.append_assoc, List.set_append_right _ _ (Nat.le_refl _), Nat.sub_self]
      simp
    rw [setL, e, show a.length + 1 = (a ++ [v]).length by simp, ih]
    simp
theorem own_setCells {B size n c g : Nat} {e : TypeId} : ∀ (vs : List Value) (k : Nat) (xs : List Value) (w : World), Own w B e size (some ⟨g, 0, none⟩) n c xs → Own (w.setCells g k vs) B e size (some ⟨g, 0, none⟩) n c (setL xs k vs)
  | [], _, _, _, h => h
  | v :: r, k, xs, w, h => by
    rw [World.setCells, setL]
    exact own_setCells r (k + 1) _ _ (h.set k v)
theorem upd_setCellsQ {F : Nat → Prop} (w : World) {g : Nat} (hg : F g) : ∀ (vs : List Value) (o : Nat) (W : World), Upd F w W → Upd F w (W.setCells g o vs)
  | [], _, _, h => h
  | v :: r, o, W, h => by
    rw [World.setCells]
    exact upd_setCellsQ w hg r (o + 1) _ (h.trans (Upd.set W (p := ⟨g, o, none⟩) hg _))
theorem own_there {w : World} {B size n c g k m : Nat} {e : TypeId} {xs : List Value} (h : Own w B e size (some ⟨g, 0, none⟩) n c xs) (hk : k + m ≤ n * size) : w.there g k m := fun j hj => by
  have hl := h.len
  refine ⟨?_, h.frozen (k + j)⟩
  rw [h.cell (k + j) (by omega), List.getElem?_eq_getElem (by omega)]
  rfl
theorem own_same1 {w w' : World} {B : Nat} {e : TypeId} {size n c : Nat} {A : Option Addr} {xs : List Value} (h : Own w B e size A n c xs) (hk : ∀ k, blockOf A = some k → w'.heap[k]? = w.heap[k]?) : Own w' B e size A n c xs := RefAt.keep.own_same0 h hk
theorem setCells_same {g k : Nat} (hk : k ≠ g) (vs : List Value) (o : Nat) (w : World) (hl : k < w.heap.size) : (w.setCells g o vs).heap[k]? = w.heap[k]? :=
  (upd_setCellsQ (F := fun j => j = g) w rfl vs o w (Upd.refl _ _)).block k hl hk
theorem setCells_sz (g : Nat) : ∀ (vs : List Value) (o : Nat) (w : World), (w.setCells g o vs).heap.size = w.heap.size
  | [], _, _ => rfl
  | v :: r, o, w => by rw [World.setCells, setCells_sz g r]; simp [World.setCell]
/-- A key of a row is another. -/
theorem rowsK_set {l : List (List Nat)} (hl : ∀ x ∈ l, x.length = 32) {k : Nat} (hk : k < l.length) {y : List Nat} (hy : y.length = 32) : setL (rowsK l) (k * 32) (u8s y) = rowsK (l.set k y) := by
  have e1 : l = l.take k ++ [l[k]] ++ l.drop (k + 1) := by rw [List.append_assoc, List.singleton_append, ← List.drop_eq_getElem_cons hk, List.take_append_drop]
  have e2 : l.set k y = l.take k ++ [y] ++ l.drop (k + 1) := by rw [List.set_eq_take_append_cons_drop, if_pos hk]; simp
  have h1 : (rowsK (l.take k)).length = k * 32 := by
    rw [rowsK_length (fun x hx => hl x (List.mem_of_mem_take hx)), List.length_take, Nat.min_eq_left (by omega)]
  have h2 := setL_mid (u8s y) (u8s l[k]) (rowsK (l.take k)) (rowsK (l.drop (k + 1))) (by rw [u8s_length, u8s_length, hy, hl _ (List.getElem_mem hk)])
  rw [h1] at h2
  have e3 : rowsK l = rowsK (l.take k) ++ u8s l[k] ++ rowsK (l.drop (k + 1)) := by
    conv => lhs; rw [e1]
    rw [rowsK_append, rowsK_append, rowsK_one]
  rw [e3, h2, e2, rowsK_append, rowsK_append, rowsK_one]

/-! ### the marks -/
def mk1 (j t : Nat) : List Nat := ((zeros 29 ++ [1]) ++ [j]) ++ [t]
def mk2 (j t : Nat) : List Nat := ((zeros 29 ++ [2]) ++ [j]) ++ [t]
theorem mk1_len (j t : Nat) : (mk1 j t).length = 32 := by simp [mk1, zeros]
theorem mk2_len (j t : Nat) : (mk2 j t).length = 32 := by simp [mk2, zeros]
theorem bldM1 (j t : Nat) (w : World) : (Instr.build 29 #[(29, .int .u8 1), (30, .int .u8 (j : Int)), (31, .int .u8 (t : Int))]).run Try.prog w = .ok (.agg (u8s (mk1 j t)).toArray) w := run_build w _ _ _ (by kernel_rfl)
theorem bldM2 (j t : Nat) (w : World) : (Instr.build 29 #[(29, .int .u8 2), (30, .int .u8 (j : Int)), (31, .int .u8 (t : Int))]).run Try.prog w = .ok (.agg (u8s (mk2 j t)).toArray) w := run_build w _ _ _ (by kernel_rfl)
/-- A list marked through, then grown by k. -/
def mkL (j t len k : Nat) : List (List Nat) := List.replicate len (mk1 j t) ++ List.replicate k (mk2 j t)
theorem mkL_len (j t len k : Nat) : (mkL j t len k).length = len + k := by simp [mkL]
theorem mkL_32 {j t len k : Nat} : ∀ x ∈ mkL j t len k, x.length = 32 := fun x hx => by
  unfold mkL at hx
  rcases List.mem_append.1 hx with h | h
  · rw [(List.mem_replicate.1 h).2]; exact mk1_len _ _
  · rw [(List.mem_replicate.1 h).2]; exact mk2_len _ _
theorem mkL_succ (j t len k : Nat) : mkL j t len (k + 1) = mkL j t len k ++ [mk2 j t] := by
  unfold mkL
  rw [List.replicate_succ', List.append_assoc]
theorem mkL_at (j t len k i : Nat) (h : i < len + k) : (mkL j t len k)[i]? = some (if i < len then mk1 j t else mk2 j t) := by
  unfold mkL
  by_cases hi : i < len
  · rw [if_pos hi, List.getElem?_append_left (by simpa using hi)]
    simp [hi]
  · rw [if_neg hi, List.getElem?_append_right (by simp; omega), List.length_replicate, List.getElem?_replicate, if_pos (by omega)]
theorem mkL_zero (j t len : Nat) : mkL j t len 0 = List.replicate len (mk1 j t) := by simp [mkL]

def seN : SE := ⟨0, 0, [], none, 0⟩
def zAt (zs : List SE) (i : Nat) : SE := zs[i]?.getD seN
/-- What list j holds while list i is marked up to k. -/
def curK (zs : List SE) (t i k j : Nat) : List (List Nat) := if j < i then mkL j t (zAt zs j).ks.length 0 else if j = i then List.replicate k (mk1 i t) ++ (zAt zs j).ks.drop k else (zAt zs j).ks
theorem curK_length {zs : List SE} {t i k : Nat} (hk : k ≤ (zAt zs i).ks.length) (j : Nat) : (curK zs t i k j).length = (zAt zs j).ks.length := by
  unfold curK
  split
  · rw [mkL_len]; rfl
  · split
    · rename_i h
      subst h
      rw [List.length_append, List.length_replicate, List.length_drop]
      omega
    · rfl
theorem curK_32 {zs : List SE} {t i k j : Nat} (h32 : ∀ x ∈ (zAt zs j).ks, x.length = 32) : ∀ x ∈ curK zs t i k j, x.length = 32 := fun x hx => by
  unfold curK at hx
  split at hx
  · exact mkL_32 x hx
  · split at hx
    · rcases List.mem_append.1 hx with h | h
      · rw [(List.mem_replicate.1 h).2]; exact mk1_len _ _
      · exact h32 x (List.mem_of_mem_drop h)
    · exact h32 x hx
theorem curK_zero (zs : List SE) (t j : Nat) : curK zs t 0 0 j = (zAt zs j).ks := by
  unfold curK
  rw [if_neg (by omega)]
  split
  · simp
  · rfl
theorem curK_next (zs : List SE) (t i j : Nat) : curK zs t (i + 1) 0 j = curK zs t i (zAt zs i).ks.length j := by
  unfold curK
  rcases Nat.lt_trichotomy j i with h | h | h
  · rw [if_pos (by omega), if_pos h]
  · subst h
    rw [if_pos (by omega), if_neg (by omega), if_pos rfl, List.drop_length, List.append_nil, mkL_zero]
  · rw [if_neg (show ¬ j < i + 1 by omega), if_neg (show ¬ j < i by omega), if_neg (show ¬ j = i by omega)]
    split
    · simp
    · rfl
theorem curK_set {zs : List SE} {t i k : Nat} (hk : k < (zAt zs i).ks.length) : (curK zs t i k i).set k (mk1 i t) = curK zs t i (k + 1) i := by
  unfold curK
  rw [if_neg (by omega), if_pos rfl, if_neg (by omega), if_pos rfl, List.set_append_right _ _ (by simp), List.length_replicate, Nat.sub_self, List.replicate_succ', List.drop_eq_getElem_cons hk, List.set_cons_zero, List.append_assoc]
  rfl
theorem curK_other {zs : List SE} {t i k j : Nat} (h : j ≠ i) : curK zs t i (k + 1) j = curK zs t i k j := by
  unfold curK
  rw [if_neg h, if_neg h]
theorem curK_end (zs : List SE) (t : Nat) {i j : Nat} (h : j < i) : curK zs t i 0 j = mkL j t (zAt zs j).ks.length 0 := by
  unfold curK
  rw [if_pos h]
/-- The blocks that may be written. -/
def FS (zs : List SE) (AL : Option Addr) (k : Nat) : Prop := blockOf AL = some k ∨ ∃ i, blockOf (zAt zs i).A = some k
/-! ### while the lists are marked -/
structure Sp1 (zs : List SE) (AL : Option Addr) (cL t : Nat) (w : World) (i k : Nat) (W : World) : Prop where
  row : Own W 0 85 3 AL zs.length cL (rowsE zs)
  own : ∀ j, Own W 0 29 32 (zAt zs j).A (zAt zs j).ks.length (zAt zs j).c (rowsK (curK zs t i k j))
  upd : Upd (FS zs AL) w W
section
variable {zs : List SE} {AL : Option Addr} {cL t i k : Nat} {w W : World}
theorem Sp1.next (h : Sp1 zs AL cL t w i (zAt zs i).ks.length W) : Sp1 zs AL cL t w (i + 1) 0 W := ⟨h.row, fun j => by rw [curK_next]; exact h.own j, h.upd⟩
theorem Sp1.put (h : Sp1 zs AL cL t w i k W) (hk : k < (zAt zs i).ks.length) {g : Nat} (hg : (zAt zs i).A = some ⟨g, 0, none⟩) (hD : ∀ j, j ≠ i → Dis (zAt zs j).A (zAt zs i).A) (h32 : ∀ j, ∀ x ∈ (zAt zs j).ks, x.length = 32) :
    Sp1 zs AL cL t w i (k + 1) (W.setCells g (k * 32) (u8s (mk1 i t))) := by
  have ho := h.own i
  rw [hg] at ho
  have hgl := (ho.lt g rfl).2
  refine ⟨own_same1 h.row fun j hj => setCells_same (fun e => ?_) _ _ _ (h.row.lt j hj).2, fun j => ?_, upd_setCellsQ w (.inr ⟨i, by rw [hg]; rfl⟩) _ _ _ h.upd⟩
  · subst e
    exact own_unlikeQ h.row ho (by decide) j hj rfl
  · by_cases hj : j = i
    · subst hj
      have := own_setCells (u8s (mk1 j t)) (k * 32) _ _ ho
      rw [rowsK_set (curK_32 (h32 j)) (by rw [curK_length (by omega)]; exact hk) (mk1_len _ _), curK_set hk] at this
      rw [hg]
      exact this
    · rw [curK_other hj]
      refine own_same1 (h.own j) fun b hb => setCells_same (fun e => ?_) _ _ _ ((h.own j).lt b hb).2
      subst e
      exact hD j hj b hb (by rw [hg]; rfl)
end
/-! ### while the lists are grown -/
theorem elLL : ElemOk Try.prog 88 32 (.slice none 0 0) 1 24 := ⟨Try.underlying88, by kernel_rfl, rfl, by decide⟩
abbrev Gs := Nat → Option Addr × Nat
def grL (zs : List SE) (gs : Gs) (n : Nat) : List Value := (List.range n).map fun i => .slice (gs i).1 ((zAt zs i).ks.length + 20) (gs i).2
theorem rd_grown {W W' : World} {B n : Nat} {A Ag : Option Addr} {f : Nat → Value} (h : Rd W B A n f) (hg : W.grownBy W' (blockOf Ag)) (hd : Dis A Ag) : Rd W' W'.heap.size A n f := fun hn => by
  obtain ⟨b, off, e, _, hc⟩ := h hn
  subst e
  have hb := World.block_lt_of_cell? _ _ (hc 0 hn)
  exact ⟨b, off, rfl, Nat.lt_of_lt_of_le hb hg.size, fun j hj => (World.cell?_of_block (hg.block b hb (fun e => hd b rfl e.symm))).trans (hc j hj)⟩
theorem app_new {W W' : World} {A A' A2 : Option Addr} (h : AppAt W W' A A') (hd : Dis A2 A) (hlt : ∀ k, blockOf A2 = some k → k < W.heap.size) : Dis A2 A' := fun k h1 h2 => by
  rcases h with ⟨h3, _⟩ | ⟨k', h3, h4, _⟩
  · exact hd k h1 (h3 ▸ h2)
  · rw [h2] at h3
    cases h3
    have := hlt k h1
    omega
/-- Where an append may have written, by blocks that were there at the beginning. -/
theorem app_upd {F : Nat → Prop} {w W W' : World} {A A' : Option Addr} {B e size n c : Nat} {xs : List Value} (hu : Upd F w W) (hat : AppAt W W' A A') (hF : ∀ k, blockOf A = some k → k < w.heap.size → F k) : Upd F w W' :=
  hu.trans' (F' := fun k => blockOf A = some k) ⟨hat.grown.os, hat.grown.tape, hat.grown.output, hat.grown.size, fun k hk hn => hat.grown.block k hk (fun e => hn e.symm)⟩ hF
structure Sp2 (zs : List SE) (AL : Option Addr) (cL t : Nat) (w : World) (gs : Gs) (i k : Nat) (AG : Option Addr) (cG : Nat) (Ag : Option Addr) (cg : Nat) (W : World) : Prop where
  row : Own W 0 85 3 AL zs.length cL (rowsE zs)
  red : ∀ j, Rd W W.heap.size (zAt zs j).A ((zAt zs j).ks.length * 32) (fun q => (rowsK (mkL j t (zAt zs j).ks.length 0))[q]?.getD undef)
  old : ∀ j, i < j → Own W 0 29 32 (zAt zs j).A (zAt zs j).ks.length (zAt zs j).c (rowsK (mkL j t (zAt zs j).ks.length 0))
  gro : ∀ j, j < i → Own W 0 29 32 (gs j).1 ((zAt zs j).ks.length + 20) (gs j).2 (rowsK (mkL j t (zAt zs j).ks.length 20))
  cur : Own W 0 29 32 Ag ((zAt zs i).ks.length + k) cg (rowsK (mkL i t (zAt zs i).ks.length k))
  lng : Own W w.heap.size 32 1 AG i cG (grL zs gs i)
  sep : ∀ j, j < i → ∀ q, q ≠ j → Dis (gs j).1 (zAt zs q).A
  sep2 : ∀ q, q ≠ i → Dis Ag (zAt zs q).A
  sep3 : ∀ j, j < i → Dis (gs j).1 Ag
  curF : ∀ b, blockOf Ag = some b → b < w.heap.size → FS zs AL b
  upd : Upd (FS zs AL) w W
section
variable {zs : List SE} {AL : Option Addr} {cL t : Nat} {w W W' : World} {gs : Gs} {i k : Nat} {AG : Option Addr} {cG : Nat} {Ag : Option Addr} {cg : Nat}
theorem Sp2.grow {A' : Option Addr} {c' : Nat} (h : Sp2 zs AL cL t w gs i k AG cG Ag cg W) (hat : AppAt W W' Ag A') (ho : Own W' 0 29 32 A' ((zAt zs i).ks.length + (k + 1)) c' (rowsK (mkL i t (zAt zs i).ks.length (k + 1))))
    (hZ : ∀ q j, blockOf (zAt zs q).A = some j → j < w.heap.size) (h00 : ∀ ad, (zAt zs i).A = some ad → ∃ b, ad = ⟨b, 0, none⟩) :
    Sp2 zs AL cL t w gs i (k + 1) AG cG A' c' W' where
  row := hat.other h.row (own_unlikeQ h.cur h.row (by decide))
  red := fun j => by
    by_cases hj : j = i
    · subst hj
      cases hA : (zAt zs j).A with
      | none =>
        intro hp
        have := h.red j hp
        rw [hA] at this
        obtain ⟨_, _, e, _⟩ := this
        cases e
      | some ad =>
        obtain ⟨b, rfl⟩ := h00 ad hA
        have hr := h.red j
        rw [hA] at hr
        rw [mkL_succ, rowsK_append] at ho
        refine hat.prefix_ ho hr fun _ q hq => ?_
        have hl1 : (rowsK (mkL j t (zAt zs j).ks.length 0)).length = (zAt zs j).ks.length * 32 := by rw [rowsK_length mkL_32, mkL_len]; rfl
        have e : rowsK (mkL j t (zAt zs j).ks.length k) = rowsK (mkL j t (zAt zs j).ks.length 0) ++ rowsK (List.replicate k (mk2 j t)) := by rw [mkL_zero, ← rowsK_append]; rfl
        rw [e, List.getElem?_append_left (by omega), List.getElem?_eq_getElem (by omega), Option.getD_some]
    · exact rd_grown (h.red j) hat.grown (h.sep2 j hj).symm
  old := fun j hj => hat.other (h.old j hj) (h.sep2 j (by omega))
  gro := fun j hj => hat.other (h.gro j hj) (h.sep3 j hj).symm
  cur := ho
  lng := hat.other h.lng (own_unlikeQ h.cur h.lng (by decide))
  sep := h.sep
  sep2 := fun q hq => (app_new hat (h.sep2 q hq).symm fun b hb => Nat.lt_of_lt_of_le (hZ q b hb) h.upd.size).symm
  sep3 := fun j hj => app_new hat (h.sep3 j hj) fun b hb => ((h.gro j hj).lt b hb).2
  curF := fun b hb hlt => by
    rcases hat with ⟨h3, _⟩ | ⟨k', h3, h4, _⟩
    · exact h.curF b (h3 ▸ hb) hlt
    · rw [hb] at h3
      cases h3
      have := h.upd.size
      omega
  upd := app_upd (B := 0) (e := 0) (size := 0) (n := 0) (c := 0) (xs := []) h.upd hat h.curF
theorem Sp2.done {A' : Option Addr} {c' : Nat} (h : Sp2 zs AL cL t w gs i 20 AG cG Ag cg W) (hat : AppAt W W' AG A') (ho : Own W' w.heap.size 32 1 A' (i + 1) c' (grL zs gs i ++ [.slice Ag ((zAt zs i).ks.length + 20) cg]))
    (hZ : ∀ q j, blockOf (zAt zs q).A = some j → j < w.heap.size) (hD : ∀ p q, p ≠ q → Dis (zAt zs p).A (zAt zs q).A) :
    ∃ gs', Sp2 zs AL cL t w gs' (i + 1) 0 A' c' (zAt zs (i + 1)).A (zAt zs (i + 1)).c W' := by
  have hr : ∀ q, Dis (zAt zs q).A AG := fun q b h1 h2 => by
    have := hZ q b h1
    have := (h.lng.lt b h2).1
    omega
  have e : grL zs (fun j => if j = i then (Ag, cg) else gs j) (i + 1) = grL zs gs i ++ [.slice Ag ((zAt zs i).ks.length + 20) cg] := by
    unfold grL
    rw [List.range_succ, List.map_append]
    congr 1
    · apply List.map_congr_left
      intro j hj
      have := List.mem_range.1 hj
      simp [show j ≠ i by omega]
    · simp
  have hz1 := h.old (i + 1) (by omega)
  have h0 : mkL (i + 1) t (zAt zs (i + 1)).ks.length 0 = mkL (i + 1) t (zAt zs (i + 1)).ks.length 0 := rfl
  refine ⟨fun j => if j = i then (Ag, cg) else gs j, {
    row := hat.other h.row (own_unlikeQ h.lng h.row (by decide))
    red := fun j => rd_grown (h.red j) hat.grown (hr j)
    old := fun j hj => hat.other (h.old j (by omega)) (hr j).symm
    gro := fun j hj => by
      by_cases hji : j = i
      · subst hji
        simp only [if_true]
        exact hat.other h.cur (own_unlikeQ h.lng h.cur (by decide))
      · simp only [if_neg hji]
        exact hat.other (h.gro j (by omega)) (own_unlikeQ h.lng (h.gro j (by omega)) (by decide))
    cur := hat.other hz1 (hr _).symm
    lng := by rw [e]; exact ho
    sep := fun j hj q hq => by
      by_cases hji : j = i
      · subst hji
        simp only [if_true]
        exact h.sep2 q hq
      · simp only [if_neg hji]
        exact h.sep j (by omega) q hq
    sep2 := fun q hq => hD _ _ (Ne.symm hq)
    sep3 := fun j hj => by
      by_cases hji : j = i
      · subst hji
        simp only [if_true]
        exact h.sep2 _ (by omega)
      · simp only [if_neg hji]
        exact h.sep j (by omega) _ (by omega)
    curF := fun b hb _ => .inr ⟨_, hb⟩
    upd := app_upd (B := 0) (e := 0) (size := 0) (n := 0) (c := 0) (xs := []) h.upd hat fun b hb hlt => by
      have := (h.lng.lt b hb).1
      omega }⟩
/-- All are marked, none is grown. -/
theorem Sp1.grow0 {m : Nat} (h : Sp1 zs AL cL t w m 0 W) (hm : zs.length = m) (gs : Gs) (hD : ∀ p q, p ≠ q → Dis (zAt zs p).A (zAt zs q).A) : Sp2 zs AL cL t w gs 0 0 none 0 (zAt zs 0).A (zAt zs 0).c W := by
  have ho : ∀ j, Own W 0 29 32 (zAt zs j).A (zAt zs j).ks.length (zAt zs j).c (rowsK (mkL j t (zAt zs j).ks.length 0)) := fun j => by
    have h1 := h.own j
    rcases Nat.lt_or_ge j m with hj | hj
    · rw [curK_end zs t hj] at h1
      exact h1
    · have e : zAt zs j = seN := by
        unfold zAt
        rw [List.getElem?_eq_none (by omega)]
        rfl
      rw [e]
      exact Own.nil _ _ _ _
  exact ⟨h.row, fun j => (ho j).rd, fun j _ => ho j, fun j hj => absurd hj (by omega), ho 0, Own.nil _ _ _ _, fun j hj => absurd hj (by omega), fun q hq => hD _ _ (Ne.symm hq), fun j hj => absurd hj (by omega), fun b hb _ => .inr ⟨0, hb⟩, h.upd⟩
end
end Go.Proofs.Ytgjokkjmljdmbaa

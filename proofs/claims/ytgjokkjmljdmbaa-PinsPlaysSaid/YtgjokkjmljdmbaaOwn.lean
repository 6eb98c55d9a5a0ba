/- Slices that a call makes by append: a row of its own, its value always of the form '.slice A n c'; the laws on append for the walk. No program is named here. -/
import Derived.Test.YtgjokkjmljdmbaaBase
import Derived.Maps.AppendAt
import Derived.OwnWalk
import Derived.Deep.DeepAppendWide
namespace Go.Proofs.Ytgjokkjmljdmbaa
open Go.RowKit

/-- What is known of a slice type t of the program, its element type e: the zero value, cells and bytes of an element. -/
structure ElemOk (P : Program) (t e : TypeId) (z : Value) (size bytes : Nat) : Prop where
  ht : P.underlying t = some (.slice e)
  hi : (P.info? e).map (fun i => (i.zero, i.size, i.bytes)) = some (some z, size, bytes)
  hz : z.cells.size = size
  hs : 0 < size

/-- The slice value '.slice A n c' (n elements) owns the cells xs, in a block from B on, or is nil. -/
def Own (w : World) (B : Nat) (e : TypeId) (size : Nat) (A : Option Addr) (n c : Nat) (xs : List Value) : Prop := w.ownsRow B e size (.slice A n c) n xs

def blockOf (A : Option Addr) : Option Nat := A.map (·.block)
theorem ownBlock_slice (A : Option Addr) (n c : Nat) : (Value.slice A n c).ownBlock = blockOf A := by cases A <;> rfl

section
variable {w w' : World} {B : Nat} {e : TypeId} {size n c : Nat} {A : Option Addr} {xs : List Value}
theorem Own.nil (w : World) (B : Nat) (e : TypeId) (size : Nat) : Own w B e size none 0 0 [] := World.ownsRow_nil w B e size
theorem Own.len (h : Own w B e size A n c xs) : xs.length = n * size := h.1
theorem Own.le (h : Own w B e size A n c xs) : n ≤ c ∧ c ≤ maxLen := by
  rcases h.2 with ⟨hv, hn⟩ | ⟨g, cap, cur, hv, _, _, h1, h2, _⟩
  · injection hv with _ _ hc
    subst hc hn
    exact ⟨Nat.le_refl _, Nat.zero_le _⟩
  · injection hv with _ _ hc
    subst hc
    exact ⟨h1, h2⟩
theorem Own.lt (h : Own w B e size A n c xs) : ∀ k, blockOf A = some k → B ≤ k ∧ k < w.heap.size := fun k hk => World.ownsRow.lt h k (by rw [ownBlock_slice]; exact hk)
theorem Own.alloc (h : Own w B e size A n c xs) (o : Obj) : Own (w.alloc o) B e size A n c xs := World.ownsRow.alloc h o
theorem Own.drew (h : Own w B e size A n c xs) : Own w.drew B e size A n c xs := h
theorem Own.drewN (h : Own w B e size A n c xs) (k : Nat) : Own (w.drewN k) B e size A n c xs := h
theorem Own.kept (h : Own w B e size A n c xs) {row : Option Nat} (hg : w.grownBy w' row) (hne : ∀ k, blockOf A = some k → row ≠ some k) : Own w' B e size A n c xs :=
  World.ownsRow.kept h hg (by
    rw [ownBlock_slice]
    cases hA : blockOf A with
    | none => exact .inl rfl
    | some k => exact .inr fun he => hne k hA he.symm)
theorem Own.below {B' : Nat} (h : Own w B e size A n c xs) (hb : Below B' w w') (hlt : ∀ k, blockOf A = some k → k < B') : Own w' B e size A n c xs := by
  refine ⟨h.1, ?_⟩
  rcases h.2 with h2 | ⟨g, cap, cur, hv, hg, hh, r⟩
  · exact Or.inl h2
  · refine Or.inr ⟨g, cap, cur, hv, hg, ?_, r⟩
    rw [hb.block g (hlt g ?_)]
    · exact hh
    · injection hv with hA
      subst hA
      rfl
theorem Own.rd (h : Own w B e size A n c xs) : Rd w w.heap.size A (n * size) (fun j => xs[j]?.getD undef) := rd_of_own h
theorem Own.base {B' : Nat} (h : Own w B e size A n c xs) (hB : B' ≤ B) : Own w B' e size A n c xs := by
  refine ⟨h.1, ?_⟩
  rcases h.2 with h2 | ⟨g, cap, cur, hv, hg, r⟩
  · exact Or.inl h2
  · exact Or.inr ⟨g, cap, cur, hv, by omega, r⟩
theorem own_form {v : Value} (h : w.ownsRow B e size v n xs) : ∃ A c, v = .slice A n c := by
  rcases h.2 with ⟨rfl, rfl⟩ | ⟨g, cap, cur, rfl, _⟩
  · exact ⟨none, 0, rfl⟩
  · exact ⟨_, _, rfl⟩
end

theorem grown_below {B : Nat} {w w' : World} {row : Option Nat} (hg : w.grownBy w' row) (hB : B ≤ w.heap.size) (hr : ∀ k, row = some k → B ≤ k) : Below B w w' :=
  (Below.refl B w).grown hg hB hr

/-- Two rows in unlike blocks. -/
def Dis (A A2 : Option Addr) : Prop := ∀ k, blockOf A = some k → blockOf A2 ≠ some k
theorem Dis.symm {A A2 : Option Addr} (h : Dis A A2) : Dis A2 A := fun k h1 h2 => h k h2 h1
theorem Dis.of_lt {A A2 : Option Addr} {m : Nat} (h1 : ∀ k, blockOf A = some k → k < m) (h2 : ∀ k, blockOf A2 = some k → m ≤ k) : Dis A A2 := fun k h3 h4 => by
  have := h1 k h3
  have := h2 k h4
  omega

/-- What an append does: it writes behind its row's end, or lays a new row and leaves all as it was. -/
def AppAt (w w' : World) (A A' : Option Addr) : Prop :=
  (blockOf A' = blockOf A ∧ w.grownBy w' (blockOf A)) ∨ ∃ k, blockOf A' = some k ∧ w.heap.size ≤ k ∧ w.grownBy w' none

section
variable {w w' : World} {B B2 : Nat} {e e2 : TypeId} {size size2 n n2 c c2 : Nat} {A A' A2 : Option Addr} {xs xs2 : List Value}
theorem AppAt.grown (h : AppAt w w' A A') : w.grownBy w' (blockOf A) := by
  rcases h with ⟨_, h⟩ | ⟨_, _, _, h⟩
  · exact h
  · exact ⟨h.os, h.tape, h.output, h.size, fun k hk _ => h.block k hk (by simp)⟩
theorem AppAt.below (h : AppAt w w' A A') (hown : Own w B e size A n c xs) (hB : B ≤ w.heap.size) : Below B w w' :=
  grown_below h.grown hB fun k hk => (hown.lt k hk).1
theorem AppAt.other (h : AppAt w w' A A') (ho : Own w B2 e2 size2 A2 n2 c2 xs2) (hd : Dis A A2) : Own w' B2 e2 size2 A2 n2 c2 xs2 :=
  ho.kept h.grown fun k hk he => hd k he hk
theorem AppAt.dis (h : AppAt w w' A A') (ho : Own w B2 e2 size2 A2 n2 c2 xs2) (hd : Dis A A2) : Dis A' A2 := by
  intro k h1 h2
  rcases h with ⟨h3, _⟩ | ⟨k', h3, h4, _⟩
  · exact hd k (h3 ▸ h1) h2
  · rw [h1] at h3
    cases h3
    have := (ho.lt k h2).2
    omega
/-- A block that is not the row's stays none of it. -/
theorem AppAt.off (h : AppAt w w' A A') {b : Nat} (hb : b < w.heap.size) (hd : blockOf A ≠ some b) : blockOf A' ≠ some b := by
  intro h1
  rcases h with ⟨h3, _⟩ | ⟨k', h3, h4, _⟩
  · exact hd (h3 ▸ h1)
  · rw [h1] at h3
    cases h3
    omega
/-- A row in another block reads as it did. -/
theorem AppAt.far (h : AppAt w w' A A') {b m : Nat} {g : Nat → Value} {B3 : Nat} (hr : Rd w B3 (some ⟨b, 0, none⟩) m g) (hd : blockOf A ≠ some b) : Rd w' w'.heap.size (some ⟨b, 0, none⟩) m g := by
  intro hm
  obtain ⟨b', off, he, hb, hc⟩ := hr hm
  cases he
  have hbs : b < w.heap.size := World.block_lt_of_cell? _ _ (hc 0 hm)
  exact ⟨b, 0, rfl, Nat.lt_of_lt_of_le hbs h.grown.size, fun j hj => (World.cell?_of_block (h.grown.block b hbs (fun e => hd e.symm))).trans (hc j hj)⟩
/-- An older row that begins the row that is appended to reads as it did. -/
theorem AppAt.prefix_ {N c' : Nat} {ys : List Value} (h : AppAt w w' A A') (ho' : Own w' B e size A' N c' (xs ++ ys)) {b m : Nat} {g : Nat → Value} {B3 : Nat} (hr : Rd w B3 (some ⟨b, 0, none⟩) m g)
    (hp : blockOf A = some b → ∀ j, j < m → xs[j]? = some (g j)) : Rd w' w'.heap.size (some ⟨b, 0, none⟩) m g := by
  intro hm
  obtain ⟨b', off, he, hb, hc⟩ := hr hm
  cases he
  have hbs : b < w.heap.size := World.block_lt_of_cell? _ _ (hc 0 hm)
  refine ⟨b, 0, rfl, Nat.lt_of_lt_of_le hbs h.grown.size, fun j hj => ?_⟩
  have same : ∀ row, w.grownBy w' row → row ≠ some b → w'.cell? ⟨b, 0 + j, none⟩ = some (g j) := fun row hg hne =>
    (World.cell?_of_block (hg.block b hbs (fun e => hne e.symm))).trans (hc j hj)
  rcases h with ⟨h3, h4⟩ | ⟨k', _, _, h4⟩
  · by_cases hA : blockOf A = some b
    · have hj2 := hp hA j hj
      have hl := (List.getElem?_eq_some_iff.1 hj2).1
      have hb' : blockOf A' = some b := h3.trans hA
      rcases ho'.2 with ⟨hv, _⟩ | ⟨g', cap, cur, hv, _⟩
      · injection hv with hA2
        rw [hA2] at hb'
        cases hb'
      · injection hv with hA2
        subst hA2
        have hg' : g' = b := by simpa [blockOf] using hb'
        subst hg'
        have := World.ownsRow.cells ho' (g := g') rfl j (g j) (by rw [List.getElem?_append_left hl]; exact hj2)
        rwa [Addr.add_lit] at this
    · exact same _ h4 hA
  · exact same _ h4 (by simp)
end

theorem run_app {P : Program} {t e : TypeId} {z : Value} {size bytes : Nat} (E : ElemOk P t e z size bytes) (ty : TypeId) (w : World)
    {B : Nat} {A : Option Addr} {n c : Nat} {xs : List Value} (hown : Own w B e size A n c xs)
    {B2 : Nat} {A2 : Option Addr} {m c2 : Nat} {g : Nat → Value} (hr : Rd w B2 A2 (m * size) g) (h1 : ∀ j, j < m * size → (g j).oneCell' = true)
    (hn : n + m ≤ maxLen) (hb : (n + m + (n + m) / 4 + 192) * bytes ≤ 281474976710656) (hB : B ≤ w.heap.size) :
    ∃ A' c' w', (Builtin.append_ #[t, t] ty #[.slice A n c, .slice A2 m c2]).run P w = .ok (.slice A' (n + m) c') w' ∧ Own w' B e size A' (n + m) c' (xs ++ (List.range (m * size)).map g) ∧ AppAt w w' A A' := by
  obtain ⟨i, hi, hz0, hz1, hz2⟩ := info_parts E.hi
  subst hz1 hz2
  rcases Nat.eq_zero_or_pos m with hm | hm
  · subst hm
    refine ⟨A, c, w, ?_, by simpa using hown, .inl ⟨rfl, World.grownBy.refl w _⟩⟩
    rcases hown.2 with ⟨hv, hn0⟩ | ⟨b, cap, cur, hv, _, _, hnc, _⟩
    · injection hv with hA _ hc
      subst hA hc hn0
      cases A2 <;> simp [Builtin.append_, run_underlying E.ht, sizeOf, typeInfo, hi, Builtin.lenOf, Builtin.firstCells, loadCells, loadCellsFrom]
    · injection hv with hA _ hc
      subst hA hc
      cases A2 <;> simp [Builtin.append_, run_underlying E.ht, sizeOf, typeInfo, hi, Builtin.lenOf, Builtin.firstCells, hnc, storeCells, loadCells, loadCellsFrom]
  · obtain ⟨b, off, rfl, _, hc⟩ := hr (Nat.mul_pos hm E.hs)
    obtain ⟨news, hnw⟩ : ∃ news, news = (List.range (m * i.size)).map g := ⟨_, rfl⟩
    have hl : news.length = m * i.size := by rw [hnw]; simp
    have hnews : ∀ j u, news[j]? = some u → w.cell? ((⟨b, off, none⟩ : Addr).add j) = some u := fun j u hu => by
      rw [hnw] at hu
      have hj : j < m * i.size := by have := (List.getElem?_eq_some_iff.1 hu).1; simpa using this
      rw [Addr.add_lit, hc j hj]
      simp only [List.getElem?_map, List.getElem?_range hj, Option.map_some] at hu
      exact hu
    have hone : ∀ u ∈ news, u.oneCell' = true := fun u hu => by
      rw [hnw] at hu
      obtain ⟨j, hj, rfl⟩ := List.mem_map.1 hu
      exact h1 j (by simpa using hj)
    rw [← hnw]
    clear hnw hr hc h1
    have hsmall : n + m ≤ 9223372036854775807 := by simp only [maxLen] at hn; omega
    have hlen : (xs ++ news).length = (n + m) * i.size := by rw [List.length_append, hown.len, hl, Nat.add_mul]
    have grown : ∀ (old : Nat), old < n + m →
        Own (w.drew.alloc (.cells (xs.toArray ++ news.toArray ++ Builtin.zeroCells z.cells (grownCap w (n + m) old e - (n + m))) e)) B e i.size (some ⟨w.heap.size, 0, none⟩) (n + m) (grownCap w (n + m) old e) (xs ++ news) ∧
        w.grownBy (w.drew.alloc (.cells (xs.toArray ++ news.toArray ++ Builtin.zeroCells z.cells (grownCap w (n + m) old e - (n + m))) e)) none := by
      intro old ho
      have hge := grownCap_ge w (n + m) old e
      have hcm : grownCap w (n + m) old e ≤ maxLen := grownCap_le_maxLen w (n + m) old e hn
      refine ⟨⟨hlen, .inr ⟨w.heap.size, _, _, rfl, hB, heap_alloc_new w.drew _, hge, hcm, ?_, ?_⟩⟩, ⟨rfl, rfl, rfl, by simp, fun k hk _ => heap_alloc_old w.drew _ hk⟩⟩
      · simp only [Array.size_append, List.size_toArray, size_zeroCells, E.hz, hown.len, hl, ← Nat.add_mul]
        congr 1
        omega
      · simp only [Array.toList_append, List.append_assoc]
        rw [← List.append_assoc, ← hlen]
        exact List.take_left
    rcases hown.2 with ⟨hv, hn0⟩ | ⟨g0, cap, cur, hv, hbg, hg, hnc, hcm, hcs, htake⟩
    · injection hv with hA _ hc0
      subst hA hc0 hn0
      have hx : xs = [] := List.eq_nil_of_length_eq_zero (by simpa using hown.len)
      subst hx
      have hrun := run_append_nil (P := P) w t ty e i z E.ht hi hz0 ⟨b, off, none⟩ m c2 news hl hnews hm (by omega) (Nat.le_trans (Nat.mul_le_mul_right _ (by omega)) hb)
      have hgr := grown 0 (by omega)
      simp only [Nat.zero_add, List.nil_append, Array.empty_append] at hgr ⊢
      exact ⟨_, _, _, hrun, hgr.1, .inr ⟨w.heap.size, rfl, Nat.le_refl _, hgr.2⟩⟩
    · injection hv with hA _ hc0
      subst hA hc0
      by_cases hroom : n + m ≤ c
      · have hfit : n * i.size + news.length ≤ cur.size := by rw [hl, hcs, ← Nat.add_mul]; exact Nat.mul_le_mul_right _ hroom
        have hrun := run_append_room (P := P) w t ty e i E.ht hi g0 n c cur hg ⟨b, off, none⟩ m c2 news hl hnews hone hroom hfit
        refine ⟨_, _, _, hrun, ⟨hlen, .inr ⟨g0, c, _, rfl, hbg, setRow_heap w g0 cur _ e _ hg, hroom, hcm, ?_, ?_⟩⟩, .inl ⟨rfl, ⟨rfl, rfl, rfl, by simp, fun k _ hk => setRow_other w g0 k _ (fun e => hk (by simp [blockOf, e]))⟩⟩⟩
        · simp only [List.size_toArray, List.length_append, List.length_take, List.length_drop, Array.length_toList]
          omega
        · rw [htake, ← hlen]
          exact List.take_left
      · have holds : ∀ j u, xs[j]? = some u → w.cell? ((⟨g0, 0, none⟩ : Addr).add j) = some u := World.ownsRow.cells hown (g := g0) rfl
        have hrun := run_append_grow (P := P) w t ty e i z E.ht hi hz0 ⟨g0, 0, none⟩ n c xs hown.len holds ⟨b, off, none⟩ m c2 news hl hnews (by omega) (by omega) (growslice_fits_wide (by omega) hb)
        have hgr := grown c (by omega)
        exact ⟨_, _, _, hrun, hgr.1, .inr ⟨w.heap.size, rfl, Nat.le_refl _, hgr.2⟩⟩

section
variable {P : Program} {ops : Array Oper} {rest : List Oper} {o : Oper} {a : Act} {Q : Exit → Act → World → Prop}
/-- append(s, x...) onto a row of the call's own; x nil, empty or not. -/
theorem wpList_app {t e : TypeId} {z : Value} {size bytes : Nat} (E : ElemOk P t e z size bytes) (w : World) (hgd : o.guard = none) (s x : Operand)
    (ho : o.op = .call { callee := .builtin .append, args := #[s, x], argTypes := #[t, t] })
    {B : Nat} {A : Option Addr} {n c : Nat} {xs : List Value} (hs : a.eval s = .slice A n c) (hown : Own w B e size A n c xs)
    {B2 : Nat} {A2 : Option Addr} {m c2 : Nat} {g : Nat → Value} (hx : a.eval x = .slice A2 m c2) (hr : Rd w B2 A2 (m * size) g) (h1 : ∀ j, j < m * size → (g j).oneCell' = true)
    (hn : n + m ≤ maxLen) (hb : (n + m + (n + m) / 4 + 192) * bytes ≤ 281474976710656) (hB : B ≤ w.heap.size) (N : Nat) (hN : n + m = N) (ys : List Value) (hys : xs ++ (List.range (m * size)).map g = ys)
    (h : ∀ A' c' w', Own w' B e size A' N c' ys → AppAt w w' A A' → Below B w w' →
      wpList P ops Q rest (a.put o.dst (.slice A' N c')) w') : wpList P ops Q (o :: rest) a w := by
  subst hN hys
  refine wpList_plain hgd fun K hK => ?_
  obtain ⟨A', c', w', hrun, h2, h3⟩ := run_app (P := P) E o.type w hown hr h1 hn hb hB (c2 := c2)
  unfold Oper.wp execOp
  simp only [ho, resolve, invoke, builtin, Sem.run_bind, Sem.run_pure, Result.andThen_ok, List.map_toArray, List.map_cons, List.map_nil, hs, hx, hrun]
  exact hK _ _ (h A' c' w' h2 h3 (h3.below hown hB))

/-- append(s, x) of one element: its cells have been laid in a new block. -/
theorem wpList_app1 {t e : TypeId} {z : Value} {size bytes : Nat} (E : ElemOk P t e z size bytes) (w : World) (cs : Array Value) (hcs : cs.size = size) (hgd : o.guard = none) (s x : Operand)
    (ho : o.op = .call { callee := .builtin .append, args := #[s, x], argTypes := #[t, t] })
    {B : Nat} {A : Option Addr} {n c : Nat} {xs : List Value} (hs : a.eval s = .slice A n c) (hown : Own w B e size A n c xs)
    (hx : a.eval x = .slice (some ⟨w.heap.size, 0, none⟩) 1 1) (h1 : ∀ u ∈ cs.toList, u.oneCell' = true)
    (hn : n + 1 ≤ maxLen) (hb : (n + 1 + (n + 1) / 4 + 192) * bytes ≤ 281474976710656) (hB : B ≤ w.heap.size) (N : Nat) (hN : n + 1 = N) (ys : List Value) (hys : xs ++ cs.toList = ys)
    (h : ∀ A' c' w', Own w' B e size A' N c' ys → AppAt w w' A A' → Below B w w' →
      wpList P ops Q rest (a.put o.dst (.slice A' N c')) w') : wpList P ops Q (o :: rest) a (w.alloc (.cells cs e)) := by
  subst hN hys
  have hrd : Rd (w.alloc (.cells cs e)) (w.heap.size + 1) (some ⟨w.heap.size, 0, none⟩) (1 * size) (fun j => cs.toList[j]?.getD undef) := fun _ => by
    refine ⟨w.heap.size, 0, rfl, by omega, fun j hj => ?_⟩
    rw [cell_of_row (w.alloc (.cells cs e)) w.heap.size (0 + j) cs e (0, 0) (heap_alloc_new w _)]
    simp [show j < cs.size by omega]
  refine wpList_app E (w.alloc (.cells cs e)) hgd s x ho hs (hown.alloc _) hx hrd ?_ hn hb (by simp; omega) (n + 1) rfl _ rfl ?_
  · intro j hj
    have hj' : j < cs.toList.length := by simp; omega
    simp only [List.getElem?_eq_getElem hj', Option.getD_some]
    exact h1 _ (List.getElem_mem hj')
  · intro A' c' w' h2 h3 h5
    have hl : (List.range (1 * size)).map (fun j => cs.toList[j]?.getD undef) = cs.toList := by
      apply List.ext_getElem
      · simp [hcs]
      · intro j hj _
        have hj' : j < cs.toList.length := by simp at hj ⊢; omega
        simp [show j < cs.size by simpa using hj']
    rw [hl] at h2
    have back : ∀ row, (w.alloc (.cells cs e)).grownBy w' row → w.grownBy w' row := fun row hg =>
      ⟨hg.os, hg.tape, hg.output, by have := hg.size; simp at this; omega, fun k hk hne => (hg.block k (by simp; omega) hne).trans (Below.heap_alloc w _ k hk)⟩
    refine h A' c' w' h2 ?_ (((Below.refl B w).alloc hB _).trans h5)
    rcases h3 with ⟨h6, h7⟩ | ⟨k, h6, h7, h8⟩
    · exact .inl ⟨h6, back _ h7⟩
    · exact .inr ⟨k, h6, by simp at h7; omega, back _ h8⟩

/-- append(s, x1, .., xm) of some elements: their cells have been laid in a new block. -/
theorem wpList_appm {t e : TypeId} {z : Value} {size bytes : Nat} (E : ElemOk P t e z size bytes) (w : World) (m : Nat) (cs : Array Value) (hcs : cs.size = m * size) (hgd : o.guard = none) (s x : Operand)
    (ho : o.op = .call { callee := .builtin .append, args := #[s, x], argTypes := #[t, t] })
    {B : Nat} {A : Option Addr} {n c : Nat} {xs : List Value} (hs : a.eval s = .slice A n c) (hown : Own w B e size A n c xs)
    (hx : a.eval x = .slice (some ⟨w.heap.size, 0, none⟩) m m) (h1 : ∀ u ∈ cs.toList, u.oneCell' = true)
    (hn : n + m ≤ maxLen) (hb : (n + m + (n + m) / 4 + 192) * bytes ≤ 281474976710656) (hB : B ≤ w.heap.size) (N : Nat) (hN : n + m = N) (ys : List Value) (hys : xs ++ cs.toList = ys)
    (h : ∀ A' c' w', Own w' B e size A' N c' ys → AppAt w w' A A' → Below B w w' →
      wpList P ops Q rest (a.put o.dst (.slice A' N c')) w') : wpList P ops Q (o :: rest) a (w.alloc (.cells cs e)) := by
  subst hN hys
  have hrd : Rd (w.alloc (.cells cs e)) (w.heap.size + 1) (some ⟨w.heap.size, 0, none⟩) (m * size) (fun j => cs.toList[j]?.getD undef) := fun _ => by
    refine ⟨w.heap.size, 0, rfl, by omega, fun j hj => ?_⟩
    rw [cell_of_row (w.alloc (.cells cs e)) w.heap.size (0 + j) cs e (0, 0) (heap_alloc_new w _)]
    simp [show j < cs.size by omega]
  refine wpList_app E (w.alloc (.cells cs e)) hgd s x ho hs (hown.alloc _) hx hrd ?_ hn hb (by simp; omega) (n + m) rfl _ rfl ?_
  · intro j hj
    have hj' : j < cs.toList.length := by simp; omega
    simp only [List.getElem?_eq_getElem hj', Option.getD_some]
    exact h1 _ (List.getElem_mem hj')
  · intro A' c' w' h2 h3 h5
    have hl : (List.range (m * size)).map (fun j => cs.toList[j]?.getD undef) = cs.toList := by
      apply List.ext_getElem
      · simp [hcs]
      · intro j hj _
        have hj' : j < cs.toList.length := by simp at hj ⊢; omega
        simp [show j < cs.size by simpa using hj']
    rw [hl] at h2
    have back : ∀ row, (w.alloc (.cells cs e)).grownBy w' row → w.grownBy w' row := fun row hg =>
      ⟨hg.os, hg.tape, hg.output, by have := hg.size; simp at this; omega, fun k hk hne => (hg.block k (by simp; omega) hne).trans (Below.heap_alloc w _ k hk)⟩
    refine h A' c' w' h2 ?_ (((Below.refl B w).alloc hB _).trans h5)
    rcases h3 with ⟨h6, h7⟩ | ⟨k, h6, h7, h8⟩
    · exact .inl ⟨h6, back _ h7⟩
    · exact .inr ⟨k, h6, by simp at h7; omega, back _ h8⟩

/-- make([]T, n, m). -/
theorem wpList_mk {t e : TypeId} {z : Value} {size bytes : Nat} (E : ElemOk P t e z size bytes) (w : World) (hgd : o.guard = none) (l c : Operand) (ho : o.op = .makeSlice t l c)
    {kl kc : IntKind} {L C : Int} (hl : a.eval l = .int kl L) (hc : a.eval c = .int kc C) (n m : Nat) (hL : L = n) (hC : C = m) (hnm : n ≤ m) (b1 : bytes * m ≤ 281474976710656) (b2 : m ≤ maxLen) {B : Nat} (hB : B ≤ w.heap.size)
    (h : ∀ w', Own w' B e size (some ⟨w.heap.size, 0, none⟩) n m (madeCells z.cells (n * size)).toList → w.grownBy w' none → Below B w w' → w'.heap.size = w.heap.size + 1 →
      wpList P ops Q rest (a.put o.dst (.slice (some ⟨w.heap.size, 0, none⟩) n m)) w') : wpList P ops Q (o :: rest) a w := by
  subst hL hC
  obtain ⟨i, hi, hz0, hz1, hz2⟩ := info_parts E.hi
  subst hz1 hz2
  refine wpList_plain hgd fun K hK => ?_
  have hb : (i.bytes : Int) * (m : Int) ≤ 281474976710656 := by
    have h : ((i.bytes * m : Nat) : Int) ≤ 281474976710656 := by omega
    rwa [Int.natCast_mul] at h
  have hm2 : (m : Int) ≤ 9223372036854775807 := by unfold maxLen at b2; omega
  have hrun := run_make (P := P) w t e i z E.ht hi hz0 kl kc n m (by omega) (by omega) hb hm2
  simp only [Int.toNat_natCast] at hrun
  unfold Oper.wp
  simp [execOp, ho, hl, hc, hrun, Result.andThen]
  have hg : w.grownBy (w.alloc (.cells (madeCells z.cells (m * i.size)) e)) none := ⟨rfl, rfl, rfl, by simp, fun k hk _ => heap_alloc_old w _ hk⟩
  refine hK _ _ (h _ ⟨by simp [size_madeCells], .inr ⟨w.heap.size, m, _, rfl, hB, heap_alloc_new w _, hnm, b2, by simp [size_madeCells], ?_⟩⟩ hg (grown_below hg hB (by intro k hk; cases hk)) (by simp))
  apply List.ext_getElem
  · simp only [List.length_take, Array.length_toList, size_madeCells]
    exact Nat.min_eq_left (Nat.mul_le_mul_right _ hnm)
  · intro j h1 h2
    simp [madeCells]
end

theorem made_one (z : Value) (hz : z.cells = #[z]) (n : Nat) : (madeCells z.cells (n * 1)).toList = List.replicate n z := by
  rw [Nat.mul_one, hz, toList_madeCells_one]

section
variable {w : World} {B : Nat} {e : TypeId} {size n c g : Nat} {xs : List Value}
theorem Own.cell (h : Own w B e size (some ⟨g, 0, none⟩) n c xs) (j : Nat) (hj : j < n * size) : w.cell? ⟨g, j, none⟩ = xs[j]? := World.ownsRow.cellAt h j hj
theorem Own.frozen (h : Own w B e size (some ⟨g, 0, none⟩) n c xs) (j : Nat) : w.frozen? ⟨g, j, none⟩ = false := World.ownsRow.frozenAt h j
theorem Own.set (h : Own w B e size (some ⟨g, 0, none⟩) n c xs) (j : Nat) (u : Value) : Own (w.setCell ⟨g, j, none⟩ u) B e size (some ⟨g, 0, none⟩) n c (xs.set j u) := (World.ownsRow.stored h j u).1
theorem Own.set_grown (h : Own w B e size (some ⟨g, 0, none⟩) n c xs) (j : Nat) (u : Value) : w.grownBy (w.setCell ⟨g, j, none⟩ u) (some g) := (World.ownsRow.stored h j u).2
theorem Own.head {A : Option Addr} (h : Own w B e size A n c xs) (hn : 0 < n) : ∃ g, A = some ⟨g, 0, none⟩ := by
  rcases h.2 with ⟨_, h0⟩ | ⟨g, cap, cur, hv, _⟩
  · omega
  · injection hv with hA
    exact ⟨g, hA⟩
theorem Own.lit (w : World) (B : Nat) (e : TypeId) (size m : Nat) (cs : Array Value) (hs : cs.size = m * size) (hm : m ≤ maxLen) (hB : B ≤ w.heap.size) : Own (w.alloc (.cells cs e)) B e size (some ⟨w.heap.size, 0, none⟩) m m cs.toList :=
  ⟨by simpa using hs, .inr ⟨w.heap.size, m, cs, rfl, hB, heap_alloc_new w _, Nat.le_refl _, hm, hs, by rw [← hs, ← Array.length_toList]; exact List.take_length⟩⟩
end

def u8s (l : List Nat) : List Value := l.map fun b : Nat => .int .u8 (b : Int)
theorem u8s_length (l : List Nat) : (u8s l).length = l.length := by simp [u8s]
theorem u8s_append (l m : List Nat) : u8s (l ++ m) = u8s l ++ u8s m := by simp [u8s]
theorem u8s_get (l : List Nat) (j : Nat) (h : j < l.length) : (u8s l)[j]? = some (.int .u8 ((l[j]?.getD 0 : Nat) : Int)) := by simp [u8s, h]
theorem u8s_one {l : List Nat} : ∀ u ∈ u8s l, u.oneCell' = true := by
  intro u hu
  obtain ⟨_, _, rfl⟩ := List.mem_map.1 hu
  rfl
theorem Own.byt {w : World} {B : Nat} {e : TypeId} {n c : Nat} {A : Option Addr} {l : List Nat} (h : Own w B e 1 A n c (u8s l)) : Byt w w.heap.size A l := by
  have hl : l.length = n := by have := h.len; rw [u8s_length] at this; omega
  have := h.rd
  rw [Nat.mul_one, ← hl] at this
  exact this.congr fun j hj => by rw [u8s_get l j hj]; rfl
/-- What an append of bytes lays behind. -/
theorem u8s_app {l m : List Nat} {k : Nat} (hk : k = m.length) : u8s l ++ (List.range (k * 1)).map (fun j => Value.int .u8 ((m[j]?.getD 0 : Nat) : Int)) = u8s (l ++ m) := by
  subst hk
  rw [u8s_append]
  congr 1
  apply List.ext_getElem
  · simp [u8s]
  · intro j h1 h2
    have h3 : j < m.length := by simpa [u8s] using h2
    simp [u8s, h3]
end Go.Proofs.Ytgjokkjmljdmbaa

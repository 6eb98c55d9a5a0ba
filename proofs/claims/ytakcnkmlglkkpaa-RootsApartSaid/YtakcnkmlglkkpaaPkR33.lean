/- The program's Turns, whatever is asked. The blocks of a call of asked or of wanted: the step, the result, what is being answered. How asked and wanted stand, from region to region. small. -/
import Derived.Test.YtakcnkmlglkkpaaPkR32
import Derived.Test.YtakcnkmlglkkpaaPkR25
import Derived.Test.YtakcnkmlglkkpaaPkR31

namespace Go.Proofs.Ytakcnkmlglkkpaa
open Go.RowKit
set_option linter.unusedSimpArgs false
set_option linter.unusedVariables false
open Classical

set_option maxRecDepth 100000 in
set_option maxHeartbeats 4000000 in
theorem turns_bad1 (w : World) {B g : Nat} {A : Option Addr} {L : Lists} (h : TblL w B g A L) (u v : Nat) (hu : L.length ≤ u) :
    Calls Try.prog 22 #[.pointer (some ⟨g, 0, none⟩), .int .u64 (u : Int), .int .u64 (v : Int)] w (TurnsP w L u v) := by
  have hAt1 := Lib.hid (atL_any h u)
  have hnone : L[u]? = none := List.getElem?_eq_none hu
  clear h
  go_enter Try.func22, Try.ntmps22
  go_wp2_with fail
  refine hAt1.out.mono ?_
  rintro e w1 ⟨(⟨a', A1, c1, e1, rfl, o1⟩ | ⟨_, rfl⟩), b1⟩
  · rw [hnone] at e1
    cases e1
  · have b1' := Lib.hid b1
    clear b1 hAt1
    go_wp2_with fail
    go_ret2
    exact ⟨.inr ⟨.inl hu, rfl⟩, b1'.out⟩
set_option maxRecDepth 100000 in
set_option maxHeartbeats 4000000 in
theorem turns_bad2 (w : World) {B g : Nat} {A : Option Addr} {L : Lists} (h : TblL w B g A L) (u v : Nat) (hu : u < L.length) (hv : L.length ≤ v) :
    Calls Try.prog 22 #[.pointer (some ⟨g, 0, none⟩), .int .u64 (u : Int), .int .u64 (v : Int)] w (TurnsP w L u v) := by
  have hAt1 := Lib.hid (atL_any h u)
  have hAt2 : Hid (∀ W, Below w.heap.size w W → Calls Try.prog 19 #[.pointer (some ⟨g, 0, none⟩), .int .u64 (v : Int)] W (AtP W L v)) := Lib.hid fun W hW => atL_any (h.below hW) v
  have hnone : L[v]? = none := List.getElem?_eq_none hv
  clear h
  go_enter Try.func22, Try.ntmps22
  go_wp2_with fail
  refine hAt1.out.mono ?_
  rintro e w1 ⟨(⟨a', A1, c1, e1, rfl, o1⟩ | ⟨hbad, _⟩), b1⟩
  · have hc2 := Lib.hid (hAt2.out w1 b1)
    have b1' := Lib.hid b1
    clear hAt1 hAt2 b1 o1 e1
    go_wp2_with fail
    refine hc2.out.mono ?_
    rintro e w2 ⟨(⟨b', A2, c2, e2, rfl, o2⟩ | ⟨_, rfl⟩), b2⟩
    · rw [hnone] at e2
      cases e2
    · have b2' := Lib.hid (b1'.out.trans (b2.mono b1'.out.size))
      clear b2 hc2
      go_wp2_with fail
      go_ret2
      exact ⟨.inr ⟨.inr hv, rfl⟩, b2'.out⟩
  · exact absurd hbad (by omega)
theorem turns_any (w : World) {B g : Nat} {A : Option Addr} {L : Lists} (h : TblL w B g A L) (u v : Nat) :
    Calls Try.prog 22 #[.pointer (some ⟨g, 0, none⟩), .int .u64 (u : Int), .int .u64 (v : Int)] w (TurnsP w L u v) := by
  rcases Nat.lt_or_ge u L.length with hu | hu
  · rcases Nat.lt_or_ge v L.length with hv | hv
    · exact turns_ok w h u v (List.getElem?_eq_getElem hu) (List.getElem?_eq_getElem hv)
    · exact turns_bad2 w h u v hu hv
  · exact turns_bad1 w h u v hu
end Go.Proofs.Ytakcnkmlglkkpaa

namespace Go.Proofs.Ytakcnkmlglkkpaa
open Go.RowKit
set_option linter.unusedSimpArgs false
set_option linter.unusedVariables false
open Classical

theorem setCells_blkA (g : Nat) (t : TypeId) : ∀ (vs old pre post : List Value) (w : World), vs.length = old.length → w.heap[g]? = some (.cells (pre ++ old ++ post).toArray t (0, 0)) →
    (w.setCells g pre.length vs).heap[g]? = some (.cells (pre ++ vs ++ post).toArray t (0, 0))
  | [], [], _, _, _, _, h => h
  | [], _ :: _, _, _, _, h, _ => by simp at h
  | _ :: _, [], _, _, _, h, _ => by simp at h
  | v :: vs, x :: old, pre, post, w, hl, h => by
    have h1 := heap_setCell_same w g pre.length _ _ v h
    have e1 : (pre ++ (x :: old) ++ post).toArray.setIfInBounds pre.length v = ((pre ++ [v]) ++ old ++ post).toArray := by
      rw [List.setIfInBounds_toArray, List.append_assoc, List.set_append_right _ _ (Nat.le_refl _), Nat.sub_self]
      simp
    rw [e1] at h1
    have h2 := setCells_blkA g t vs old (pre ++ [v]) post (w.setCell ⟨g, pre.length, none⟩ v) (by simpa using hl) h1
    rw [List.length_append] at h2
    simp only [List.append_assoc, List.singleton_append] at h2 ⊢
    simpa [World.setCells] using h2
theorem setCells_oth {g k : Nat} (h : k ≠ g) : ∀ (vs : List Value) (o : Nat) (w : World), (w.setCells g o vs).heap[k]? = w.heap[k]?
  | [], _, _ => rfl
  | v :: vs, o, w => (setCells_oth h vs (o + 1) _).trans (Below.heap_setCell w ⟨g, o, none⟩ v k h)
theorem range_blk {w : World} {g : Nat} {cs : List Value} {t : TypeId} {fr : Nat × Nat} (h : w.heap[g]? = some (.cells cs.toArray t fr)) : w.rangeAt g 0 cs := fun j v hj => by
  rw [Nat.zero_add, cell_of_row w g j _ _ _ h]
  simpa using hj
theorem cell_blk {w : World} {g : Nat} {cs : List Value} {t : TypeId} {fr : Nat × Nat} (h : w.heap[g]? = some (.cells cs.toArray t fr)) {j : Nat} {v : Value} (hj : cs[j]? = some v) : w.cell? ⟨g, j, none⟩ = some v := by
  rw [cell_of_row w g j _ _ _ h]
  simpa using hj
theorem froz_blk {w : World} {g : Nat} {cs : Array Value} {t : TypeId} (h : w.heap[g]? = some (.cells cs t (0, 0))) (j : Nat) : w.frozen? ⟨g, j, none⟩ = false := by simp [World.frozen?, h]
theorem encS_at (s : StepT) (j : Nat) (v : Value) (h : [Value.bool s.any, .int .u64 (s.v : Int), .int .u64 (s.w : Int)][j]? = some v) : (encS s)[34 + j]? = some v := by
  unfold encS
  rw [List.getElem?_append_right (by simp [encKy_length])]
  rw [show 34 + j - ([Value.int .i64 s.kind, .string s.name] ++ encKy s.key).length = j by simp only [List.length_append, encKy_length, List.length_cons, List.length_nil]; omega]
  exact h
theorem encA_at (s : AnsT) (j : Nat) (v : Value) (h : [Value.int .u64 (s.n : Int), .bool s.ok, .string s.list][j]? = some v) : (encA s)[33 + j]? = some v := by
  unfold encA
  rw [List.getElem?_append_right (by simp [encKy_length])]
  rw [show 33 + j - ([Value.int .i64 (s.e : Int)] ++ encKy s.key).length = j by simp only [List.length_append, encKy_length, List.length_cons, List.length_nil]; omega]
  exact h
structure AB (S : Nat) (W : World) (s : StepT) (a : AnsT) : Prop where
  st : W.heap[S]? = some (.cells (encS s).toArray 41 (0, 0))
  rs : W.heap[S + 1]? = some (.cells (encA zA).toArray 38 (0, 0))
  ou : W.heap[S + 2]? = some (.cells (encA a).toArray 38 (0, 0))
theorem AB.new (w : World) (s : StepT) : AB w.heap.size (((w.alloc (.cells (encS s).toArray 41)).alloc (.cells (encA zA).toArray 38)).alloc (.cells (encA zA).toArray 38)) s zA := by
  have h1 := heap_alloc_new w (.cells (encS s).toArray 41)
  have h2 := heap_alloc_new (w.alloc (.cells (encS s).toArray 41)) (.cells (encA zA).toArray 38)
  have h3 := heap_alloc_new ((w.alloc (.cells (encS s).toArray 41)).alloc (.cells (encA zA).toArray 38)) (.cells (encA zA).toArray 38)
  have s1 : (w.alloc (.cells (encS s).toArray 41)).heap.size = w.heap.size + 1 := by simp
  have s2 : ((w.alloc (.cells (encS s).toArray 41)).alloc (.cells (encA zA).toArray 38)).heap.size = w.heap.size + 2 := by simp
  rw [s1] at h2
  rw [s2] at h3
  exact ⟨(Below.heap_alloc _ _ _ (by omega)).trans ((Below.heap_alloc _ _ _ (by omega)).trans h1), (Below.heap_alloc _ _ _ (by omega)).trans h2, h3⟩
section
variable {S : Nat} {W W' : World} {s : StepT} {a : AnsT}
theorem AB.lt (h : AB S W s a) : S + 3 ≤ W.heap.size := by
  have := (Array.getElem?_eq_some_iff.1 h.ou).1
  omega
theorem AB.gro {T : Nat → Prop} (h : AB S W s a) (hg : Gro T W W') (hT : ∀ j, T j → j < S ∨ S + 3 ≤ j) : AB S W' s a := by
  have := h.lt
  refine ⟨(hg.block _ (by omega) (fun hs => ?_)).trans h.st, (hg.block _ (by omega) (fun hs => ?_)).trans h.rs, (hg.block _ (by omega) (fun hs => ?_)).trans h.ou⟩ <;> have := hT _ hs <;> omega
theorem AB.below (h : AB S W s a) (hb : Below W.heap.size W W') : AB S W' s a := h.gro (T := fun _ => False) (Gro.of_below hb) (fun _ h => h.elim)
theorem AB.low {B : Nat} (h : AB S W s a) (hb : Below B W W') (hB : S + 3 ≤ B) : AB S W' s a :=
  ⟨(hb.block _ (by omega)).trans h.st, (hb.block _ (by omega)).trans h.rs, (hb.block _ (by omega)).trans h.ou⟩
theorem AB.drew (h : AB S W s a) (m : Nat) : AB S (W.drewN m) s a := ⟨h.st, h.rs, h.ou⟩
theorem AB.kind (h : AB S W s a) : W.cell? ⟨S, 0, none⟩ = some (.int .i64 s.kind) := cell_blk h.st (by simp [encS])
theorem AB.name (h : AB S W s a) : W.cell? ⟨S, 1, none⟩ = some (.string s.name) := cell_blk h.st (by simp [encS])
theorem AB.key (h : AB S W s a) : W.rangeAt S 2 (encKy s.key) := fun j v hj => by
  have hl : j < 32 := by have := (List.getElem?_eq_some_iff.1 hj).1; rwa [encKy_length] at this
  refine cell_blk h.st ?_
  unfold encS
  rw [List.append_assoc, List.getElem?_append_right (by simp), List.getElem?_append_left (by rw [encKy_length]; simp; omega)]
  simpa using hj
theorem AB.any (h : AB S W s a) : W.cell? ⟨S, 34, none⟩ = some (.bool s.any) := cell_blk h.st (encS_at s 0 _ rfl)
theorem AB.v (h : AB S W s a) : W.cell? ⟨S, 35, none⟩ = some (.int .u64 (s.v : Int)) := cell_blk h.st (encS_at s 1 _ rfl)
theorem AB.w (h : AB S W s a) : W.cell? ⟨S, 36, none⟩ = some (.int .u64 (s.w : Int)) := cell_blk h.st (encS_at s 2 _ rfl)
theorem AB.c0 (h : AB S W s a) : W.cell? ⟨S + 2, 0, none⟩ = some (.int .i64 (a.e : Int)) := cell_blk h.ou (by simp [encA])
theorem AB.c33 (h : AB S W s a) : W.cell? ⟨S + 2, 33, none⟩ = some (.int .u64 (a.n : Int)) := cell_blk h.ou (encA_at a 0 _ rfl)
theorem AB.c34 (h : AB S W s a) : W.cell? ⟨S + 2, 34, none⟩ = some (.bool a.ok) := cell_blk h.ou (encA_at a 1 _ rfl)
theorem AB.c35 (h : AB S W s a) : W.cell? ⟨S + 2, 35, none⟩ = some (.string a.list) := cell_blk h.ou (encA_at a 2 _ rfl)
theorem AB.fz (h : AB S W s a) (j : Nat) : W.frozen? ⟨S + 2, j, none⟩ = false := froz_blk h.ou j
theorem AB.there (h : AB S W s a) : W.there (S + 2) 1 32 := fun j hj => by
  have hl : (encA a).length = 36 := encA_length a
  refine ⟨?_, h.fz _⟩
  rw [cell_of_row W (S + 2) (1 + j) _ _ _ h.ou]
  simp [hl]
  omega
theorem AB.put (h : AB S W s a) {j : Nat} {u : Value} {a' : AnsT} (he : (encA a).set j u = encA a') : AB S (W.setCell ⟨S + 2, j, none⟩ u) s a' :=
  ⟨(Below.heap_setCell W _ u _ (by show S ≠ S + 2; omega)).trans h.st, (Below.heap_setCell W _ u _ (by show S + 1 ≠ S + 2; omega)).trans h.rs, by
    rw [heap_setCell_same W (S + 2) j _ _ u h.ou, List.setIfInBounds_toArray, he]⟩
theorem encA_set (a : AnsT) (j : Nat) (u : Value) : (encA a).set (33 + j) u = [.int .i64 (a.e : Int)] ++ encKy a.key ++ [Value.int .u64 (a.n : Int), .bool a.ok, .string a.list].set j u := by
  unfold encA
  rw [List.set_append_right _ _ (by simp [encKy_length])]
  rw [show 33 + j - ([Value.int .i64 (a.e : Int)] ++ encKy a.key).length = j by simp only [List.length_append, encKy_length, List.length_cons, List.length_nil]; omega]
theorem AB.putE (h : AB S W s a) (e : Nat) : AB S (W.setCell ⟨S + 2, 0, none⟩ (.int .i64 (e : Int))) s { a with e := e } := h.put (by simp [encA])
theorem AB.putN (h : AB S W s a) (n : Nat) : AB S (W.setCell ⟨S + 2, 33, none⟩ (.int .u64 (n : Int))) s { a with n := n } := h.put (encA_set a 0 _)
theorem AB.putO (h : AB S W s a) (b : Bool) : AB S (W.setCell ⟨S + 2, 34, none⟩ (.bool b)) s { a with ok := b } := h.put (encA_set a 1 _)
theorem AB.putL (h : AB S W s a) (b : ByteArray) : AB S (W.setCell ⟨S + 2, 35, none⟩ (.string b)) s { a with list := b } := h.put (encA_set a 2 _)
theorem AB.putK (h : AB S W s a) (k : RKey) : AB S (W.setCells (S + 2) 1 (encKy k)) s { a with key := k } := by
  refine ⟨(setCells_oth (by omega) _ _ _).trans h.st, (setCells_oth (by omega) _ _ _).trans h.rs, ?_⟩
  exact setCells_blkA (S + 2) _ (encKy k) (encKy a.key) [.int .i64 (a.e : Int)] [Value.int .u64 (a.n : Int), .bool a.ok, .string a.list] W (by simp [encKy_length]) h.ou
end
theorem TblL.gro {w w' : World} {B g : Nat} {A : Option Addr} {L : Lists} {S : Nat → Prop} (h : TblL w B g A L) (hg : Gro S w w') (hS : ∀ j, S j → j ≠ g ∧ blockOf A ≠ some j ∧ ∀ cs fr, w.heap[j]? ≠ some (.cells cs 92 fr)) : TblL w' B g A L := by
  obtain ⟨c, vs, ps, e, h⟩ := h
  exact ⟨c, vs, ps, e, h.gro hg hS⟩
theorem TblL.lts {w : World} {B g : Nat} {A : Option Addr} {L : Lists} (h : TblL w B g A L) : g < w.heap.size ∧ ∀ k, blockOf A = some k → k < w.heap.size := by
  obtain ⟨c, vs, ps, e, h⟩ := h
  exact ⟨h.lt, fun k hk => (h.own.lt k hk).2⟩
/-- What asked answers. -/
def AskP (w : World) (B g : Nat) (A : Option Addr) (L : Lists) (s : StepT) (e : Ending) (w' : World) : Prop :=
  e = .returned (.agg (encA (stepQ L s).1).toArray) ∧ ChdL w B g A (stepQ L s).2 w'
end Go.Proofs.Ytakcnkmlglkkpaa

namespace Go.Proofs.Ytakcnkmlglkkpaa
open Go.RowKit
set_option linter.unusedSimpArgs false
set_option linter.unusedVariables false
open Classical

theorem below_cellsW {B g : Nat} (hg : B ≤ g) : ∀ (vs : List Value) (o : Nat) (w : World), Below B w (w.setCells g o vs)
  | [], _, w => Below.refl _ _
  | v :: vs, o, w => ((Below.refl B w).setCell (p := ⟨g, o, none⟩) hg v).trans (below_cellsW hg vs (o + 1) _)
theorem Gro.cell (w : World) (g j : Nat) (u : Value) : Gro (fun k => k = g) w (w.setCell ⟨g, j, none⟩ u) := ⟨rfl, rfl, rfl, by simp, fun k _ hk => Below.heap_setCell w ⟨g, j, none⟩ u k hk⟩
theorem Gro.row (w : World) (g : Nat) (cs : Array Value) : Gro (fun k => k = g) w (w.setRow g cs) := ⟨rfl, rfl, rfl, by simp, fun k _ hk => setRow_other _ _ _ _ hk⟩
theorem Gro.sub {S T : Nat → Prop} {w w' : World} (h : Gro S w w') (hS : ∀ j, S j → T j ∨ w.heap.size ≤ j) : Gro T w w' := ⟨h.os, h.tape, h.output, h.size, fun k hk ht => h.block k hk fun hs => by
  rcases hS k hs with h1 | h1
  · exact ht h1
  · omega⟩
/-- asked's world: all that stood ahead stands; its own three blocks. -/
structure AS (w W : World) (s : StepT) (a : AnsT) : Prop where
  lo : Below w.heap.size w W
  ab : AB w.heap.size W s a
section
variable {w W W' : World} {s : StepT} {a : AnsT}
theorem AS.new (w : World) (s : StepT) : AS w (((w.alloc (.cells (encS s).toArray 41)).alloc (.cells (encA zA).toArray 38)).alloc (.cells (encA zA).toArray 38)) s zA :=
  ⟨(((Below.refl _ _).alloc (Nat.le_refl _) _).alloc (by simp) _).alloc (by simp; omega) _, AB.new w s⟩
theorem AS.le (h : AS w W s a) : w.heap.size + 3 ≤ W.heap.size := h.ab.lt
theorem AS.gro {T : Nat → Prop} (h : AS w W s a) (hg : Gro T W W') (hT : ∀ j, T j → w.heap.size + 3 ≤ j) : AS w W' s a :=
  ⟨h.lo.trans (hg.below (by have := h.le; omega) fun j hj => by have := hT j hj; omega), h.ab.gro hg fun j hj => .inr (hT j hj)⟩
theorem AS.next (h : AS w W s a) (hb : Below W.heap.size W W') : AS w W' s a := ⟨h.lo.trans (hb.mono (by have := h.le; omega)), h.ab.below hb⟩
theorem AS.putE (h : AS w W s a) (e : Nat) : AS w (W.setCell ⟨w.heap.size + 2, 0, none⟩ (.int .i64 (e : Int))) s { a with e := e } := ⟨h.lo.setCell (by simp) _, h.ab.putE e⟩
theorem AS.putN (h : AS w W s a) (e : Nat) : AS w (W.setCell ⟨w.heap.size + 2, 33, none⟩ (.int .u64 (e : Int))) s { a with n := e } := ⟨h.lo.setCell (by simp) _, h.ab.putN e⟩
theorem AS.putO (h : AS w W s a) (e : Bool) : AS w (W.setCell ⟨w.heap.size + 2, 34, none⟩ (.bool e)) s { a with ok := e } := ⟨h.lo.setCell (by simp) _, h.ab.putO e⟩
theorem AS.putL (h : AS w W s a) (e : ByteArray) : AS w (W.setCell ⟨w.heap.size + 2, 35, none⟩ (.string e)) s { a with list := e } := ⟨h.lo.setCell (by simp) _, h.ab.putL e⟩
theorem AS.putK (h : AS w W s a) (k : RKey) : AS w (W.setCells (w.heap.size + 2) 1 (encKy k)) s { a with key := k } := ⟨h.lo.trans (below_cellsW (by omega) _ _ _), h.ab.putK k⟩
theorem AS.res (h : AS w W s a) (x : AnsT) : (W.setRow (w.heap.size + 1) (encA x).toArray).heap[w.heap.size + 1]? = some (.cells (encA x).toArray 38 (0, 0)) := setRow_heap W _ _ _ _ _ h.ab.rs
theorem AS.fin (h : AS w W s a) (cs : Array Value) : Below w.heap.size w (W.setRow (w.heap.size + 1) cs) := setRow_bel h.lo (by omega) cs
theorem AS.ty (h : AS w W s a) {j : Nat} (hj : j = w.heap.size + 1 ∨ j = w.heap.size + 2) : ∃ cs fr, W.heap[j]? = some (.cells cs 38 fr) := by
  rcases hj with rfl | rfl
  · exact ⟨_, _, h.ab.rs⟩
  · exact ⟨_, _, h.ab.ou⟩
end
/-- A change of the table's, and asked's own stores behind it. -/
theorem ChdL.fin {w w0 W1 W2 : World} {B g : Nat} {A : Option Addr} {L0 L : Lists} {s : StepT} {a : AnsT} (h : ChdL w0 B g A L W1) (ht : TblL w B g A L0) (h0 : AS w w0 s zA) (ab : AB w.heap.size W1 s a) (hg : Gro (fun j => j = w.heap.size + 1 ∨ j = w.heap.size + 2) W1 W2) : ChdL w B g A L W2 := by
  obtain ⟨A', h1, h2, h3⟩ := h
  obtain ⟨l1, l2⟩ := ht.lts
  have hle := h0.le
  have hty : ∀ j, j = w.heap.size + 1 ∨ j = w.heap.size + 2 → ∃ cs fr, W1.heap[j]? = some (.cells cs 38 fr) := fun j hj => by
    rcases hj with rfl | rfl
    · exact ⟨_, _, ab.rs⟩
    · exact ⟨_, _, ab.ou⟩
  refine ⟨A', h1.gro hg fun j hj => ⟨by omega, fun e => ?_, fun cs fr e => ?_⟩, ?_, fun j hj => ?_⟩
  · rcases h3 j e with h4 | h4
    · have := l2 j h4
      omega
    · omega
  · obtain ⟨cs', fr', e'⟩ := hty j hj
    rw [e'] at e
    injection e with e
    injection e with _ e
    exact absurd e (by decide)
  · have g1 : Gro (fun j => j = g ∨ blockOf A = some j) w w0 := Gro.of_below h0.lo
    have g2 := g1.trans h2 (fun j hj => .inl hj)
    exact g2.trans hg (fun j hj => .inr (by omega))
  · rcases h3 j hj with h4 | h4
    · exact .inl h4
    · exact .inr (by omega)
/-- The document's table. -/
def DocL (w : World) (B g : Nat) (A : Option Addr) (L : Lists) : Prop := ∃ c ps, Doc w B g A c L ps
def ChdE (w : World) (B g : Nat) (A : Option Addr) (L : Lists) (w' : World) : Prop := ∃ A', DocL w' B g A' L ∧ Gro (fun j => j = g ∨ blockOf A = some j) w w' ∧ (∀ j, blockOf A' = some j → blockOf A = some j ∨ w.heap.size ≤ j)
theorem ChdD.to {w : World} {B g : Nat} {A : Option Addr} {L : Lists} {w' : World} (h : ChdD w B g A L w') : ChdE w B g A L w' := by
  obtain ⟨A', c, ps, h1, h2, h3⟩ := h
  exact ⟨A', ⟨c, ps, h1⟩, h2, h3⟩
section
variable {w w' : World} {B g : Nat} {A : Option Addr} {L : Lists}
theorem DocL.below (h : DocL w B g A L) (hb : Below w.heap.size w w') : DocL w' B g A L := by
  obtain ⟨c, ps, h⟩ := h
  exact ⟨c, ps, h.below hb⟩
theorem DocL.still (h : DocL w B g A L) (hb : Below w.heap.size w w') : ChdE w B g A L w' := ⟨A, h.below hb, Gro.of_below hb, fun j hj => .inl hj⟩
theorem DocL.gro {S : Nat → Prop} (h : DocL w B g A L) (hg : Gro S w w') (hS : ∀ j, S j → j ≠ g ∧ blockOf A ≠ some j ∧ ∀ cs fr, w.heap[j]? ≠ some (.cells cs 61 fr)) : DocL w' B g A L := by
  obtain ⟨c, ps, h⟩ := h
  exact ⟨c, ps, h.gro hg hS⟩
theorem DocL.lts (h : DocL w B g A L) : g < w.heap.size ∧ ∀ k, blockOf A = some k → k < w.heap.size := by
  obtain ⟨c, ps, h⟩ := h
  exact ⟨h.lt, fun k hk => (h.own.lt k hk).2⟩
end
theorem ChdE.fin {w w0 W1 W2 : World} {B g : Nat} {A : Option Addr} {L0 L : Lists} {s : StepT} {a : AnsT} (h : ChdE w0 B g A L W1) (ht : DocL w B g A L0) (h0 : AS w w0 s zA) (ab : AB w.heap.size W1 s a) (hg : Gro (fun j => j = w.heap.size + 1 ∨ j = w.heap.size + 2) W1 W2) : ChdE w B g A L W2 := by
  obtain ⟨A', h1, h2, h3⟩ := h
  obtain ⟨l1, l2⟩ := ht.lts
  have hle := h0.le
  have hty : ∀ j, j = w.heap.size + 1 ∨ j = w.heap.size + 2 → ∃ cs fr, W1.heap[j]? = some (.cells cs 38 fr) := fun j hj => by
    rcases hj with rfl | rfl
    · exact ⟨_, _, ab.rs⟩
    · exact ⟨_, _, ab.ou⟩
  refine ⟨A', h1.gro hg fun j hj => ⟨by omega, fun e => ?_, fun cs fr e => ?_⟩, ?_, fun j hj => ?_⟩
  · rcases h3 j e with h4 | h4
    · have := l2 j h4
      omega
    · omega
  · obtain ⟨cs', fr', e'⟩ := hty j hj
    rw [e'] at e
    injection e with e
    injection e with _ e
    exact absurd e (by decide)
  · have g1 : Gro (fun j => j = g ∨ blockOf A = some j) w w0 := Gro.of_below h0.lo
    have g2 := g1.trans h2 (fun j hj => .inl hj)
    exact g2.trans hg (fun j hj => .inr (by omega))
  · rcases h3 j hj with h4 | h4
    · exact .inl h4
    · exact .inr (by omega)
/-- What wanted answers. -/
def WantP (w : World) (B g : Nat) (A : Option Addr) (L : Lists) (s : StepT) (e : Ending) (w' : World) : Prop :=
  e = .returned (.agg (encA (stepQ L s).1).toArray) ∧ ChdE w B g A (stepQ L s).2 w'
/-- asked's own blocks behind a call that changed the table. -/
theorem AS.chd {w w0 W1 : World} {g : Nat} {A : Option Addr} {s : StepT} {a : AnsT} (h0 : AS w w0 s a) (hg : Gro (fun j => j = g ∨ blockOf A = some j) w0 W1) (l1 : g < w.heap.size) (l2 : ∀ k, blockOf A = some k → k < w.heap.size) : AB w.heap.size W1 s a :=
  h0.ab.gro hg fun j hj => .inl (by
    rcases hj with rfl | hj
    · exact l1
    · exact l2 j hj)
theorem nxtV_get (o : Option RootT) : nxtV o = .tuple #[.agg (encR (o.getD rZ)).toArray, .bool o.isSome] := by cases o <;> rfl
theorem next_size {l : List RootT} (h : okL l) (s : ByteArray) (a : Bool) : ((nextQ l s a).getD rZ).1.size ≤ 4611686018427387904 := by
  cases hn : nextQ l s a with
  | none => show (0 : Nat) ≤ _; omega
  | some x =>
    have := (h.2 x (List.mem_of_find?_eq_some hn)).2.1
    show x.1.size ≤ _
    omega
end Go.Proofs.Ytakcnkmlglkkpaa

namespace Go.Proofs.Ytakcnkmlglkkpaa
open Go.RowKit
set_option linter.unusedSimpArgs false
set_option linter.unusedVariables false
open Classical

/-- A script as a value. -/
def encX (b : Bool) (A1 : Option Addr) (n1 c1 : Nat) (A2 : Option Addr) (n2 c2 : Nat) : Array Value := #[.bool b, .slice A1 n1 c1, .slice A2 n2 c2]
section
variable {w W : World} {b : Bool} {A1 A2 : Option Addr} {n1 c1 n2 c2 : Nat} {g : Nat}
theorem scr_c0 (h : W.heap[g]? = some (.cells (encX b A1 n1 c1 A2 n2 c2) 27 (0, 0))) : W.cell? ⟨g, 0, none⟩ = some (.bool b) := by simp [World.cell?, h, encX]
theorem scr_c1 (h : W.heap[g]? = some (.cells (encX b A1 n1 c1 A2 n2 c2) 27 (0, 0))) : W.cell? ⟨g, 1, none⟩ = some (.slice A1 n1 c1) := by simp [World.cell?, h, encX]
theorem scr_c2 (h : W.heap[g]? = some (.cells (encX b A1 n1 c1 A2 n2 c2) 27 (0, 0))) : W.cell? ⟨g, 2, none⟩ = some (.slice A2 n2 c2) := by simp [World.cell?, h, encX]
end
set_option maxRecDepth 100000 in
set_option maxHeartbeats 4000000 in
theorem small_any (w : World) (b : Bool) (A1 : Option Addr) (n1 c1 : Nat) (A2 : Option Addr) (n2 c2 : Nat) :
    Calls Try.prog 12 #[.agg (encX b A1 n1 c1 A2 n2 c2)] w fun e w' => e = .returned (.bool (decide (n2 ≤ 4096 ∧ n1 ≤ 4096))) ∧ Below w.heap.size w w' := by
  obtain ⟨w0, hw0⟩ : ∃ w0, w.alloc (.cells (encX b A1 n1 c1 A2 n2 c2) 27) = w0 := ⟨_, rfl⟩
  have hb0 : Hid (Below w.heap.size w w0) := Lib.hid (by rw [← hw0]; exact (Below.refl _ _).alloc (Nat.le_refl _) _)
  have hx0 : w0.heap[w.heap.size]? = some (.cells (encX b A1 n1 c1 A2 n2 c2) 27 (0, 0)) := by rw [← hw0]; exact heap_alloc_new w _
  have k1 := scr_c1 hx0
  have k2 := scr_c2 hx0
  clear hx0
  by_cases h2 : n2 ≤ 4096
  · have hd : Hid (∀ _ : Unit, decide (n2 ≤ 4096 ∧ n1 ≤ 4096) = decide (n1 ≤ 4096)) := Lib.hid fun _ => by simp [h2]
    rw [hd.out ()]
    have g2 : decide ((n2 : Int) ≤ 4096) = true := by simp; omega
    go_enter Try.func12, Try.ntmps12
    go_wp2_with fail
    go_ret
    exact ⟨by rw [show decide ((n1 : Int) ≤ 4096) = decide (n1 ≤ 4096) by simp only [decide_eq_decide]; omega]; rfl, hb0.out⟩
  · have hd : Hid (∀ _ : Unit, decide (n2 ≤ 4096 ∧ n1 ≤ 4096) = false) := Lib.hid fun _ => by simp [h2]
    rw [hd.out ()]
    have g2 : decide ((n2 : Int) ≤ 4096) = false := by simp; omega
    go_enter Try.func12, Try.ntmps12
    go_wp2_with fail
    go_ret
    exact ⟨rfl, hb0.out⟩
end Go.Proofs.Ytakcnkmlglkkpaa

/- Next of a table. Rows of elements of several cells. No program is named here, but for the row of roots. -/
import Derived.Test.YtakcnkmlglkkpaaPkR18
import Derived.Shelf.SlicesQ.Load
import Derived.Deep.MidRow
import Derived.Deep.QuietTactic

namespace Go.Proofs.Ytakcnkmlglkkpaa
open Go.RowKit Go.Shelf
set_option linter.unusedSimpArgs false
set_option linter.unusedVariables false
attribute [local go_sem] Oper.semAt_some

theorem loadVar_bool {w : World} {a : Addr} {b : Bool} (h : w.cell? a = some (.bool b)) : (loadVar 4 a).run Try.prog w = .ok (.bool b) w := by
  simp [loadVar, go_sem, h]
theorem results_row_bool {fn : Func} {p q : Tmp} (h : fn.results = #[.cell p 61, .cell q 4]) {tmps : Array Value} {w : World} {g : Nat} {a : Addr} {r : RootT} {b : Bool} {fr : Nat × Nat}
    (hp : tmps.getD p undef = .pointer (some ⟨g, 0, none⟩)) (hq : tmps.getD q undef = .pointer (some a)) (hg : w.heap[g]? = some (.cells (encR r).toArray 61 fr)) (hb : w.cell? a = some (.bool b)) :
    (results fn tmps).run Try.prog w = .ok (.tuple #[.agg (encR r).toArray, .bool b]) w := by
  have hp' : tmps[p]?.getD undef = .pointer (some ⟨g, 0, none⟩) := by simpa using hp
  have hq' : tmps[q]?.getD undef = .pointer (some a) := by simpa using hq
  have h1 := run_loadVar_row (P := Try.prog) w g 61 61 (encR r).toArray fr _ hg Try.underlying61 rfl (by rw [show (encR r).toArray.size = 33 by simp [encR_length]]; kernel_rfl)
  simp [results, h, hp', hq', asAddr, h1, loadVar_bool hb]
theorem buildRz (w : World) : (Instr.build 61 #[]).run Try.prog w = .ok (.agg (encR rZ).toArray) w := run_build w _ _ _ (by kernel_rfl)
theorem nextQ_snoc {pre : List RootT} {s : ByteArray} {a : Bool} {x : RootT} (h : nextQ pre s a = none) (hx : (a || ltS s x.1) = false) : nextQ (pre ++ [x]) s a = none := by
  unfold nextQ at h ⊢
  rw [List.find?_append, h]
  simp [List.find?, hx]
theorem nextQ_hit {L pre : List RootT} {s : ByteArray} {a : Bool} {x : RootT} (h : nextQ pre s a = none) (hp : pre ++ [x] <+: L) (hx : (a || ltS s x.1) = true) : nextQ L s a = some x := by
  obtain ⟨r, rfl⟩ := hp
  unfold nextQ at h ⊢
  rw [List.append_assoc, List.find?_append, h]
  simp [List.find?, hx]
/-- What Next answers. -/
def nxtV (o : Option RootT) : Value := match o with | some r => .tuple #[.agg (encR r).toArray, .bool true] | none => .tuple #[.agg (encR rZ).toArray, .bool false]
/-- How Next's loop is left. -/
def NxX (w : World) (L : List RootT) (s : ByteArray) (a : Bool) (c : Code) (W : World) : Prop :=
  c = .ret ∧ ∃ r, nextQ L s a = some r ∧ W.heap[w.heap.size + 2]? = some (.cells (encR r).toArray 61 (0, 0)) ∧ W.heap[w.heap.size + 3]? = some (.cells #[.bool true] 4 (0, 0)) ∧ Below w.heap.size w W
set_option maxRecDepth 100000 in
set_option maxHeartbeats 4000000 in
theorem next_any (w : World) {B g c : Nat} {A : Option Addr} {vs : List Tr} {ps : List Value} (h : Tbl w B g A c vs ps) {t : Tr} (ht : vs[vs.length - 1]? = some t) (s : ByteArray) (a : Bool) :
    Calls Try.prog 25 #[.pointer (some ⟨g, 0, none⟩), .string s, .bool a] w fun e w' => e = .returned (nxtV (nextQ t.list s a)) ∧ Below w.heap.size w w' := by
  have hz := zeroRt
  have hbz := buildRz
  have l33 : Hid (∀ r : RootT, (encR r).toArray.size = 33) := Lib.hid fun r => by simp [encR_length]
  have hi33 : Hid ((Try.prog.info? 61).map (·.size) = some 33) := Lib.hid (by kernel_rfl)
  have hone := Lib.hid encR_all
  obtain ⟨w0, hw0⟩ : ∃ w0, Hid (∀ _ : Unit, (((w.alloc (.cells #[.string s] 9)).alloc (.cells #[.bool a] 4)).alloc (.cells (encR rZ).toArray 61)).alloc (.cells #[.bool false] 4) = w0) := ⟨_, Lib.hid fun _ => rfl⟩
  have hB0 : Below w.heap.size w w0 := by rw [← hw0.out ()]; exact ((((Below.refl _ _).alloc (Nat.le_refl _) _).alloc (by simp) _).alloc (by simp; omega) _).alloc (by simp; omega) _
  have hs0 : w0.heap.size = w.heap.size + 4 := by rw [← hw0.out ()]; simp
  have x0 : w0.heap[w.heap.size]? = some (.cells #[.string s] 9 (0, 0)) := by
    rw [← hw0.out ()]
    exact (heap_alloc_old _ _ (by simp; omega)).trans ((heap_alloc_old _ _ (by simp; omega)).trans ((heap_alloc_old _ _ (by simp)).trans (heap_alloc_new w _)))
  have x1 : w0.heap[w.heap.size + 1]? = some (.cells #[.bool a] 4 (0, 0)) := by
    rw [← hw0.out ()]
    have := heap_alloc_new (w.alloc (.cells #[.string s] 9)) (.cells #[.bool a] 4)
    rw [World.size_alloc] at this
    exact (heap_alloc_old _ _ (by simp)).trans ((heap_alloc_old _ _ (by simp)).trans this)
  have x2 : w0.heap[w.heap.size + 2]? = some (.cells (encR rZ).toArray 61 (0, 0)) := by
    rw [← hw0.out ()]
    have := heap_alloc_new ((w.alloc (.cells #[.string s] 9)).alloc (.cells #[.bool a] 4)) (.cells (encR rZ).toArray 61)
    rw [World.size_alloc, World.size_alloc] at this
    exact (heap_alloc_old _ _ (by simp)).trans this
  have x3 : w0.heap[w.heap.size + 3]? = some (.cells #[.bool false] 4 (0, 0)) := by
    rw [← hw0.out ()]
    have := heap_alloc_new (((w.alloc (.cells #[.string s] 9)).alloc (.cells #[.bool a] 4)).alloc (.cells (encR rZ).toArray 61)) (.cells #[.bool false] 4)
    rw [World.size_alloc, World.size_alloc, World.size_alloc] at this
    exact this
  have hn := Lib.hid (now_any w0 (h.below hB0) ht)
  have hall := Lib.hid fun (W : World) (ad : Option Addr) => all_tree W ad
  refine calls_marks Try.func25 rfl ?_
  simp only [Try.ntmps25, List.size_toArray, List.length_cons, List.length_nil, Nat.reduceAdd, Nat.reduceSub, Array.replicate_succ, Array.replicate_zero, List.push_toArray, List.append_toArray, List.nil_append, List.cons_append]
  go_wp2_with fail
  rw [hw0.out ()]
  refine hn.out.mono ?_
  rintro e w1 ⟨⟨p, rfl, tp⟩, m, rfl⟩
  obtain ⟨ad, rfl⟩ := tp.ptr
  go_wp2_with (go_at_call 50; refine (hall.out _ _).mono ?_; rintro e w9 ⟨rfl, rfl⟩)
  obtain ⟨w2, hw2⟩ : ∃ w2, Hid (∀ _ : Unit, (w0.drewN m).alloc (.cells #[.pointer ad] 81) = w2) := ⟨_, Lib.hid fun _ => rfl⟩
  rw [hw2.out ()]
  have hb2 : Below w0.heap.size w0 w2 := by rw [← hw2.out ()]; exact (below_drewN (Below.refl _ _) m).alloc (Nat.le_refl _) _
  have hs2 : w2.heap.size = w.heap.size + 5 := by rw [← hw2.out ()]; simp; omega
  have y4 : w2.heap[w.heap.size + 4]? = some (.cells #[.pointer ad] 81 (0, 0)) := by
    rw [← hw2.out ()]
    have := heap_alloc_new (w0.drewN m) (.cells #[.pointer ad] 81)
    rwa [show (w0.drewN m).heap.size = w.heap.size + 4 from hs0] at this
  have y0 := (hb2.block _ (by omega)).trans x0
  have y1 := (hb2.block _ (by omega)).trans x1
  have y2 := (hb2.block _ (by omega)).trans x2
  have y3 := (hb2.block _ (by omega)).trans x3
  have hB2 := hB0.trans (hb2.mono hB0.size)
  have t2 := TreeAt.below hb2 _ _ tp
  have c4 : w2.cell? ⟨w.heap.size + 4, 0, none⟩ = some (.pointer ad) := by simp [World.cell?, y4]
  have hseq := all1_seq t (.pointer ad) (w.heap.size + 4) w2.heap.size (fun k => k < w2.heap.size) w2 (fun k hk => hk) (by omega) c4 t2 t2.blk_le
  have y0' := Lib.hid y0
  have y1' := Lib.hid y1
  have y2' := Lib.hid y2
  have y3' := Lib.hid y3
  have hB2' := Lib.hid hB2
  clear x0 x1 x2 x3 hn hall h ht tp t2 c4 y0 y1 y2 y3 y4 hB2 hB0 hb2
  refine wp_rangeFunc (gf := 57) (lb := #[.pointer (some ⟨w.heap.size + 4, 0, none⟩)]) rfl (enters_of Try.func57 (by kernel_rfl) rfl) (encs := fun x : RootT => #[Value.agg (encR x).toArray]) (fun _ => rfl) (G := RtG t.list) (fun h => by rw [h.2]; exact Below.refl _ _)
    hseq (Mid.refl _ _) (fun k hk => hk)
    (fun pre W => nextQ pre s a = none ∧ Below w2.heap.size w2 W) (fun c _ W => NxX w t.list s a c W) ?_ ?_ ?_ ⟨rfl, Below.refl _ _⟩ ?_ ?_ ?_
  · rintro q W W' ⟨h1, h2⟩ hp
    exact ⟨h1, below_puts h2 hp (Nat.le_refl _)⟩
  · rintro c q W W' ⟨h1, r, h2, h3, h4, h5⟩ hp
    exact ⟨h1, r, h2, hp.cells _ _ _ _ h3, hp.cells _ _ _ _ h4, below_puts h5 hp (by omega)⟩
  · rintro q W W' ⟨h1, h2⟩ hb
    exact ⟨h1, h2.trans (hb.mono h2.size)⟩
  · rintro lp pre x W0 W1 hlp ⟨hq, hB⟩ hlt ⟨g1, rfl⟩
    have hcel := Lib.hid fun cs : Array Value => setRow_heap (W0.alloc (.cells (encR rZ).toArray 61)) W0.heap.size _ cs 61 _ (heap_alloc_new W0 _)
    have hB' := Lib.hid hB
    have g1' := Lib.hid g1
    have hq' := Lib.hid hq
    clear hB g1 hq
    gi_wp2_with (refine wpListIn_store_row (by rfl) 61 _ _ rfl W0.heap.size (encR x).toArray rfl rfl 61 _ (heap_alloc_new W0 _) (by rw [l33.out]; exact hi33.out) (by rw [l33.out, l33.out]) (hone.out _) ?_)
    obtain ⟨W1, hW1⟩ : ∃ W1, (W0.alloc (.cells (encR rZ).toArray 61)).setRow W0.heap.size (encR x).toArray = W1 := ⟨_, rfl⟩
    have hx := hcel.out (encR x).toArray
    have hb : Below W0.heap.size W0 W1 := by
      rw [← hW1]
      exact ((Below.refl _ W0).alloc (Nat.le_refl _) _).trans ⟨rfl, rfl, rfl, by simp, fun k hk => setRow_other _ _ _ _ (by omega)⟩
    rw [hW1] at hx ⊢
    clear hW1 hcel
    refine ⟨keepsFrom_below hb, fun W3 hp => ?_⟩
    have x3 := Lib.hid (hp.cells _ _ _ _ hx)
    have b3 : Below w2.heap.size w2 W3 := below_puts (hB'.out.trans (hb.mono (by omega))) hp (Nat.le_refl _)
    have m3 : Hid (Mid (fun k => k < w2.heap.size) W0 W3) := Lib.hid ((Mid.of_below hb (fun k hk => by omega)).trans (Mid.of_below hp.bel (fun k hk => hk)))
    have z0 := (b3.block _ (by omega)).trans y0'.out
    have z1 := (b3.block _ (by omega)).trans y1'.out
    have z2 := Lib.hid ((b3.block _ (by omega)).trans y2'.out)
    have z3 := (b3.block _ (by omega)).trans y3'.out
    have d0 : W3.cell? ⟨w.heap.size, 0, none⟩ = some (.string s) := by simp [World.cell?, z0]
    have d1 : W3.cell? ⟨w.heap.size + 1, 0, none⟩ = some (.bool a) := by simp [World.cell?, z1]
    have dx : W3.cell? ⟨W0.heap.size, 0, none⟩ = some (.string x.1) := by simp [World.cell?, x3.out, encR]
    have b3' := Lib.hid b3
    have s3 : w2.heap.size < W3.heap.size := by have := hb.size; have := hp.bel.size; omega
    clear hp hb hx z0 z1 b3
    have fin : ∀ W9, W3.setRow (w.heap.size + 2) (encR x).toArray = W9 → (a || ltS s x.1) = true →
        KeepsFrom w2.heap.size W3 (W9.setCell ⟨w.heap.size + 3, 0, none⟩ (.bool true)) ∧ NxX w t.list s a .ret (W9.setCell ⟨w.heap.size + 3, 0, none⟩ (.bool true)) := by
      rintro W9 rfl hx
      have z2b := setRow_heap W3 (w.heap.size + 2) _ (encR x).toArray 61 _ z2.out
      have hbl : Below w.heap.size w (W3.setRow (w.heap.size + 2) (encR x).toArray) := setRow_bel (hB2'.out.trans (b3'.out.mono (by omega))) (by omega) _
      refine ⟨⟨by simp [World.setCell], fun k o hk h1 h2 => ?_⟩, rfl, x, nextQ_hit hq'.out g1'.out hx, ?_, ?_, hbl.setCell (p := ⟨w.heap.size + 3, 0, none⟩) (by simp) _⟩
      · rw [setCell_oth (by omega), setRow_other _ _ _ _ (by omega)]
        exact h1
      · rw [setCell_oth (by omega)]
        exact z2b
      · exact setCell_blk ((setRow_other _ _ _ _ (by omega)).trans z3)
    have fin' := Lib.hid fin
    have nfin : (a || ltS s x.1) = false → KeepsFrom w2.heap.size W3 W3 ∧ Mid (fun k => k < w2.heap.size) W0 W3 ∧ nextQ (pre ++ [x]) s a = none ∧ Below w2.heap.size w2 W3 := fun hx => ⟨KeepsFrom.refl _ _, m3.out, nextQ_snoc hq'.out hx, b3'.out⟩
    have nfin' := Lib.hid nfin
    have d3 : (W3.setRow (w.heap.size + 2) (encR x).toArray).cell? ⟨w.heap.size + 3, 0, none⟩ = some (.bool false) := by
      simp [World.cell?, (setRow_other W3 (w.heap.size + 2) (w.heap.size + 3) (encR x).toArray (by omega)).trans z3]
    have f3 : (W3.setRow (w.heap.size + 2) (encR x).toArray).frozen? ⟨w.heap.size + 3, 0, none⟩ = false := by
      simp [World.frozen?, (setRow_other W3 (w.heap.size + 2) (w.heap.size + 3) (encR x).toArray (by omega)).trans z3]
    clear fin nfin z3 m3 hq' g1'
    cases a with
    | true =>
      gi_wp2_with (first
        | (refine wpListIn_load_row (by rfl) 61 _ rfl W0.heap.size rfl 61 (encR x).toArray (0, 0) _ x3.out Try.underlying61 rfl (by rw [l33.out]; exact hi33.out) ?_)
        | (refine wpListIn_store_row (by rfl) 61 _ _ rfl (w.heap.size + 2) (encR x).toArray rfl rfl 61 _ z2.out (by rw [l33.out]; exact hi33.out) (by rw [l33.out, l33.out]) (hone.out _) ?_))
      exact fin'.out _ rfl rfl
    | false =>
      by_cases he : x.1.toList = s.toList
      · have q1 : Op.bytesLess x.1.toList s.toList = false := name_less he
        have q2 : (x.1.toList == s.toList) = true := by simpa using he
        gi_wp2_with fail
        exact nfin'.out (by simpa using name_less he.symm)
      · cases hlt : ltS s x.1 with
        | true =>
          have q1 : Op.bytesLess x.1.toList s.toList = false := ltS_asymm hlt
          have q2 : (x.1.toList == s.toList) = false := by simpa using he
          gi_wp2_with (first
            | (refine wpListIn_load_row (by rfl) 61 _ rfl W0.heap.size rfl 61 (encR x).toArray (0, 0) _ x3.out Try.underlying61 rfl (by rw [l33.out]; exact hi33.out) ?_)
            | (refine wpListIn_store_row (by rfl) 61 _ _ rfl (w.heap.size + 2) (encR x).toArray rfl rfl 61 _ z2.out (by rw [l33.out]; exact hi33.out) (by rw [l33.out, l33.out]) (hone.out _) ?_))
          exact fin'.out _ rfl (by simp [hlt])
        | false =>
          have q1 : Op.bytesLess x.1.toList s.toList = true := by
            cases h2 : ltS x.1 s with
            | true => exact h2
            | false => exact absurd (ltS_three h2 hlt) he
          gi_wp2_with fail
          exact nfin'.out (by simp [hlt])
  · rintro D xs W hD rfl ⟨hq, hB⟩ hmark
    have hm' := Lib.hid hmark
    have z2 := Lib.hid ((hB.block _ (by omega)).trans y2'.out)
    have z3 := (hB.block _ (by omega)).trans y3'.out
    have hB' := Lib.hid hB
    have d3 : (W.setRow (w.heap.size + 2) (encR rZ).toArray).cell? ⟨w.heap.size + 3, 0, none⟩ = some (.bool false) := by
      simp [World.cell?, (setRow_other W (w.heap.size + 2) (w.heap.size + 3) (encR rZ).toArray (by omega)).trans z3]
    have f3 : (W.setRow (w.heap.size + 2) (encR rZ).toArray).frozen? ⟨w.heap.size + 3, 0, none⟩ = false := by
      simp [World.frozen?, (setRow_other W (w.heap.size + 2) (w.heap.size + 3) (encR rZ).toArray (by omega)).trans z3]
    have z3' := Lib.hid z3
    clear hmark hB z3
    go_wp2_with (refine wpList_store_row rfl 61 _ _ rfl (w.heap.size + 2) (encR rZ).toArray rfl rfl 61 _ z2.out (by rw [l33.out]; exact hi33.out) (by rw [l33.out]) (hone.out _) ?_)
    have z2b := setRow_heap W (w.heap.size + 2) _ (encR rZ).toArray 61 _ z2.out
    have hbl : Below w.heap.size w (W.setRow (w.heap.size + 2) (encR rZ).toArray) := setRow_bel (hB2'.out.trans (hB'.out.mono (by omega))) (by omega) _
    have hmk : ((W.setRow (w.heap.size + 2) (encR rZ).toArray).setCell ⟨w.heap.size + 3, 0, none⟩ (.bool false)).heap[D]? = some (.deferred (some [])) := by
      rw [setCell_oth (by omega), setRow_other _ _ _ _ (by omega)]
      exact hm'.out
    refine leaves_mark hmk (results_row_bool rfl (r := rZ) (b := false) (g := w.heap.size + 2) (a := ⟨w.heap.size + 3, 0, none⟩) (fr := (0, 0)) rfl rfl ?_ ?_) ⟨?_, ?_⟩
    · rw [World.putObj_heap_other (by omega), setCell_oth (by omega)]
      exact z2b
    · have := setCell_blk (v := .bool false) ((setRow_other W (w.heap.size + 2) (w.heap.size + 3) (encR rZ).toArray (by omega)).trans z3'.out)
      have h5 := (Puts.putObj (D := D) (.deferred none) hmk rfl (Nat.le_refl _)).cells _ _ _ _ this
      simp [World.cell?, h5]
    · rw [hq]
      rfl
    · exact below_puts (hbl.setCell (p := ⟨w.heap.size + 3, 0, none⟩) (by simp) _) (Puts.putObj (D := D) _ hmk rfl (Nat.le_refl _)) (by omega)
  · rintro D c pre W hD hS ⟨rfl, r, hq, h2, h3, hB⟩ hmark
    have hm' := Lib.hid hmark
    have h2' := Lib.hid h2
    have h3' := Lib.hid h3
    have hB' := Lib.hid hB
    clear hmark h2 h3 hB
    go_wp2_with fail
    refine leaves_mark hm'.out (results_row_bool rfl (r := r) (b := true) (g := w.heap.size + 2) (a := ⟨w.heap.size + 3, 0, none⟩) (fr := (0, 0)) rfl rfl ?_ ?_) ⟨?_, ?_⟩
    · rw [World.putObj_heap_other (by omega)]
      exact h2'.out
    · have h5 := (Puts.putObj (D := D) (.deferred none) hm'.out rfl (Nat.le_refl _)).cells _ _ _ _ h3'.out
      simp [World.cell?, h5]
    · rw [hq]
      rfl
    · exact below_puts hB'.out (Puts.putObj (D := D) _ hm'.out rfl (Nat.le_refl _)) (by omega)
theorem nextL_any {w : World} {B g : Nat} {A : Option Addr} {L : Lists} (h : TblL w B g A L) (s : ByteArray) (a : Bool) :
    Calls Try.prog 25 #[.pointer (some ⟨g, 0, none⟩), .string s, .bool a] w fun e w' => e = .returned (nxtV (nextQ (present L) s a)) ∧ Below w.heap.size w w' := by
  obtain ⟨c, vs, ps, t, rfl, hT, ht, hp, hr, hc, h64⟩ := h.last
  rw [hp]
  exact next_any w hT ht s a
end Go.Proofs.Ytakcnkmlglkkpaa

namespace Go.Proofs.Ytakcnkmlglkkpaa
open Go.RowKit
set_option linter.unusedSimpArgs false
set_option linter.unusedVariables false

section
variable {α : Type} {enc : α → List Value} {k : Nat}
def flat (enc : α → List Value) (l : List α) : List Value := l.flatMap enc
theorem flat_length (hk : ∀ x, (enc x).length = k) : ∀ l : List α, (flat enc l).length = l.length * k
  | [] => by simp [flat]
  | x :: l => by
    have := flat_length hk l
    simp only [flat, List.flatMap_cons, List.length_append, hk, List.length_cons] at this ⊢
    rw [this, Nat.add_mul, Nat.one_mul, Nat.add_comm]
theorem flat_get (hk : ∀ x, (enc x).length = k) : ∀ (l : List α) (j i : Nat) (hj : j < l.length), i < k → (flat enc l)[j * k + i]? = (enc l[j])[i]?
  | x :: l, 0, i, _, hi => by
    simp only [flat, List.flatMap_cons, Nat.zero_mul, Nat.zero_add, List.getElem_cons_zero]
    rw [List.getElem?_append_left (by rw [hk]; exact hi)]
  | x :: l, j + 1, i, hj, hi => by
    have h1 : (enc x).length ≤ (j + 1) * k + i := by rw [hk, Nat.add_mul]; omega
    have := flat_get hk l j i (by simpa using hj) hi
    simp only [flat, List.flatMap_cons, List.getElem_cons_succ] at this ⊢
    rw [List.getElem?_append_right h1, hk, ← this]
    congr 1
    rw [Nat.add_mul, Nat.one_mul]
    omega
theorem flat_append (l m : List α) : flat enc (l ++ m) = flat enc l ++ flat enc m := by simp [flat]

/-- A row of elements of several cells. -/
abbrev Row (enc : α → List Value) (k : Nat) (w : World) (B : Nat) (A : Option Addr) (l : List α) : Prop := Rd w B A (l.length * k) (fun j => (flat enc l)[j]?.getD undef)
theorem Row.elem {w : World} {B : Nat} {A : Option Addr} {l : List α} (h : Row enc k w B A l) (hk : ∀ x, (enc x).length = k) (h0 : 0 < k) {j : Nat} (hj : j < l.length) :
    ∃ b off, A = some ⟨b, off, none⟩ ∧ b < B ∧ ∀ i v, (enc l[j])[i]? = some v → w.cell? ⟨b, off + j * k + i, none⟩ = some v := by
  have hp : 0 < l.length * k := Nat.mul_pos (by omega) h0
  obtain ⟨b, off, rfl, hb, hc⟩ := h hp
  refine ⟨b, off, rfl, hb, fun i v hv => ?_⟩
  have hi : i < k := by
    have := (List.getElem?_eq_some_iff.1 hv).1
    rwa [hk] at this
  have h1 : (j + 1) * k ≤ l.length * k := Nat.mul_le_mul_right _ hj
  rw [Nat.add_mul, Nat.one_mul] at h1
  have := hc (j * k + i) (by omega)
  rw [Nat.add_assoc, this]
  simp only [flat_get hk l j i hj hi, hv, Option.getD_some]
/-- A load of an element, as the walk asks for it. -/
theorem Row.load {P : Program} {w : World} {B : Nat} {A : Option Addr} {l : List α} (h : Row enc k w B A l) (hk : ∀ x, (enc x).length = k) (h0 : 0 < k) {ty : TypeId} {d : TypeDesc} (hu : P.underlying ty = some d) (hd : d.isRow = true) (hi : (P.info? ty).map (·.size) = some k) {j : Nat} (hj : j < l.length) :
    ∃ b off, A = some ⟨b, off, none⟩ ∧ b < B ∧ ∀ q, Sem.run P (loadVar ty ⟨b, off + j * k, none⟩) (w.drewN q) = .ok (.agg (enc l[j]).toArray) (w.drewN q) := by
  obtain ⟨b, off, e, hb, hc⟩ := h.elem hk h0 hj
  exact ⟨b, off, e, hb, fun q => run_loadVar_mid _ b _ ty (enc l[j]) d (fun i v hv => hc i v hv) hu hd (by rw [hk]; exact hi)⟩
end

/-- A load of an element in a region that only reads. -/
theorem wpQuiet_load_mid {P : Program} {ops : Array Oper} {C : World → Prop} {Q : Act → Prop} {rest : List Oper} {o : Oper} {a : Act} (hw : Region.wanted o (yielded ops a.tmps) = true) (ty : TypeId) (x : Operand) (ho : o.op = .load ty x)
    (b off : Nat) (hx : a.eval x = .pointer (some ⟨b, off, none⟩)) (v : Value) (hl : ∀ w, C w → (loadVar ty ⟨b, off, none⟩).run P w = .ok v w) (h : wpQuiet P ops C Q rest (a.put o.dst v)) : wpQuiet P ops C Q (o :: rest) a := by
  unfold wpQuiet
  rw [if_pos hw]
  refine ⟨v, fun w hC => ?_, h⟩
  unfold Oper.quietAt execOp
  simp [ho, hx, Instr.loadAt, Instr.sureAddr, hl w hC, Oper.quietUpon]


/-- A row of roots that may be read. -/
abbrev RowR (w : World) (B : Nat) (A : Option Addr) (l : List RootT) : Prop := Row encR 33 w B A l
theorem rowsR_flat (l : List RootT) : rowsR l = flat encR l := rfl
theorem RowR.of_own {w : World} {B c : Nat} {A : Option Addr} {l : List RootT} (h : Own w B 61 33 A l.length c (rowsR l)) : RowR w w.heap.size A l := h.rd
theorem RowR.range {w : World} {B : Nat} {A : Option Addr} {l : List RootT} (h : RowR w B A l) {j : Nat} {x : RootT} (hj : l[j]? = some x) : ∃ b off, A = some ⟨b, off, none⟩ ∧ b < B ∧ w.rangeAt b (off + j * 33) (encR x) := by
  obtain ⟨hl, rfl⟩ := List.getElem?_eq_some_iff.1 hj
  obtain ⟨b, off, e, hb, hc⟩ := Row.elem h encR_length (by decide) hl
  exact ⟨b, off, e, hb, fun i v hv => hc i v hv⟩
theorem RowR.base {w : World} {B : Nat} {A : Option Addr} {l : List RootT} (h : RowR w B A l) (h0 : 0 < l.length) : ∃ b off, A = some ⟨b, off, none⟩ ∧ b < B := by
  obtain ⟨b, off, e, hb, _⟩ := h (by omega)
  exact ⟨b, off, e, hb⟩
end Go.Proofs.Ytakcnkmlglkkpaa

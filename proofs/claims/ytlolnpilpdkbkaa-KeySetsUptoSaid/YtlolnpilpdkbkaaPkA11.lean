/- told: a set's keys, gathered by a range. A region that draws, in a round of a range over a function: by the words of a plain function's. No program is named here. The library's functions that this seat calls, by the shelf's contracts, laid at this seat's numbers. areDigits. Hex. -/
import Derived.Test.YtlolnpilpdkbkaaPkA10
import Derived.Test.YtlolnpilpdkbkaaPkA8
import Derived.OrdersHeld
import Derived.OrdersIn
import Derived.Shelf.Strings.Builder1
import Derived.Shelf.Small.Strs
import Derived.Test.YtlolnpilpdkbkaaProg
import Derived.Test.YtlolnpilpdkbkaaPkA3

namespace Go.Proofs.Ytlolnpilpdkbkaa
open Go.RowKit Go.Maps Go.Shelf
set_option linter.unusedSimpArgs false
set_option linter.unusedVariables false
attribute [local go_sem] Oper.semAt_some

section
variable {F : Fence} {fn : Nat} {ops : Array Oper} {rest : List Oper} {o : Oper} {a : Act} {w : World} {Q : Exit → Act → World → Prop}
theorem wpListIn_bslK {x : List Nat} (hg : o.guard = none) (t1 : Operand) (ho : o.op = .buildSlice 34 1 #[(0, t1)]) (hx : a.eval t1 = .agg (u8s x).toArray) (hl : (u8s x).toArray.size = 32)
    (hb : Try.prog.builtSlice 25 1 [(0, .agg (u8s x).toArray)] = some (u8s x).toArray)
    (h : wpListIn F fn Try.prog ops Q rest (a.put o.dst (.slice (some ⟨w.heap.size, 0, none⟩) 1 1)) (w.alloc (.cells (u8s x).toArray 25))) : wpListIn F fn Try.prog ops Q (o :: rest) a w :=
  wpListIn_val (by simp [Region.wanted, hg]) (by rw [ho]; intro c hc; cases hc) (by simp [Oper.about, ho]) (by
    unfold execOp
    simp only [ho, List.map_toArray, List.map_cons, List.map_nil, hx, Sem.run_bind, run_bslice w _ _ _ _ _ Try.underlying34 hb, Result.andThen_ok, Sem.run_pure]) h
end
/-- Between two rounds of told: the list's variable g, its row. -/
def ToI (w : World) (g lo : Nat) (pre : List (List Nat)) (W : World) : Prop :=
  ∃ A c, W.cell? ⟨g, 0, none⟩ = some (.slice A pre.length c) ∧ W.frozen? ⟨g, 0, none⟩ = false ∧ g < W.heap.size ∧ w.heap.size ≤ g ∧ Below w.heap.size w W ∧ Own W lo 25 32 A pre.length c (rowsK pre)
theorem ToI.keep {w W W' : World} {g lo : Nat} {pre : List (List Nat)} (h : ToI w g lo pre W) (hb : Below W.heap.size W W') : ToI w g lo pre W' := by
  obtain ⟨A, c, h1, h2, h3, h4, h5, h6⟩ := h
  exact ⟨A, c, (hb.cell (p := ⟨g, 0, none⟩) h3).trans h1, (hb.frozen (p := ⟨g, 0, none⟩) h3).trans h2, Nat.lt_of_lt_of_le h3 hb.size, h4, h5.trans (hb.mono h5.size), h6.below hb (fun k hk => (h6.lt k hk).2)⟩
theorem ToI.puts {w W W' : World} {g lo D : Nat} {pre : List (List Nat)} (h : ToI w g lo pre W) (hp : Puts D W W') (hD : w.heap.size ≤ D) : ToI w g lo pre W' := by
  obtain ⟨A, c, h1, h2, h3, h4, h5, h6⟩ := h
  exact ⟨A, c, hp.cell h1, (hp.frozen h1).trans h2, Nat.lt_of_lt_of_le h3 hp.bel.size, h4, below_puts h5 hp hD, h6.puts hp⟩
/-- A key is laid behind. -/
theorem ToI.app {w W W4 : World} {g lo c4 : Nat} {pre : List (List Nat)} {x : List Nat} {A A4 : Option Addr} {c : Nat} (h3 : g < W.heap.size) (hlo : g < lo) (h4 : w.heap.size ≤ g) (h5 : Below w.heap.size w W) (q4 : W4.cell? ⟨g, 0, none⟩ = some (.slice A pre.length c)) (f4 : W4.frozen? ⟨g, 0, none⟩ = false)
    (b4 : Below lo W W4) (o4 : Own W4 lo 25 32 A4 (pre.length + 1) c4 (rowsK (pre ++ [x]))) : ToI w g lo (pre ++ [x]) (W4.setCell ⟨g, 0, none⟩ (.slice A4 (pre.length + 1) c4)) := by
  refine ⟨A4, c4, ?_, ?_, ?_, h4, ?_, ?_⟩
  · rw [World.cell?_setCell_same W4 _ _ q4]
    simp
  · rw [World.frozen?_setCell]
    exact f4
  · have := b4.size
    simp [World.setCell]
    omega
  · exact (h5.trans (b4.mono (by omega))).setCell (p := ⟨g, 0, none⟩) h4 _
  · rw [show (pre ++ [x]).length = pre.length + 1 by simp]
    exact o4.setFar hlo _
def ToldP (w : World) (ks : List (List Nat)) (e : Ending) (w' : World) : Prop :=
  ∃ A c, e = .returned (.slice A ks.length c) ∧ Own w' w.heap.size 25 32 A ks.length c (rowsK ks) ∧ Below w.heap.size w w'
set_option maxRecDepth 100000 in
set_option maxHeartbeats 4000000 in
theorem told_any (w : World) (s m n : Nat) (ks : List (List Nat)) (h : SetK w s m n ks) (hl : ks.length ≤ 4194304) :
    Calls Try.prog 15 #[.pointer (some ⟨s, 0, none⟩)] w (ToldP w ks) := by
  obtain ⟨w1, hw1⟩ : ∃ w1, w.alloc (.cells #[.slice none 0 0] 34) = w1 := ⟨_, rfl⟩
  have hB : Hid (Below w.heap.size w w1) := Lib.hid (by rw [← hw1]; exact (Below.refl _ _).alloc (Nat.le_refl _) _)
  have hI0 : Hid (w1.cell? ⟨w.heap.size, 0, none⟩ = some (.slice none 0 0) ∧ w1.frozen? ⟨w.heap.size, 0, none⟩ = false ∧ w.heap.size < w1.heap.size) := Lib.hid (by
    have hx : w1.heap[w.heap.size]? = some (.cells #[.slice none 0 0] 34 (0, 0)) := by rw [← hw1]; exact heap_alloc_new w _
    exact ⟨by simp [World.cell?, hx], by simp [World.frozen?, hx], (Array.getElem?_eq_some_iff.1 hx).1⟩)
  have lts := h.lts
  have hA := Lib.hid (allK_any w1 s m n ks (h.keep (hB.out.block _ lts.1) (hB.out.block _ lts.2)) (by omega))
  have hr := Lib.hid h.rise
  have hi32 : Hid ((Try.prog.info? 25).map (·.size) = some 32) := Lib.hid (by kernel_rfl)
  have hzs : Hid ((u8s (zeros 32)).toArray.size = 32) := Lib.hid (by simp [u8s, zeros])
  have hzk := zeroKy
  have hq : ∀ (g : Nat) (w : World), (binOp .eql 64 (.func (.func 53) #[] #[.pointer (some ⟨g, 0, none⟩)]) .nilFunc).run Try.prog w = .ok (.bool false) w := fun _ _ => by kernel_rfl
  have hw1' := Lib.hid hw1
  clear h lts hw1
  refine calls_marks Try.func15 rfl ?_
  simp only [Try.ntmps15, List.size_toArray, List.length_cons, List.length_nil, Nat.reduceAdd, Nat.reduceSub, Array.replicate_succ, Array.replicate_zero, List.push_toArray, List.append_toArray, List.nil_append, List.cons_append]
  go_wp2_with (go_at_call 26; rw [hw1'.out]; refine hA.out.mono ?_; rintro e va ⟨gI, AI, cI, rfl, hat, hbl, hlg, hlA⟩; have hat' := Lib.hid hat; have hbl' := Lib.hid hbl; have hlg' := Lib.hid hlg; have hlA' := Lib.hid hlA; clear hat hbl hlg hlA)
  have hI1 : Hid (ToI w w.heap.size va.heap.size [] va) := Lib.hid (by
    obtain ⟨h1, h2, h3⟩ := hI0.out
    exact ⟨none, 0, (hbl'.out.cell (p := ⟨w.heap.size, 0, none⟩) h3).trans h1, (hbl'.out.frozen (p := ⟨w.heap.size, 0, none⟩) h3).trans h2, Nat.lt_of_lt_of_le h3 hbl'.out.size, Nat.le_refl _, hB.out.trans (hbl'.out.mono hB.out.size), Own.nil _ _ _ _⟩)
  have hszD : Hid (w.heap.size ≤ va.heap.size) := Lib.hid (Nat.le_trans hB.out.size hbl'.out.size)
  have hgw : Hid (w.heap.size < w1.heap.size) := Lib.hid hI0.out.2.2
  refine wp_rangeFunc (gf := 53) (lb := #[.pointer (some ⟨gI, 0, none⟩)]) rfl (enters_of Try.func53 (by kernel_rfl) rfl) (encs := fun x : List Nat => #[Value.agg (u8s x).toArray]) (fun _ => rfl) (G := KyG ks) (fun h => h.2)
    (allK_seq va gI cI AI ks (fun j => j = gI ∨ blockOf AI = some j) hat'.out hr.out (by omega) (Or.inl rfl) (fun j hj => Or.inr hj) (fun j hj => by rcases hj with rfl | hj; exact hat'.out.lts.1; exact hat'.out.lts.2 j hj)) (Mid.refl _ _) (fun j hj => by rcases hj with rfl | hj; exact hat'.out.lts.1; exact hat'.out.lts.2 j hj)
    (fun pre W => ToI w w.heap.size va.heap.size pre W) (fun _ _ _ => False) ?_ (fun _ _ _ _ h _ => h) ?_ hI1.out ?_ ?_ (fun _ _ _ _ _ _ h _ => h.elim)
  · rintro pre W W' h hp
    exact h.puts hp hszD.out
  · rintro pre W W' h hb
    exact h.keep hb
  · rintro lp pre x W0 W1 hlp hw0 hlt ⟨hpre, hbel⟩
    have hxm : x ∈ ks := hpre.subset (by simp)
    have hxk : IsK x := hr.out.ok x hxm
    have hpl : pre.length + 1 ≤ 4194304 := by have := hpre.length_le; simp at this; omega
    have hw1 := Lib.hid (hw0.keep hbel)
    have hxs : Hid ((u8s x).toArray.size = 32) := Lib.hid (by simp [u8s, hxk.1])
    have hbK : Hid _ := Lib.hid (builtK x hxk.1)
    have hone : Hid (∀ u ∈ (u8s x).toArray.toList, u.oneCell' = true) := Lib.hid (fun u hu => u8s_one u (by simpa using hu))
    have hsn : Hid (rowsK pre ++ (u8s x).toArray.toList = rowsK (pre ++ [x])) := Lib.hid (by simp [rowsK])
    have hkn := key_new W1 x
    have hkc := Lib.hid hkn.1
    have hbn := Lib.hid hkn.2
    have hw2 := Lib.hid (hw1.out.keep hbn.out)
    have hok1 : Hid (∀ j, (j = gI ∨ blockOf AI = some j) → j < W1.heap.size ∧ j ≠ w.heap.size ∧ j < va.heap.size) := Lib.hid fun j hj => by
      have h1 : j < va.heap.size ∧ w1.heap.size ≤ j := by
        rcases hj with rfl | hj
        · exact ⟨hat'.out.lts.1, hlg'.out⟩
        · exact ⟨hat'.out.lts.2 j hj, hlA'.out j hj⟩
      have h2 := hbel.size
      have h3 := hgw.out
      exact ⟨by omega, by omega, by omega⟩
    have hlt9 : Hid (va.heap.size < W1.heap.size) := Lib.hid (Nat.lt_of_lt_of_le hlt hbel.size)
    clear hxm hxk hkn hw0 hpre hbel hlt
    gi_wp2_with (refine wpListIn_store_row (by rfl) 25 _ _ rfl W1.heap.size (u8s x).toArray rfl rfl 25 _ (heap_alloc_new W1 _) (by rw [hxs.out]; exact hi32.out) (by rw [hxs.out, hzs.out]) (all_oneCell_toArray u8s_one) ?_)
    obtain ⟨W2, hW2⟩ : ∃ W2, (W1.alloc (.cells (u8s (zeros 32)).toArray 25)).setRow W1.heap.size (u8s x).toArray = W2 := ⟨_, rfl⟩
    rw [hW2] at hkc hbn hw2 ⊢
    clear hW2
    refine ⟨keepsFrom_below hbn.out, fun W3 hp => ?_⟩
    have hw3 := Lib.hid (hw2.out.puts hp hszD.out)
    have hk3 := Lib.hid (hp.cells _ _ _ _ hkc.out)
    have hbl3 := Lib.hid hp.bel.size
    have hg3 : Hid (W1.heap.size < W3.heap.size) := Lib.hid (Array.getElem?_eq_some_iff.1 hk3.out).1
    have m3 : Hid (Mid (fun j => j = gI ∨ blockOf AI = some j) W1 W3) := Lib.hid ((Mid.of_below hbn.out (fun j hj => (hok1.out j hj).1)).trans (Mid.of_below hp.bel (fun j hj => by rcases hj with rfl | hj; exact hat'.out.lts.1; exact hat'.out.lts.2 j hj)))
    clear hp
    obtain ⟨A, c, q3, f3, l3, l4, b3, o3⟩ := hw3.out
    have o3' := Lib.hid o3
    have b3' := Lib.hid b3
    have l3' := Lib.hid l3
    clear o3 b3 l3 l4 hw3 hw2 hw1
    have hvW : Hid (w.heap.size < va.heap.size) := Lib.hid (Nat.lt_of_lt_of_le hgw.out hbl'.out.size)
    have hB3 : Hid (va.heap.size ≤ W3.heap.size) := Lib.hid (Nat.le_trans (Nat.le_of_lt hlt9.out) (Nat.le_trans hbn.out.size hbl3.out))
    have hdis : Hid (∀ j, (j = gI ∨ blockOf AI = some j) → blockOf A ≠ some j) := Lib.hid fun j hj e => by
      have h1 := (hok1.out j hj).2.2
      have h2 := (o3'.out.lt j e).1
      omega
    obtain ⟨gk, hgk⟩ : ∃ gk, W1.heap.size = gk := ⟨_, rfl⟩
    rw [hgk] at hk3 ⊢
    clear hgk
    gi_wp2_with (first
      | (refine wpListIn_load_row (by rfl) 25 _ rfl gk rfl 25 (u8s x).toArray (0, 0) _ hk3.out Try.underlying25 rfl (by rw [hxs.out]; exact hi32.out) ?_)
      | (refine wpListIn_bslK rfl _ rfl rfl hxs.out hbK.out ?_)
      | (gi_at_builtin; refine wpListIn_app1 elK W3 (u8s x).toArray hxs.out rfl _ _ rfl rfl o3'.out rfl hone.out (by unfold maxLen; omega) (by omega) hB3.out (pre.length + 1) rfl (rowsK (pre ++ [x])) hsn.out ?_
         intro A4 c4 w4 o4 at4 b4
         have q4 := (b4.cell (p := ⟨w.heap.size, 0, none⟩) hvW.out).trans q3
         have f4 := (b4.frozen (p := ⟨w.heap.size, 0, none⟩) hvW.out).trans f3
         have k4 := Lib.hid (at4.keeps o3'.out)
         have hI4 := Lib.hid (ToI.app l3'.out hvW.out (Nat.le_refl _) b3'.out q4 f4 b4 o4)
         have m4 : Hid (Mid (fun j => j = gI ∨ blockOf AI = some j) W3 w4) := Lib.hid ⟨at4.grown.size, fun j hj => at4.grown.block j (Nat.lt_of_lt_of_le (hok1.out j hj).1 m3.out.size) (fun e => hdis.out j hj e.symm)⟩
         clear o4 at4 b4))
    exact ⟨(k4.out.trans (KeepsOthers.setCell _ _ _)).from _, (m3.out.trans m4.out).setCell (p := ⟨w.heap.size, 0, none⟩) (fun h => (hok1.out _ h).2.1 rfl) _, hI4.out⟩
  · rintro D xs W hD hxs hI hmark
    rw [hxs] at hI
    have hm' := Lib.hid hmark
    obtain ⟨A, c, q3, f3, l3, l4, b3, o3⟩ := hI
    have o3' := Lib.hid o3
    have b3' := Lib.hid b3
    clear hmark o3 b3 hxs
    go_wp2_with fail
    refine leaves_marks [D] W (by simp) (fun E hE => by simp at hE; subst hE; exact hm'.out) (fun W => results_tmp rfl _ _ _) (fun W9 hp => ?_)
    have hp2 := hp D (fun E hE => by simp at hE; omega)
    exact ⟨A, c, rfl, (o3'.out.puts hp2).base hszD.out, below_puts b3'.out hp2 (Nat.le_trans hszD.out hD)⟩
end Go.Proofs.Ytlolnpilpdkbkaa

namespace Go.Proofs.Ytlolnpilpdkbkaa
open Go.RowKit
set_option linter.unusedSimpArgs false
set_option linter.unusedVariables false

section
variable {P : Program} {ops : Array Oper} {Q : Exit → Act → World → Prop} {md : Region.Mode} {l : Nat}
theorem rows_wide_in {n : Nat} {P : Program} {row : String} {args : Array Value} {w : World} {R : Value → World → Prop} (h : Rows P row args w R) : RowsIn (Fence.wide.inRound l) n P row args w R :=
  fun c cs _ => let ⟨v, w', r, s⟩ := h c cs; ⟨v, w', r, stepsIn_wide.2 s⟩
theorem oper_in_round {o : Oper} {a : Act} {w : World} {K : Act → World → Prop} (hnd : ∀ c : Call, o.op ≠ Op.defer c) (h : o.wp P a w K Q) : o.wpIn (Fence.wide.inRound l) 0 P a w K Q := by
  refine ⟨fun _ _ => trivial, ?_⟩
  rw [Oper.semAt_eq _ _ _ hnd]
  unfold Oper.wp at h
  generalize (execOp a.eval o).run P w = r at h ⊢
  cases r with
  | ok x w' =>
    cases x with
    | value v => exact h
    | skip => exact h
    | defer d => exact h
    | enter f args => exact ⟨fun hd => by simp [Fence.wide] at hd, CallsIn.inRound l (callsIn_wide.2 h)⟩
    | row r args => exact ⟨fun hd => by simp [Fence.wide] at hd, rows_wide_in h⟩
    | _ => exact h.elim
  | halt x w' => cases x <;> exact h
theorem wpOp_in_round (hQ : ¬ LetsOut Q) {i : Nat} {a : Act} {w : World} {K K' : Act → World → Prop} (hnd : ∀ o : Oper, ops[i]? = some o → ∀ c : Call, o.op ≠ Op.defer c) (hK : ∀ a w, K a w → K' a w) (h : wpOp P ops Q i K a w) : wpOpIn (Fence.wide.inRound l) 0 P ops Q i K' a w := by
  refine wpOpIn_mono hK ?_
  unfold wpOp at h
  unfold wpOpIn
  cases ho : ops[i]? with
  | none => rw [ho] at h; exact h
  | some o =>
    rw [ho] at h
    simp only at h ⊢
    split
    · rename_i hw
      rw [if_pos hw] at h
      exact oper_in_round (hnd o ho) (h.resolve_right fun hr => hQ hr.2)
    · rename_i hw
      rw [if_neg hw] at h
      exact ⟨fun _ _ => trivial, h⟩
theorem wpAny_in_round (hQ : ¬ LetsOut Q) (hnd : ∀ (i : Nat) (o : Oper), ops[i]? = some o → ∀ c : Call, o.op ≠ Op.defer c) : ∀ (fuel : Nat) (listed : Array Bool) (a : Act) (w : World), wpAny P md ops Q fuel listed a w → wpAnyIn (Fence.wide.inRound l) 0 P md ops Q fuel listed a w
  | 0, _, _, _, h => h
  | fuel + 1, listed, a, w, h => ⟨h.1, fun i hi => wpOp_in_round hQ (hnd i) (wpAny_in_round hQ hnd fuel _) (h.2 i hi)⟩
/-- The region, held. -/
theorem wpIn_region_held {S : World → Prop} {id : Nat} {a : Act} {w : World} (hm : P.follows .mixedOrders = true) (hQ : ¬ LetsOut Q) (hnd : ∀ (i : Nat) (o : Oper), ops[i]? = some o → ∀ c : Call, o.op ≠ Op.defer c)
    (h : wpAnyH P .any ops Q S ops.size (Array.replicate ops.size false) a { w with drawn := w.drawn + 1 }) : (Code.region id ops true).wpIn (Fence.wide.inRound l) 0 P Q a w :=
  wpIn_region_any hm (wpAny_in_round hQ hnd _ _ _ _ (wpAny_of_held _ _ _ _ h))
/-- What a region that only reads is left by. -/
def CalmQ (Q : Exit → Act → World → Prop) : Exit → Act → World → Prop := fun e a w => e = .normal ∧ Q .normal a w
/-- A region that only reads, whatever its post. -/
theorem wpIn_region_calm {S : World → Prop} {id : Nat} {a : Act} {w : World} (hm : P.follows .mixedOrders = true) (hnd : ∀ (i : Nat) (o : Oper), ops[i]? = some o → ∀ c : Call, o.op ≠ Op.defer c)
    (h : wpAnyH P .any ops (CalmQ Q) S ops.size (Array.replicate ops.size false) a { w with drawn := w.drawn + 1 }) : (Code.region id ops true).wpIn (Fence.wide.inRound l) 0 P Q a w :=
  wpIn_mono (wpIn_region_held (Q := CalmQ Q) hm (by rintro ⟨a, w, h, _⟩; cases h) hnd h) (fun e a w h => by obtain ⟨rfl, h⟩ := h; exact h)
theorem calm_panic {oi : Oper} {v : Value} : ∀ (c : List PanicEntry) (a : Act) (w : World), CalmQ Q (.panic c) (a.put oi.dst v) w → CalmQ Q (.panic c) a w := fun _ _ _ h => by cases h.1
end
end Go.Proofs.Ytlolnpilpdkbkaa

namespace Go.Proofs.Ytlolnpilpdkbkaa
open Go.RowKit
def ren167 : Go.Shelf.Ren := ⟨fun | 167 => 27 | 240 => 54 | 276 => 63 | n => n, fun | 0 => 0 | 4 => 4 | 5 => 5 | 9 => 9 | 20 => 20 | 37 => 23 | 70 => 69 | 72 => 71 | 75 => 73 | 80 => 76 | 164 => 98 | n => n, fun n => n⟩
theorem lays167 : Go.Proofs.Lays.n167 Try.prog ren167 := {
  mixed := by kernel_rfl
  f167 := Try.func27.trans (congrArg some (by kernel_rfl))
  f240 := Try.func54.trans (congrArg some (by kernel_rfl))
  f276 := Try.func63.trans (congrArg some (by kernel_rfl))
  t0 := Try.underlying0
  a0 := Try.isAgg0
  z0 := Try.sizeOf0
  v0 := Try.zeroValue0
  t4 := Try.underlying4
  a4 := Try.isAgg4
  z4 := Try.sizeOf4
  v4 := Try.zeroValue4
  t5 := Try.underlying5
  a5 := Try.isAgg5
  z5 := Try.sizeOf5
  v5 := Try.zeroValue5
  t9 := Try.underlying9
  a9 := Try.isAgg9
  z9 := Try.sizeOf9
  v9 := Try.zeroValue9
  t20 := Try.underlying20
  a20 := Try.isAgg20
  z20 := Try.sizeOf20
  v20 := Try.zeroValue20
  t37 := Try.underlying23
  a37 := Try.isAgg23
  z37 := Try.sizeOf23
  v37 := Try.zeroValue23
  t70 := Try.underlying69
  a70 := Try.isAgg69
  z70 := Try.sizeOf69
  v70 := Try.zeroValue69
  t72 := Try.underlying71
  a72 := Try.isAgg71
  z72 := Try.sizeOf71
  v72 := Try.zeroValue71
  t75 := Try.underlying73
  a75 := Try.isAgg73
  z75 := Try.sizeOf73
  v75 := Try.zeroValue73
  t164 := Try.underlying98
  a164 := Try.isAgg98
  z164 := Try.sizeOf98
  v164 := Try.zeroValue98
  }
def ren169 : Go.Shelf.Ren := ⟨fun | 169 => 28 | n => n, fun | 0 => 0 | 3 => 3 | 5 => 5 | 9 => 9 | 37 => 23 | 70 => 69 | 72 => 71 | 127 => 93 | n => n, fun n => n⟩
theorem lays169 : Go.Proofs.Lays.n169 Try.prog ren169 := {
  mixed := by kernel_rfl
  f169 := Try.func28.trans (congrArg some (by kernel_rfl))
  t0 := Try.underlying0
  a0 := Try.isAgg0
  z0 := Try.sizeOf0
  v0 := Try.zeroValue0
  t3 := Try.underlying3
  a3 := Try.isAgg3
  z3 := Try.sizeOf3
  v3 := Try.zeroValue3
  t9 := Try.underlying9
  a9 := Try.isAgg9
  z9 := Try.sizeOf9
  v9 := Try.zeroValue9
  t37 := Try.underlying23
  a37 := Try.isAgg23
  z37 := Try.sizeOf23
  v37 := Try.zeroValue23
  t70 := Try.underlying69
  a70 := Try.isAgg69
  z70 := Try.sizeOf69
  v70 := Try.zeroValue69
  t72 := Try.underlying71
  a72 := Try.isAgg71
  z72 := Try.sizeOf71
  v72 := Try.zeroValue71
  t127 := Try.underlying93
  a127 := Try.isAgg93
  z127 := Try.sizeOf93
  v127 := Try.zeroValue93
  }
def ren137 : Go.Shelf.Ren := ⟨fun | 137 => 30 | 217 => 55 | 266 => 64 | n => n, fun | 3 => 3 | 5 => 5 | 9 => 9 | n => n, fun n => n⟩
theorem lays137 : Go.Proofs.Lays.n137 Try.prog ren137 := {
  mixed := by kernel_rfl
  f137 := Try.func30.trans (congrArg some (by kernel_rfl))
  f217 := Try.func55.trans (congrArg some (by kernel_rfl))
  f266 := Try.func64.trans (congrArg some (by kernel_rfl))
  t3 := Try.underlying3
  a3 := Try.isAgg3
  z3 := Try.sizeOf3
  v3 := Try.zeroValue3
  t5 := Try.underlying5
  a5 := Try.isAgg5
  z5 := Try.sizeOf5
  v5 := Try.zeroValue5
  t9 := Try.underlying9
  a9 := Try.isAgg9
  z9 := Try.sizeOf9
  v9 := Try.zeroValue9
  }
theorem extra167 : Builder.Extra Try.prog ren167 := {
  sizeBuilder := by kernel_rfl
  liesBuilder := by kernel_rfl
  t5 := Try.underlying5
  a5 := Try.isAgg5
  z5 := Try.sizeOf5
  v5 := Try.zeroValue5
  infoByte := by kernel_rfl
  cellsByte := by kernel_rfl
  sizeByte := by kernel_rfl
  neB5 := by decide }
theorem extra169 : Builder.Extra Try.prog ren169 := {
  sizeBuilder := by kernel_rfl
  liesBuilder := by kernel_rfl
  t5 := Try.underlying5
  a5 := Try.isAgg5
  z5 := Try.sizeOf5
  v5 := Try.zeroValue5
  infoByte := by kernel_rfl
  cellsByte := by kernel_rfl
  sizeByte := by kernel_rfl
  neB5 := by decide }
theorem wb_any (B b : Nat) (bs : List Value) (c : Int) (w : World) (h : Lib.IsBuilder 71 5 B b bs w) (hlen : bs.length + 1 ≤ 140737488355328) (hBw : B ≤ w.heap.size) :
    Calls Try.prog 27 #[.pointer (some ⟨b, 0, none⟩), .int .u8 c] w fun e w' => e = .returned .nilIface ∧ (Lib.BuilderAt 71 5 B b (.pointer (some ⟨b, 0, none⟩)) (bs ++ [.int .u8 c]) w' ∧ Below B w w') :=
  Any.Builder_WriteByte lays167 extra167 B b bs c w h hlen hBw
theorem str_any (B b : Nat) (l : List UInt8) (w : World) (h : Lib.IsBuilder 71 5 B b (Lib.byteCells l) w) (hBw : B ≤ w.heap.size) :
    Calls Try.prog 28 #[.pointer (some ⟨b, 0, none⟩)] w fun e w' => e = .returned (.string ⟨l.toArray⟩) ∧ Below B w w' :=
  Any.Builder_String_any lays169 extra169 B b l w h hBw
theorem idx_any (s : ByteArray) (c : Int) (w : World) :
    Calls Try.prog 30 #[.string s, .int .u8 c] w fun e w' => e = .returned (.int .i64 (Lib.indexByte s.data.toList c.toNat.toUInt8)) ∧ w' = w :=
  Any.strings_IndexByte lays137 s c w
end Go.Proofs.Ytlolnpilpdkbkaa

namespace Go.Proofs.Ytlolnpilpdkbkaa
open Go.RowKit
set_option linter.unusedSimpArgs false

theorem fd_any (c : UInt8) (w : World) :
    Calls Try.prog 30 #[.string ⟨#[48, 49, 50, 51, 52, 53, 54, 55, 56, 57, 97, 98, 99, 100, 101, 102]⟩, .int .u8 (c.toNat : Int)] w fun e w' => e = .returned (.int .i64 (val c)) ∧ w' = w := by
  have h := idx_any ⟨#[48, 49, 50, 51, 52, 53, 54, 55, 56, 57, 97, 98, 99, 100, 101, 102]⟩ (c.toNat : Int) w
  have e : ((c.toNat : Int)).toNat.toUInt8 = c := by simp
  rw [e] at h
  exact h
theorem at_get {s : ByteArray} {k : Nat} (h : k < s.size) : s.data.toList[k]? = some s[k] := by
  have h2 : k < s.data.toList.length := by rw [← Lib.size_eq]; exact h
  rw [List.getElem?_eq_getElem h2]
  rfl
theorem allDig_succ {l : List UInt8} {k : Nat} {x : UInt8} (h : l[k]? = some x) : allDig (l.take (k + 1)) = (allDig (l.take k) && decide (0 ≤ val x)) := by
  obtain ⟨h1, h2⟩ := List.getElem?_eq_some_iff.1 h
  unfold allDig
  rw [List.take_succ_eq_append_getElem h1, List.all_append, h2]
  simp
theorem allDig_not {l : List UInt8} {k : Nat} {x : UInt8} (h : l[k]? = some x) (hx : val x < 0) : allDig l = false := by
  unfold allDig
  rw [List.all_eq_false]
  exact ⟨x, List.mem_of_getElem? h, by simp; omega⟩

set_option maxRecDepth 100000 in
set_option maxHeartbeats 1000000 in
theorem areDigits_any (s : ByteArray) (w : World) (hs : s.size ≤ 9223372036854775807) :
    Calls Try.prog 29 #[.string s] w fun e w' => e = .returned (.bool (allDig s.data.toList)) ∧ w' = w := by
  go_enter Try.func29, Try.ntmps29
  go_wp2_with fail
  go_loopw [6] (fun i wr => ∃ k : Nat, k ≤ s.size ∧ i = .int .i64 k ∧ wr = w ∧ Hid (allDig (s.data.toList.take k) = true)) (fun i _ => s.size - (intOf i).toNat)
  case atStart => exact ⟨0, by omega, rfl, rfl, Lib.hid rfl⟩
  case round =>
    obtain ⟨k, hk, rfl, rfl, hD⟩ := hrel
    by_cases hlt : k < s.size
    · go_wp2_with (go_at_call 30; refine (fd_any _ _).mono ?_; rintro e w1 ⟨rfl, rfl⟩)
      · rename_i h
        go_ret
        exact ⟨ret_bool (allDig_not (at_get hlt) h).symm, rfl⟩
      · rename_i h
        go_roundw
        case rel => exact ⟨k + 1, by omega, by go_num, trivial, Lib.hid (by rw [allDig_succ (at_get hlt), hD.out]; simp; omega)⟩
        case measure => simp [intOf]; omega
    · go_wp2_with fail
      go_ret
      refine ⟨?_, rfl⟩
      have hkl : s.data.toList.length ≤ k := by rw [← Lib.size_eq]; omega
      have := hD.out
      rw [List.take_of_length_le hkl] at this
      exact ret_bool this.symm
end Go.Proofs.Ytlolnpilpdkbkaa

namespace Go.Proofs.Ytlolnpilpdkbkaa
open Go.RowKit
set_option linter.unusedSimpArgs false

theorem zeroB (w : World) : (zeroValue 71).run Try.prog w = .ok (.agg #[.pointer none, .slice none 0 0]) w :=
  (zero_of_info (P := Try.prog) (t := 71) (v := .agg #[.pointer none, .slice none 0 0]) (n := 2) (by kernel_rfl)).1 w
theorem dig_at {n : Nat} (h : n < (⟨#[48, 49, 50, 51, 52, 53, 54, 55, 56, 57, 97, 98, 99, 100, 101, 102]⟩ : ByteArray).size) : (⟨#[48, 49, 50, 51, 52, 53, 54, 55, 56, 57, 97, 98, 99, 100, 101, 102]⟩ : ByteArray)[n] = dg n := by
  have h1 := at_get h
  have h2 : digitsL[n]? = some (dg n) := by
    have h3 : n < digitsL.length := h
    simp [dg, List.getElem?_eq_getElem h3]
  exact Option.some.inj (h1.symm.trans h2)
theorem byteCells_snoc (l : List UInt8) (c : UInt8) : Lib.byteCells l ++ [.int .u8 (c.toNat : Int)] = Lib.byteCells (l ++ [c]) := by simp [Lib.byteCells]
theorem hexL_take {l : List Nat} {k x : Nat} (h : l[k]? = some x) : hexL (l.take (k + 1)) = hexL (l.take k) ++ [dg (x / 16)] ++ [dg (x % 16)] := by
  obtain ⟨h1, h2⟩ := List.getElem?_eq_some_iff.1 h
  rw [List.take_succ_eq_append_getElem h1, hexL_append, h2]
  simp [hexL]
/-- What stands while the digits are laid. -/
structure HX0 (w wr : World) (l : List Nat) (m : List UInt8) : Prop where
  bel : Below w.heap.size w wr
  blk : BlkY wr w.heap.size l
  bld : Lib.IsBuilder 71 5 (w.heap.size + 1) (w.heap.size + 1) (Lib.byteCells m) wr
abbrev HX (w wr : World) (l : List Nat) (k : Nat) : Prop := HX0 w wr l (hexL (l.take k))
theorem HX0.le {w wr : World} {l : List Nat} {m : List UInt8} (h : HX0 w wr l m) : w.heap.size + 1 ≤ wr.heap.size := by
  have := h.bld
  rcases this with h | h <;> exact Nat.le_of_lt h.lt
theorem HX0.put {w wr w' : World} {l : List Nat} {m : List UInt8} {c : UInt8} (h : HX0 w wr l m) (h1 : Lib.BuilderAt 71 5 (w.heap.size + 1) (w.heap.size + 1) (.pointer (some ⟨w.heap.size + 1, 0, none⟩)) (Lib.byteCells m ++ [.int .u8 (c.toNat : Int)]) w') (h2 : Below (w.heap.size + 1) wr w') : HX0 w w' l (m ++ [c]) :=
  ⟨h.bel.trans (h2.mono (by omega)), (h2.block w.heap.size (by omega)).trans h.blk, .inr (by rw [← byteCells_snoc]; exact h1)⟩

set_option maxRecDepth 100000 in
set_option maxHeartbeats 1000000 in
theorem hex_any (l : List Nat) (w : World) (hl : l.length = 32) (hb : ∀ x ∈ l, x < 256) :
    Calls Try.prog 7 #[.agg (u8s l).toArray] w fun e w' => e = .returned (.string ⟨(hexL l).toArray⟩) ∧ Below w.heap.size w w' := by
  have hz := zeroB
  have hi32 : (Try.prog.info? 25).map (·.size) = some 32 := by kernel_rfl
  have hi32' := Lib.hid hi32
  have hs32 : (u8s l).toArray.size = 32 := by simp [u8s, hl]
  have hB : Below w.heap.size w ((w.alloc (.cells (u8s l).toArray 25)).alloc (.cells #[.pointer none, .slice none 0 0] 71)) := ((Below.refl _ _).alloc (Nat.le_refl _) _).alloc (by simp) _
  have h0 : HX w ((w.alloc (.cells (u8s l).toArray 25)).alloc (.cells #[.pointer none, .slice none 0 0] 71)) l 0 :=
    ⟨hB, heap_alloc2_old w _ _, .inl ⟨Nat.le_refl _, .slice none 0 0, heap_alloc2_new w _ _, World.ownsRow_nil _ _ _ _, by simp [Value.ownBlock]⟩⟩
  have h0' := Lib.hid h0
  have hl' := Lib.hid hl
  have hb' := Lib.hid hb
  clear hi32 hB h0 hl hb
  go_enter Try.func7, Try.ntmps7
  go_wp2_with (first
    | (refine wpList_load_row rfl 25 _ rfl w.heap.size rfl 25 (u8s l).toArray (0, 0) _ h0'.out.blk Try.underlying25 rfl (by rw [hs32]; exact hi32'.out) ?_))
  generalize ((w.alloc (.cells (u8s l).toArray 25)).alloc (.cells #[.pointer none, .slice none 0 0] 71)) = w2 at h0' ⊢
  go_loopw [7] (fun i wr => ∃ k : Nat, k ≤ 32 ∧ i = .int .i64 k ∧ Hid (HX w wr l k)) (fun i _ => 32 - (intOf i).toNat)
  case atStart => exact ⟨0, by omega, rfl, h0'⟩
  case round =>
    clear h0'
    obtain ⟨k, hk, rfl, hD⟩ := hrel
    by_cases hlt : k < 32
    · obtain ⟨x, hx⟩ : ∃ x, l[k]? = some x := ⟨_, List.getElem?_eq_getElem (by rw [hl'.out]; exact hlt)⟩
      have hxl := hb'.out x (List.mem_of_getElem? hx)
      have hix : ∀ w, _ := index32 (F := l) (k := k) (x := x) hlt (by rw [u8s_get l k (by rw [hl'.out]; exact hlt), hx]; rfl)
      have hmn : (hexL (l.take k)).length = 2 * k := by rw [hexL_length, List.length_take, hl'.out]; omega
      go_wp2_with fail
      rw [dig_at]
      refine (wb_any _ _ _ _ wr hD.out.bld (by rw [Lib.byteCells_length, hmn]; omega) hD.out.le).mono ?_
      rintro e w3 ⟨rfl, h3, hb3⟩
      have hD3 := Lib.hid (hD.out.put h3 hb3)
      clear hD h3 hb3
      go_wp2_with fail
      rw [dig_at]
      refine (wb_any _ _ _ _ w3 hD3.out.bld (by rw [Lib.byteCells_length, List.length_append, hmn, List.length_singleton]; omega) hD3.out.le).mono ?_
      rintro e w4 ⟨rfl, h4, hb4⟩
      have hD4 := Lib.hid (hD3.out.put h4 hb4)
      clear hD3 h4 hb4
      go_wp2_with fail
      go_roundw
      case rel => exact ⟨k + 1, by omega, by go_num, by unfold HX; rw [hexL_take hx]; exact hD4⟩
      case measure => simp [intOf]; omega
    · rw [show k = 32 by omega] at hD
      have hD2 := hD.out
      unfold HX at hD2
      rw [List.take_of_length_le (by rw [hl'.out]; omega)] at hD2
      go_wp2_with fail
      refine (str_any _ _ _ wr hD2.bld hD2.le).mono ?_
      rintro e w3 ⟨rfl, hb3⟩
      have hB3 := Lib.hid (hD2.bel.trans (hb3.mono (by omega)))
      clear hD hD2 hb3
      go_wp2_with fail
      go_ret
      exact ⟨rfl, hB3.out⟩
end Go.Proofs.Ytlolnpilpdkbkaa

/- A tree of roots in memory: join. A tree of roots in memory: even. Steps of a region that is walked by hand: the slot is named, so that the frame can be laid out anew. -/
import Derived.Test.YtakcnkmlglkkpaaPkR3
import Derived.OrdersHeld
import Derived.Deep.RegionHeld

namespace Go.Proofs.Ytakcnkmlglkkpaa
open Go.RowKit
set_option linter.unusedSimpArgs false
set_option linter.unusedVariables false

theorem encR_one (r : RootT) : ∀ v ∈ encR r, v.oneCell' = true := by
  intro v hv
  unfold encR u8s at hv
  rcases List.mem_cons.1 hv with rfl | hv
  · rfl
  · obtain ⟨x, _, rfl⟩ := List.mem_map.1 hv
    rfl
theorem Tr.deep_le : ∀ t : Tr, t.deep ≤ t.cnt
  | .nil => Nat.le_refl _
  | .node r l h => by
    have h1 := Tr.deep_le l
    have h2 := Tr.deep_le h
    simp only [Tr.deep, Tr.cnt]
    omega
theorem buildNodeL (s : ByteArray) (vl vh : Option Addr) (d n : Nat) (a0 a1 a2 a3 a4 a5 a6 a7 a8 a9 a10 a11 a12 a13 a14 a15 a16 a17 a18 a19 a20 a21 a22 a23 a24 a25 a26 a27 a28 a29 a30 a31 : Nat) :
    Try.prog.built 92 [(0, .agg (.string s :: u8s [a0, a1, a2, a3, a4, a5, a6, a7, a8, a9, a10, a11, a12, a13, a14, a15, a16, a17, a18, a19, a20, a21, a22, a23, a24, a25, a26, a27, a28, a29, a30, a31]).toArray), (1, .pointer vl), (2, .pointer vh), (3, .int .i64 (d : Int)), (4, .int .i64 (n : Int))] = some ((Value.string s :: u8s [a0, a1, a2, a3, a4, a5, a6, a7, a8, a9, a10, a11, a12, a13, a14, a15, a16, a17, a18, a19, a20, a21, a22, a23, a24, a25, a26, a27, a28, a29, a30, a31]) ++ [Value.pointer vl, .pointer vh, .int .i64 (d : Int), .int .i64 (n : Int)]).toArray := by kernel_rfl
theorem buildNode (r : RootT) (vl vh : Option Addr) (d n : Nat) (w : World) : (Instr.build 92 #[(0, .agg (encR r).toArray), (1, .pointer vl), (2, .pointer vh), (3, .int .i64 (d : Int)), (4, .int .i64 (n : Int))]).run Try.prog w = .ok (.agg (nodeC r (.pointer vl) (.pointer vh) d n).toArray) w := by
  refine run_build w _ _ _ ?_
  obtain ⟨s, l, hl⟩ := r
  match l, hl with
  | [a0, a1, a2, a3, a4, a5, a6, a7, a8, a9, a10, a11, a12, a13, a14, a15, a16, a17, a18, a19, a20, a21, a22, a23, a24, a25, a26, a27, a28, a29, a30, a31], _ => exact buildNodeL s vl vh d n a0 a1 a2 a3 a4 a5 a6 a7 a8 a9 a10 a11 a12 a13 a14 a15 a16 a17 a18 a19 a20 a21 a22 a23 a24 a25 a26 a27 a28 a29 a30 a31
section
variable {P : Program} {ops : Array Oper} {S : World → Prop} {op : Oper} {a : Act}
theorem yieldsIf_build (hw : Region.wanted op (yielded ops a.tmps) = true) (t : TypeId) (parts : Array (Nat × Operand)) (ho : op.op = .build t parts) (vs : Array (Nat × Value)) (hv : (parts.map fun (i, x) => (i, a.eval x)) = vs) (v : Value) (hr : ∀ w, S w → (Instr.build t vs).run P w = .ok v w) : YieldsIf P ops S op v a :=
  .inl ⟨hw, fun w hw' => by
    unfold execOp
    simp only [ho, hv, Sem.run_bind, hr w hw', Result.andThen_ok, Sem.run_pure]⟩
end
set_option maxRecDepth 100000 in
set_option maxHeartbeats 4000000 in
theorem join_any (w : World) (r : RootT) (l h : Tr) (vl vh : Value) (hl : TreeAt w l vl) (hh : TreeAt w h vh) (hn : l.cnt + h.cnt ≤ 1000000) :
    Calls Try.prog 55 #[.agg (encR r).toArray, vl, vh] w fun e w' => (∃ v, e = .returned v ∧ TreeAt w' (.node r l h) v) ∧ Below w.heap.size w w' := by
  obtain ⟨al, rfl⟩ := hl.ptr
  obtain ⟨ah, rfl⟩ := hh.ptr
  have hi33 : (Try.prog.info? 61).map (·.size) = some 33 := by kernel_rfl
  have hi33' := Lib.hid hi33
  have l33 : Hid (∀ r : RootT, (encR r).length = 33) := Lib.hid encR_length
  have dl := Tr.deep_le l
  have dh := Tr.deep_le h
  obtain ⟨w0, hw0⟩ : ∃ w0, Hid (∀ _ : Unit, w.alloc (.cells (encR r).toArray 61) = w0) := ⟨_, Lib.hid fun _ => rfl⟩
  have hb0 : Hid (Below w.heap.size w w0) := Lib.hid (by rw [← hw0.out ()]; exact (Below.refl _ _).alloc (Nat.le_refl _) _)
  have hx0 : Hid (w0.heap[w.heap.size]? = some (.cells (encR r).toArray 61 (0, 0))) := Lib.hid (by rw [← hw0.out ()]; exact heap_alloc_new w _)
  have tl : Hid (∀ W, Below w0.heap.size w0 W → TreeAt W l (.pointer al)) := Lib.hid fun W hW => TreeAt.below hW _ _ (TreeAt.below ((hb0.out).mono (Nat.le_refl _)) _ _ hl)
  have th : Hid (∀ W, Below w0.heap.size w0 W → TreeAt W h (.pointer ah)) := Lib.hid fun W hW => TreeAt.below hW _ _ (TreeAt.below ((hb0.out).mono (Nat.le_refl _)) _ _ hh)
  obtain ⟨Dl, hDl⟩ : ∃ D, Hid (∀ _ : Unit, l.deep = D) := ⟨_, Lib.hid fun _ => rfl⟩
  obtain ⟨Dh, hDh⟩ : ∃ D, Hid (∀ _ : Unit, h.deep = D) := ⟨_, Lib.hid fun _ => rfl⟩
  obtain ⟨Nl, hNl⟩ : ∃ D, Hid (∀ _ : Unit, l.cnt = D) := ⟨_, Lib.hid fun _ => rfl⟩
  obtain ⟨Nh, hNh⟩ : ∃ D, Hid (∀ _ : Unit, h.cnt = D) := ⟨_, Lib.hid fun _ => rfl⟩
  rw [hDl.out (), hNl.out ()] at dl
  rw [hDh.out (), hNh.out ()] at dh
  rw [hNl.out (), hNh.out ()] at hn
  obtain ⟨M, hM⟩ : ∃ M, max Dl Dh = M := ⟨_, rfl⟩
  have hMx : (if Dl < Dh then (Dh : Int) else (Dl : Int)) = (M : Int) := by split <;> omega
  obtain ⟨D, hD⟩ : ∃ D : Nat, (1 : Int) + (M : Int) = (D : Int) := ⟨1 + M, by omega⟩
  obtain ⟨N1, hN1⟩ : ∃ D : Nat, (1 : Int) + (Nl : Int) = (D : Int) := ⟨1 + Nl, by omega⟩
  obtain ⟨N, hN⟩ : ∃ D : Nat, (N1 : Int) + (Nh : Int) = (D : Int) := ⟨N1 + Nh, by omega⟩
  have hMb : M ≤ 1000000 ∧ D ≤ 1000001 ∧ N ≤ 1000001 := by omega
  have wD : IntKind.i64.wrap (D : Int) = (D : Int) := by rw [IntKind.wrap_i64]; omega
  have wN1 : IntKind.i64.wrap (N1 : Int) = (N1 : Int) := by rw [IntKind.wrap_i64]; omega
  have wN : IntKind.i64.wrap (N : Int) = (N : Int) := by rw [IntKind.wrap_i64]; omega
  have cd1 : Hid (∀ W, Below w0.heap.size w0 W → Calls Try.prog 60 #[.pointer al] W fun e w' => e = .returned (.int .i64 (Dl : Int)) ∧ W = w') := Lib.hid fun W hW => by have := depth_any W l _ (tl.out W hW); rwa [hDl.out ()] at this
  have cd2 : Hid (∀ W, Below w0.heap.size w0 W → Calls Try.prog 60 #[.pointer ah] W fun e w' => e = .returned (.int .i64 (Dh : Int)) ∧ W = w') := Lib.hid fun W hW => by have := depth_any W h _ (th.out W hW); rwa [hDh.out ()] at this
  have cc1 : Hid (∀ W, Below w0.heap.size w0 W → Calls Try.prog 47 #[.pointer al] W fun e w' => e = .returned (.int .i64 (Nl : Int)) ∧ W = w') := Lib.hid fun W hW => by have := count_any W l _ (tl.out W hW); rwa [hNl.out ()] at this
  have cc2 : Hid (∀ W, Below w0.heap.size w0 W → Calls Try.prog 47 #[.pointer ah] W fun e w' => e = .returned (.int .i64 (Nh : Int)) ∧ W = w') := Lib.hid fun W hW => by have := count_any W h _ (th.out W hW); rwa [hNh.out ()] at this
  have sA : Hid (∀ W, Below w0.heap.size w0 W → W.rangeAt w.heap.size 0 (encR r)) := Lib.hid fun W hW j v hj => by
    have hg := (hW.block w.heap.size (Array.getElem?_eq_some_iff.1 hx0.out).1).trans hx0.out
    rw [Nat.zero_add]
    simp [World.cell?, hg, hj]
  clear hl hh hi33
  go_enter Try.func55, Try.ntmps55
  go_wp2_with fail
  rw [hw0.out ()]
  refine wp_region_held (S := fun W => Below w0.heap.size w0 W) (by kernel_rfl) ?_
  change wpAnyH _ _ _ _ _ _ _ _ (World.drew _)
  have hd : Hid (Below w0.heap.size w0 w0.drew) := Lib.hid (below_drewN (Below.refl _ _) 1)
  refine wpAnyH_take (i := 0) rfl (by kernel_rfl) (by kernel_rfl) (by kernel_rfl) (fun _ _ _ h => h) (yieldsIf_load_mid (by rfl) 61 _ rfl w.heap.size 0 rfl (encR r) _ sA.out Try.underlying61 rfl (by rw [l33.out]; exact hi33'.out)) hd.out ?_
  refine wpAnyH_take (i := 1) (v := .pointer al) rfl (by kernel_rfl) (by kernel_rfl) (by kernel_rfl) (fun _ _ _ h => h) (Or.inl ⟨by rfl, by intro W _; go_simp⟩) hd.out ?_
  refine wpAnyH_take (i := 2) (v := .pointer ah) rfl (by kernel_rfl) (by kernel_rfl) (by kernel_rfl) (fun _ _ _ h => h) (Or.inl ⟨by rfl, by intro W _; go_simp⟩) hd.out ?_
  refine wpAnyH_take (i := 3) (v := .pointer al) rfl (by kernel_rfl) (by kernel_rfl) (by kernel_rfl) (fun _ _ _ h => h) (Or.inl ⟨by rfl, by intro W _; go_simp⟩) hd.out ?_
  refine wpAnyH_take (i := 5) (v := .pointer ah) rfl (by kernel_rfl) (by kernel_rfl) (by kernel_rfl) (fun _ _ _ h => h) (Or.inl ⟨by rfl, by intro W _; go_simp⟩) hd.out ?_
  refine wpAnyH_take (i := 9) (v := .pointer al) rfl (by kernel_rfl) (by kernel_rfl) (by kernel_rfl) (fun _ _ _ h => h) (Or.inl ⟨by rfl, by intro W _; go_simp⟩) hd.out ?_
  refine wpAnyH_take (i := 12) (v := .pointer ah) rfl (by kernel_rfl) (by kernel_rfl) (by kernel_rfl) (fun _ _ _ h => h) (Or.inl ⟨by rfl, by intro W _; go_simp⟩) hd.out ?_
  simp only [Act.put, List.setIfInBounds_toArray, List.set_cons_zero, List.set_cons_succ]
  refine wpAnyH_ready (rs := [4]) (by kernel_rfl) (by simp) ?_
  refine AllReadyH.cons rfl (fun K hK => ?_) AllReadyH.nil
  go_simp
  go_wp2_with (go_at_call 60; refine (cd1.out _ hd.out).mono ?_; rintro e w1 ⟨rfl, rfl⟩; skip)
  refine hK.out _ _ hd.out (fun _ => ?_)
  clear hK K
  refine wpAnyH_ready (rs := [6]) (by kernel_rfl) (by simp) ?_
  refine AllReadyH.cons rfl (fun K hK => ?_) AllReadyH.nil
  go_simp
  go_wp2_with (go_at_call 60; refine (cd2.out _ hd.out).mono ?_; rintro e w1 ⟨rfl, rfl⟩; skip)
  refine hK.out _ _ hd.out (fun _ => ?_)
  clear hK K
  refine wpAnyH_take (i := 7) (v := .int .i64 (M : Int)) rfl (by kernel_rfl) (by kernel_rfl) (by kernel_rfl) (fun _ _ _ h => h) (Or.inl ⟨by rfl, by intro W _; go_simp⟩) hd.out ?_
  refine wpAnyH_take (i := 8) (v := .int .i64 (D : Int)) rfl (by kernel_rfl) (by kernel_rfl) (by kernel_rfl) (fun _ _ _ h => h) (Or.inl ⟨by rfl, by intro W _; go_simp⟩) hd.out ?_
  simp only [Act.put, List.setIfInBounds_toArray, List.set_cons_zero, List.set_cons_succ]
  refine wpAnyH_ready (rs := [10]) (by kernel_rfl) (by simp) ?_
  refine AllReadyH.cons rfl (fun K hK => ?_) AllReadyH.nil
  go_simp
  go_wp2_with (go_at_call 47; refine (cc1.out _ hd.out).mono ?_; rintro e w1 ⟨rfl, rfl⟩; skip)
  refine hK.out _ _ hd.out (fun _ => ?_)
  clear hK K
  refine wpAnyH_take (i := 11) (v := .int .i64 (N1 : Int)) rfl (by kernel_rfl) (by kernel_rfl) (by kernel_rfl) (fun _ _ _ h => h) (Or.inl ⟨by rfl, by intro W _; go_simp⟩) hd.out ?_
  simp only [Act.put, List.setIfInBounds_toArray, List.set_cons_zero, List.set_cons_succ]
  refine wpAnyH_ready (rs := [13]) (by kernel_rfl) (by simp) ?_
  refine AllReadyH.cons rfl (fun K hK => ?_) AllReadyH.nil
  go_simp
  go_wp2_with (go_at_call 47; refine (cc2.out _ hd.out).mono ?_; rintro e w1 ⟨rfl, rfl⟩; skip)
  refine hK.out _ _ hd.out (fun _ => ?_)
  clear hK K
  refine wpAnyH_take (i := 14) (v := .int .i64 (N : Int)) rfl (by kernel_rfl) (by kernel_rfl) (by kernel_rfl) (fun _ _ _ h => h) (Or.inl ⟨by rfl, by intro W _; go_simp⟩) hd.out ?_
  refine wpAnyH_take (i := 15) rfl (by kernel_rfl) (by kernel_rfl) (by kernel_rfl) (fun _ _ _ h => h) (yieldsIf_build (by rfl) 92 _ rfl #[(0, .agg (encR r).toArray), (1, .pointer al), (2, .pointer ah), (3, .int .i64 (D : Int)), (4, .int .i64 (N : Int))] (by rw [List.map_toArray]; rfl) _ (fun W _ => buildNode r al ah D N W)) hd.out ?_
  simp only [Act.put, List.setIfInBounds_toArray, List.set_cons_zero, List.set_cons_succ]
  refine wpAnyH_ready (rs := [16]) (by kernel_rfl) (by simp) ?_
  refine AllReadyH.cons rfl (fun K hK => ?_) AllReadyH.nil
  go_simp
  have hd2 : Hid (Below w0.heap.size w0 (w0.drew.alloc (.cells (nodeC r (.pointer al) (.pointer ah) D N).toArray 92))) := Lib.hid (hd.out.trans ((Below.refl w0.heap.size w0.drew).alloc (Nat.le_refl w0.heap.size) _))
  refine hK.out _ _ hd2.out (fun _ => ?_)
  clear hK K
  refine wpAnyH_ready (rs := [17]) (by kernel_rfl) (by simp) ?_
  refine AllReadyH.cons rfl (fun K hK => ?_) AllReadyH.nil
  go_simp
  refine hK.out _ _ hd2.out (fun _ => ?_)
  clear hK K
  refine wpAnyH_done (by kernel_rfl) ?_ _
  go_wp2_with fail
  go_ret
  have hDN : D = (Tr.node r l h).deep ∧ N = (Tr.node r l h).cnt := by
    simp only [Tr.deep, Tr.cnt, hDl.out (), hDh.out (), hNl.out (), hNh.out ()]
    omega
  refine ⟨⟨_, rfl, w0.heap.size, .pointer al, .pointer ah, rfl, ?_, ⟨(tl.out _ (Below.refl _ _)).blk_le, (th.out _ (Below.refl _ _)).blk_le⟩, tl.out _ hd2.out, th.out _ hd2.out⟩, hb0.out.trans (hd2.out.mono hb0.out.size)⟩
  rw [← hDN.1, ← hDN.2]
  exact heap_alloc_new w0.drew _
end Go.Proofs.Ytakcnkmlglkkpaa

namespace Go.Proofs.Ytakcnkmlglkkpaa
open Go.RowKit
set_option linter.unusedSimpArgs false
set_option linter.unusedVariables false

set_option maxRecDepth 100000 in
set_option maxHeartbeats 4000000 in
theorem even_E (w : World) (r : RootT) (l h : Tr) (vl vh : Value) (hl : TreeAt w l vl) (hh : TreeAt w h vh) (hn : l.cnt + h.cnt ≤ 999000) (h1 : ¬ h.deep + 1 < l.deep) (h2 : ¬ l.deep + 1 < h.deep) :
    Calls Try.prog 56 #[.agg (encR r).toArray, vl, vh] w fun e w' => (∃ v, e = .returned v ∧ TreeAt w' (Tr.even r l h) v) ∧ Below w.heap.size w w' := by
  obtain ⟨al, rfl⟩ := hl.ptr
  obtain ⟨ah, rfl⟩ := hh.ptr
  have hi33 : (Try.prog.info? 61).map (·.size) = some 33 := by kernel_rfl
  have hi33' := Lib.hid hi33
  have l33 : Hid (∀ r : RootT, (encR r).toArray.size = 33) := Lib.hid fun r => by simp [encR_length]
  have dl := Tr.deep_le l
  have dh := Tr.deep_le h
  have he : Hid (Tr.even r l h = .node r l h) := Lib.hid (by unfold Tr.even; rw [if_neg h1, if_neg h2])
  obtain ⟨w0, hw0⟩ : ∃ w0, Hid (∀ _ : Unit, w.alloc (.cells (encR r).toArray 61) = w0) := ⟨_, Lib.hid fun _ => rfl⟩
  have hb0 : Hid (Below w.heap.size w w0) := Lib.hid (by rw [← hw0.out ()]; exact (Below.refl _ _).alloc (Nat.le_refl _) _)
  have hx0 : Hid (w0.heap[w.heap.size]? = some (.cells (encR r).toArray 61 (0, 0))) := Lib.hid (by rw [← hw0.out ()]; exact heap_alloc_new w _)
  have tl : Hid (TreeAt w0 l (.pointer al)) := Lib.hid (TreeAt.below hb0.out _ _ hl)
  have th : Hid (TreeAt w0 h (.pointer ah)) := Lib.hid (TreeAt.below hb0.out _ _ hh)
  have hj := Lib.hid (join_any w0 r l h _ _ tl.out th.out (by omega))
  obtain ⟨Dl, hDl⟩ : ∃ D, Hid (∀ _ : Unit, l.deep = D) := ⟨_, Lib.hid fun _ => rfl⟩
  obtain ⟨Dh, hDh⟩ : ∃ D, Hid (∀ _ : Unit, h.deep = D) := ⟨_, Lib.hid fun _ => rfl⟩
  have cd1 := Lib.hid (depth_any w0 l _ tl.out)
  have cd2 := Lib.hid (depth_any w0 h _ th.out)
  rw [hDl.out ()] at dl h1 h2 cd1
  rw [hDh.out ()] at dh h1 h2 cd2
  have b1 : Dl ≤ 1000000 := by omega
  have b2 : Dh ≤ 1000000 := by omega
  have wl : IntKind.i64.wrap ((Dl : Int) + 1) = (Dl : Int) + 1 := by rw [IntKind.wrap_i64]; omega
  have wh : IntKind.i64.wrap ((Dh : Int) + 1) = (Dh : Int) + 1 := by rw [IntKind.wrap_i64]; omega
  have g1 : ¬ (Dh : Int) + 1 < (Dl : Int) := by omega
  have g2 : ¬ (Dl : Int) + 1 < (Dh : Int) := by omega
  clear hl hh hi33 hn dl dh h1 h2
  go_enter Try.func56, Try.ntmps56
  go_wp2_with fail
  rw [hw0.out ()]
  go_wp2_with (first
    | (go_at_call 60; refine cd1.out.mono ?_; rintro e w1 ⟨rfl, rfl⟩)
    | (go_at_call 60; refine cd2.out.mono ?_; rintro e w1 ⟨rfl, rfl⟩)
    | (refine wpList_load_row rfl 61 _ rfl w.heap.size rfl 61 _ (0, 0) _ hx0.out Try.underlying61 rfl (by rw [l33.out]; exact hi33'.out) ?_)
    | (go_at_call 55
       refine hj.out.mono ?_
       rintro e w2 ⟨⟨v, rfl, tv⟩, b2⟩
       have tv' := Lib.hid tv
       have hb2 := Lib.hid (hb0.out.trans (b2.mono hb0.out.size))
       clear tv b2))
  go_ret
  rw [he.out]
  exact ⟨⟨_, rfl, tv'.out⟩, hb2.out⟩
end Go.Proofs.Ytakcnkmlglkkpaa

namespace Go.Proofs.Ytakcnkmlglkkpaa
open Go.RowKit
set_option linter.unusedSimpArgs false
set_option linter.unusedVariables false

theorem NodeAt.below {w0 W : World} {g : Nat} {r : RootT} {vl vh : Value} {d n : Nat} (h : NodeAt w0 g r vl vh d n) (hW : Below w0.heap.size w0 W) : NodeAt W g r vl vh d n := ⟨(hW.block g (Array.getElem?_eq_some_iff.1 h.blk).1).trans h.blk⟩
section
variable {P : Program} {md : Region.Mode} {ops : Array Oper} {Q : Exit → Act → World → Prop} {S : World → Prop}
theorem takeD {i d : Nat} {oi : Oper} {v : Value} {fuel : Nat} {listed : Array Bool} {t : Array Value} {df : List Deferred} {w : World} (hi : ops[i]? = some oi) (hd : oi.dst = some d)
    (hs : Region.noSelect ops = true) (hf : Region.free md ops listed i = true) (hr : (Region.ready md ops listed).contains i = true)
    (hQ : ∀ c a w, Q (.panic c) (a.put oi.dst v) w → Q (.panic c) a w) (hy : YieldsIf P ops S oi v ⟨t, df⟩) (hS : S w)
    (h : wpAnyH P md ops Q S fuel (listed.setIfInBounds i true) ⟨t.setIfInBounds d v, df⟩ w) : wpAnyH P md ops Q S (fuel + 1) listed ⟨t, df⟩ w := by
  refine wpAnyH_take hi hs hf hr hQ hy hS ?_
  rw [hd]
  exact h
end
end Go.Proofs.Ytakcnkmlglkkpaa

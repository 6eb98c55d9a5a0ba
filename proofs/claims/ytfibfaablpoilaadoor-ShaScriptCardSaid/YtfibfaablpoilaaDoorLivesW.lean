/- lives: the walk. -/
import Derived.Test.YtfibfaablpoilaaDoorLives
namespace Go.Proofs.YtfibfaablpoilaaDoor
open Go.RowKit
set_option linter.unusedSimpArgs false

/-- What stands of the Hasher. -/
structure LV (w W : World) (ks m : List Nat) : Prop where
  bel : Below w.heap.size w W
  has : Has W w.heap.size 0 ks m
theorem LV.keep {w W W' : World} {ks m : List Nat} (h : LV w W ks m) (hb : Below W.heap.size W W') : LV w W' ks m := ⟨h.bel.trans (hb.mono h.bel.size), h.has.keep hb⟩
/-- A literal list. -/
theorem lit_byt (W : World) (l : List Nat) : Byt (W.alloc (.cells (u8s l).toArray 5)) (W.alloc (.cells (u8s l).toArray 5)).heap.size (some ⟨W.heap.size, 0, none⟩) l := fun _ =>
  ⟨W.heap.size, 0, rfl, by simp, fun j hj => by
    rw [Nat.zero_add, cell_of_row _ _ _ _ _ _ (heap_alloc_new W _), List.getElem?_toArray]
    exact u8s_get l j hj⟩
theorem lit_below (W : World) (l : List Nat) : Below W.heap.size W (W.alloc (.cells (u8s l).toArray 5)) := (Below.refl _ _).alloc (Nat.le_refl _) _
/-- A write of a literal list. -/
theorem LV.write {w W : World} {ks m : List Nat} (l : List Nat) (h : LV w W ks m) (hT : Tabs w ks) (hk : ks.length = 64) (hkl : ∀ x ∈ ks, x < 4294967296) (hm : ∀ x ∈ m, x < 256) (hl : ∀ x ∈ l, x < 256) (hn : m.length + l.length < 1000) :
    Calls Tryd.prog 18 #[.pointer (some ⟨w.heap.size, 0, none⟩), .slice (some ⟨W.heap.size, 0, none⟩) l.length l.length] (W.alloc (.cells (u8s l).toArray 5)) fun e w' =>
      (∃ v, e = .returned v) ∧ LV w w' ks (m ++ l) ∧ ∀ g D, g ≠ w.heap.size → Blk8 W g D → Blk8 w' g D := by
  have h1 := h.keep (lit_below W l)
  have ht := hT.below h1.bel
  have htl := hT.t.lt
  refine (write_any _ ks m l (some ⟨W.heap.size, 0, none⟩) l.length h1.has ht.t (by omega) hk hkl hm hl (lit_byt W l) (fun _ a ha => by
    cases ha
    have := h.has.lt
    show W.heap.size ≠ w.heap.size
    omega) (Nat.le_refl _) (by omega) (by omega)).mono ?_
  rintro e w' ⟨hv, hh, hc⟩
  exact ⟨hv, ⟨h1.bel.trans (hc.below h1.bel.size (Nat.le_refl _)), hh⟩, fun g D hg hk => (hc.block g (hk.alloc _).lt hg).trans (hk.alloc _)⟩

set_option maxRecDepth 100000 in
set_option maxHeartbeats 2000000 in
theorem lives_any (w : World) (ks : List Nat) (hT : Tabs w ks) (hk : ks.length = 64) (hkl : ∀ x ∈ ks, x < 4294967296) (hne : digest ks [97, 98] ≠ digest ks [97, 98, 99]) :
    Calls Tryd.prog 16 #[] w fun e w' => e = .returned (.bool true) ∧ Below w.heap.size w w' := by
  have hz := zeroK
  have hzh := zeroH
  have hi32 : (Tryd.prog.info? 34).map (·.size) = some 32 := by kernel_rfl
  have hi32' := Lib.hid hi32
  have hz32 : (u8s (zeros 32)).toArray.size = 32 := by simp [u8s, zeros]
  have hone : ∀ D : List Nat, (u8s D).toArray.all (·.oneCell') = true := fun D => all_oneCell_toArray u8s_one
  have hone' := Lib.hid hone
  have hT' := Lib.hid hT
  have hk' := Lib.hid hk
  have hkl' := Lib.hid hkl
  obtain ⟨D1, hD1⟩ : ∃ D, Hid (∀ _ : Unit, digest ks [97, 98] = D) := ⟨_, Lib.hid fun _ => rfl⟩
  obtain ⟨D2, hD2⟩ : ∃ D, Hid (∀ _ : Unit, digest ks [97, 98, 99] = D) := ⟨_, Lib.hid fun _ => rfl⟩
  have n1 : D1.length = 32 := by rw [← hD1.out ()]; exact digest_length _ _
  have n2 : D2.length = 32 := by rw [← hD2.out ()]; exact digest_length _ _
  rw [hD1.out (), hD2.out ()] at hne
  have s1 : (u8s D1).toArray.size = 32 := by simp [u8s, n1]
  have s2 : (u8s D2).toArray.size = 32 := by simp [u8s, n2]
  have q1 : ∀ W, (binOp .neq 34 (.agg (u8s D1).toArray) (.agg (u8s D2).toArray)).run Tryd.prog W = .ok (.bool true) W := fun W => by rw [neK n1 n2]; simp [hne]
  have q2 : ∀ W, (binOp .eql 34 (.agg (u8s D2).toArray) (.agg (u8s D2).toArray)).run Tryd.prog W = .ok (.bool true) W := fun W => by rw [eqK n2 n2]; simp
  have nz : (zeros 32).length = 32 := by simp [zeros]
  have q3 : ∀ W, (binOp .eql 34 (.agg (u8s (zeros 32)).toArray) (.agg (u8s (zeros 32)).toArray)).run Tryd.prog W = .ok (.bool true) W := fun W => by rw [eqK nz nz]; simp
  have hL1 : LV w (w.alloc (.cells (hcells (zeros 8) (zeros 64) 0 false).toArray 45)) ks [] := ⟨(Below.refl _ _).alloc (Nat.le_refl _) _, has_zero (HR.of_row (heap_alloc_new w _) (by simp [zeros]) (by simp [zeros]))⟩
  have hL1' := Lib.hid hL1
  clear hi32 hone hT hk hkl hne n1 n2 nz hL1
  go_enter Tryd.func16, Tryd.ntmps16
  go_wp2_with fail
  generalize (w.alloc (.cells (hcells (zeros 8) (zeros 64) 0 false).toArray 45)) = w1 at hL1' ⊢
  refine (write_nil _ _).mono ?_
  rintro e w2 ⟨⟨v, rfl⟩, rfl⟩
  have hL2 : Hid (LV w (w1.alloc (.cells #[.int .u8 1] 5)) ks []) := Lib.hid (hL1'.out.keep (lit_below w1 [1]))
  generalize (w1.alloc (.cells #[.int .u8 1] 5)) = w2 at hL2 ⊢
  clear hL1'
  go_wp2_with fail
  refine (hL2.out.write [97, 98] hT'.out hk'.out hkl'.out (by simp) (by decide) (by decide)).mono ?_
  rintro e w3 ⟨⟨v, rfl⟩, hL3, -⟩
  have c3 := sum_any w3 ks [97, 98] hL3.has (hT'.out.below hL3.bel).t hk'.out hkl'.out (by decide) (by decide)
  rw [hD1.out ()] at c3
  have c3' := Lib.hid c3
  have hL3' := Lib.hid hL3
  clear c3 hL3 hL2
  go_wp2_with (first
    | (go_at_call 19; refine c3'.out.mono ?_; rintro e w4 ⟨rfl, hb4⟩; skip)
    | (refine wpList_store_row rfl 34 _ _ rfl w4.heap.size (u8s D1).toArray rfl rfl 34 _ (heap_alloc_new w4 _) (by rw [s1]; exact hi32'.out) (by rw [s1, hz32]) (hone'.out D1) ?_; obtain ⟨k3, hb5⟩ := key_new w4 D1; have hb45 := hb4.trans (hb5.mono hb4.size); have hg3 : w4.heap.size ≠ w.heap.size := Nat.ne_of_gt (Nat.lt_of_lt_of_le hL3'.out.has.lt hb4.size); clear hb5; generalize ((w4.alloc (.cells (u8s (zeros 32)).toArray 34)).setRow w4.heap.size (u8s D1).toArray) = w5 at k3 hb45 ⊢; generalize w4.heap.size = g3 at k3 hg3 ⊢))
  have hL5 := Lib.hid (hL3'.out.keep hb45)
  have k3' := Lib.hid k3
  clear k3 hb45 hL3' c3' hb4
  refine (hL5.out.write [99] hT'.out hk'.out hkl'.out (by decide) (by decide) (by decide)).mono ?_
  rintro e w6 ⟨⟨v, rfl⟩, hL6, hB6⟩
  have k3b := Lib.hid (hB6 g3 D1 hg3 k3'.out)
  have c6 := sum_any w6 ks [97, 98, 99] hL6.has (hT'.out.below hL6.bel).t hk'.out hkl'.out (by decide) (by decide)
  rw [hD2.out ()] at c6
  have c6' := Lib.hid c6
  have hL6' := Lib.hid hL6
  clear c6 hL6 hL5 k3' hB6
  go_wp2_with (first
    | (go_at_call 19; refine c6'.out.mono ?_; rintro e w7 ⟨rfl, hb7⟩; skip)
    | (refine wpList_store_row rfl 34 _ _ rfl w7.heap.size (u8s D2).toArray rfl rfl 34 _ (heap_alloc_new w7 _) (by rw [s2]; exact hi32'.out) (by rw [s2, hz32]) (hone'.out D2) ?_; obtain ⟨k4, hb8⟩ := key_new w7 D2; have hb78 := hb7.trans (hb8.mono hb7.size); clear hb8; generalize ((w7.alloc (.cells (u8s (zeros 32)).toArray 34)).setRow w7.heap.size (u8s D2).toArray) = w8 at k4 hb78 ⊢; generalize w7.heap.size = g4 at k4 ⊢))
  have hL8 := Lib.hid (hL6'.out.keep hb78)
  have k3c := Lib.hid (k3b.out.below hb78)
  have hl9 := lit_below w8 [97, 98, 99]
  have hL9 := Lib.hid (hL8.out.keep hl9)
  have k3d := Lib.hid (k3c.out.below hl9)
  have k4d := Lib.hid (Blk8.below k4 hl9)
  have c9 := refSum_any _ ks [97, 98, 99] (some ⟨w8.heap.size, 0, none⟩) 3 (hT'.out.below hL9.out.bel).r (hT'.out.below hL9.out.bel).b hk'.out hkl'.out (by decide) (lit_byt w8 [97, 98, 99]) (by decide)
  rw [hD2.out ()] at c9
  refine c9.mono ?_
  rintro e w9 ⟨rfl, hb9⟩
  have hLA := Lib.hid (hL9.out.keep hb9)
  have k3e := Lib.hid (k3d.out.below hb9)
  have k4e := Lib.hid (k4d.out.below hb9)
  clear hL8 hL9 k3c k3d k4 k4d hl9 c9 hb9 hb78 hb7 k3b hL6' c6'
  have hld : ∀ (g : Nat) (D : List Nat) (W : World), Blk8 W g D → W.heap[g]? = some (.cells (u8s D).toArray 34 (0, 0)) := fun _ _ _ h => h
  have hld' := Lib.hid hld
  clear hld
  go_wp2_with (first
    | (refine wpList_store_row rfl 34 _ _ rfl w9.heap.size (u8s D2).toArray rfl rfl 34 _ (heap_alloc_new w9 _) (by rw [s2]; exact hi32'.out) (by rw [s2, hz32]) (hone'.out D2) ?_; obtain ⟨k5, hb10⟩ := key_new w9 D2; generalize ((w9.alloc (.cells (u8s (zeros 32)).toArray 34)).setRow w9.heap.size (u8s D2).toArray) = wa at k5 hb10 ⊢; have k3f := Lib.hid (k3e.out.below hb10); have k4f := Lib.hid (k4e.out.below hb10); have hLB := Lib.hid (hLA.out.keep hb10); have k5f := Lib.hid k5; clear hb10 k5; generalize w9.heap.size = g5 at k5f ⊢; have cL := Lib.hid (len_any wa hLB.out.has))
    | (refine wpList_load_row rfl 34 _ rfl g3 rfl 34 (u8s D1).toArray (0, 0) _ k3f.out Tryd.underlying34 rfl (by rw [s1]; exact hi32'.out) ?_)
    | (refine wpList_load_row rfl 34 _ rfl g4 rfl 34 (u8s D2).toArray (0, 0) _ k4f.out Tryd.underlying34 rfl (by rw [s2]; exact hi32'.out) ?_)
    | (refine wpList_load_row_g (by rfl) 34 _ rfl g4 rfl 34 (u8s D2).toArray (0, 0) _ k4f.out Tryd.underlying34 rfl (by rw [s2]; exact hi32'.out) ?_)
    | (refine wpList_load_row_g (by rfl) 34 _ rfl g5 rfl 34 (u8s D2).toArray (0, 0) _ k5f.out Tryd.underlying34 rfl (by rw [s2]; exact hi32'.out) ?_)
    | (go_at_call 20; refine cL.out.mono ?_; rintro e w' ⟨rfl, rfl⟩; skip)
    | (go_at_call 20; refine (len_nil _).mono ?_; rintro e w' ⟨rfl, rfl⟩; skip)
    | (go_at_call 19; refine (sum_nil _).mono ?_; rintro e wz ⟨rfl, hbz⟩; skip))
  go_ret
  exact ⟨rfl, hLB.out.bel.trans (hbz.mono hLB.out.bel.size)⟩
end Go.Proofs.YtfibfaablpoilaaDoor

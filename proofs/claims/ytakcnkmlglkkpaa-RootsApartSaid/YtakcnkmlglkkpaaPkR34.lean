/- made: both tables. -/
import Derived.Test.YtakcnkmlglkkpaaPkR33
import Derived.BigQuiet
import Derived.Deep.RegionHeld3
import Derived.Laws.Cover3

namespace Go.Proofs.Ytakcnkmlglkkpaa
open Go.RowKit
set_option linter.unusedSimpArgs false
set_option linter.unusedVariables false
open Classical

/-- What the tables begin with. -/
noncomputable def madeQ (b : Bool) (l : List RootT) : Option (List RootT) := if b then (if fromQ l = 0 then some l else none) else some []
def MadeP (w : World) (b : Bool) (l : List RootT) (e : Ending) (w' : World) : Prop :=
  ((∃ l0, madeQ b l = some l0 ∧ ∃ g g' A A', e = .returned (.tuple #[.pointer (some ⟨g, 0, none⟩), .pointer (some ⟨g', 0, none⟩), .bool true]) ∧ TblL w' w.heap.size g A [l0] ∧ DocL w' w.heap.size g' A' [l0]) ∨
   (madeQ b l = none ∧ e = .returned (.tuple #[.pointer none, .pointer none, .bool true]))) ∧ Below w.heap.size w w'
theorem TblL.gB {w : World} {B g : Nat} {A : Option Addr} {L : Lists} (h : TblL w B g A L) : B ≤ g ∧ ∀ k, blockOf A = some k → B ≤ k := by
  obtain ⟨c, vs, ps, e, h⟩ := h
  exact ⟨h.gB, fun k hk => (h.own.lt k hk).1⟩
theorem DocL.gB {w : World} {B g : Nat} {A : Option Addr} {L : Lists} (h : DocL w B g A L) : B ≤ g ∧ ∀ k, blockOf A = some k → B ≤ k := by
  obtain ⟨c, ps, h⟩ := h
  exact ⟨h.gB, fun k hk => (h.own.lt k hk).1⟩
theorem TblL.base {w : World} {B B' g : Nat} {A : Option Addr} {L : Lists} (h : TblL w B g A L) (hB : B' ≤ B) : TblL w B' g A L := by
  obtain ⟨c, vs, ps, e, h⟩ := h
  exact ⟨c, vs, ps, e, { h with gB := by have := h.gB; omega, own := h.own.base hB }⟩
theorem DocL.base {w : World} {B B' g : Nat} {A : Option Addr} {L : Lists} (h : DocL w B g A L) (hB : B' ≤ B) : DocL w B' g A L := by
  obtain ⟨c, ps, h⟩ := h
  refine ⟨c, ps, { h with gB := by have := h.gB; omega, own := h.own.base hB, rows := fun i l hl => ?_ }⟩
  obtain ⟨Al, cl, h1, h2⟩ := h.rows i l hl
  exact ⟨Al, cl, h1, h2.base hB⟩
set_option maxRecDepth 100000 in
set_option maxHeartbeats 4000000 in
theorem made_new (w : World) (A1 : Option Addr) (n1 c1 : Nat) (A2 : Option Addr) (n2 c2 : Nat) (l : List RootT) :
    Calls Try.prog 13 #[.agg (encX false A1 n1 c1 A2 n2 c2)] w (MadeP w false l) := by
  obtain ⟨w0, hw0⟩ : ∃ w0, w.alloc (.cells (encX false A1 n1 c1 A2 n2 c2) 27) = w0 := ⟨_, rfl⟩
  have hb0 : Hid (Below w.heap.size w w0) := Lib.hid (by rw [← hw0]; exact (Below.refl _ _).alloc (Nat.le_refl _) _)
  have hx0 : w0.heap[w.heap.size]? = some (.cells (encX false A1 n1 c1 A2 n2 c2) 27 (0, 0)) := by rw [← hw0]; exact heap_alloc_new w _
  have k0 := scr_c0 hx0
  clear hx0
  go_enter Try.func13, Try.ntmps13
  go_wp2_with (first
    | (go_at_call 29
       refine (new_any w0).mono ?_
       rintro e w1 ⟨⟨g, A, rfl, _, ht⟩, hb⟩
       have ht1 := Lib.hid ht
       have hb1 := Lib.hid hb
       clear ht hb)
    | (go_at_call 30
       refine (dnew_any w1).mono ?_
       rintro e w2 ⟨⟨g', A', cc, ps, rfl, ht⟩, hb⟩
       have ht2 := Lib.hid ht
       have hb2 := Lib.hid hb
       clear ht hb))
  go_ret3
  have hz := hb0.out.size
  have hz1 := hb1.out.size
  refine ⟨.inl ⟨[], rfl, g, g', A, A', rfl, ?_, ?_⟩, hb0.out.trans ((hb1.out.mono hz).trans (hb2.out.mono (by omega)))⟩
  · exact (ht1.out.below hb2.out).base hz
  · exact DocL.base ⟨cc, ps, ht2.out⟩ (by omega)
theorem RowR.up {w : World} {B B' : Nat} {A : Option Addr} {l : List RootT} (h : RowR w B A l) (hB : B ≤ B') : RowR w B' A l := fun hp => by
  obtain ⟨b, off, e, hb, hc⟩ := h hp
  exact ⟨b, off, e, by omega, hc⟩
theorem DocL.far {w w' : World} {B g : Nat} {A : Option Addr} {L : Lists} {S : Nat → Prop} (h : DocL w B g A L) (hg : Gro S w w') (hS : ∀ j, S j → j < B) : DocL w' B g A L := by
  obtain ⟨c, ps, h⟩ := h
  refine ⟨c, ps, (hg.block g h.lt (fun hs => by have := hS g hs; have := h.gB; omega)).trans h.blk, h.gB, h.own.same (fun k hk => hg.block k (h.own.lt k hk).2 (fun hs => by have := hS k hs; have := (h.own.lt k hk).1; omega)), ?_, h.ne, h.few, h.many⟩
  intro i l hl
  obtain ⟨Al, cl, h1, h2⟩ := h.rows i l hl
  exact ⟨Al, cl, h1, h2.same (fun k hk => hg.block k (h2.lt k hk).2 (fun hs => by have := hS k hs; have := (h2.lt k hk).1; omega))⟩
theorem heldA {w3 W W' : World} {g j : Nat} {v : Value} (hg : g < w3.heap.size) (h : Below w3.heap.size w3 W ∧ W.cell? ⟨g, j, none⟩ = some v) (hb : Below W.heap.size W W') : Below w3.heap.size w3 W' ∧ W'.cell? ⟨g, j, none⟩ = some v :=
  ⟨h.1.trans (hb.mono h.1.size), (hb.cell (p := ⟨g, j, none⟩) (Nat.lt_of_lt_of_le hg h.1.size)).trans h.2⟩
set_option maxRecDepth 100000 in
set_option maxHeartbeats 4000000 in
theorem made_from1 (w : World) (l : List RootT) (A1 : Option Addr) (n1 c1 : Nat) (A2 : Option Addr) (n2 c2 : Nat) (hl : l.length = n1) (hn : n1 ≤ 4096) (hR : RowR w w.heap.size A1 l) (ht : totS l ≤ 4611686018427387904) (hF : fromQ l = 0) :
    Calls Try.prog 13 #[.agg (encX true A1 n1 c1 A2 n2 c2)] w (MadeP w true l) := by
  obtain ⟨w0, hw0⟩ : ∃ w0, w.alloc (.cells (encX true A1 n1 c1 A2 n2 c2) 27) = w0 := ⟨_, rfl⟩
  have hb0 : Hid (Below w.heap.size w w0) := Lib.hid (by rw [← hw0]; exact (Below.refl _ _).alloc (Nat.le_refl _) _)
  have hx0 : w0.heap[w.heap.size]? = some (.cells (encX true A1 n1 c1 A2 n2 c2) 27 (0, 0)) := by rw [← hw0]; exact heap_alloc_new w _
  have hx0' := Lib.hid hx0
  have k0 := scr_c0 hx0
  have k1 := scr_c1 hx0
  have hlt : Hid (w.heap.size < w0.heap.size) := Lib.hid (Array.getElem?_eq_some_iff.1 hx0).1
  have hl' := Lib.hid hl
  have hR0 : Hid (∀ W, Below w.heap.size w W → RowR W w.heap.size A1 l) := Lib.hid fun W hW => Rd.below hR hW
  have hsp : Hid (Shp 0 n1 (rowsR l)) := Lib.hid (by have := Shp.rows l; rwa [hl] at this)
  have hlist : Hid (∀ W B A c, RowR W B A l → B ≤ W.heap.size → Calls Try.prog 16 #[.slice A n1 c] W fun e w' => e = .returned (.string (listS l)) ∧ Below W.heap.size W w') := Lib.hid fun W B A c hr hB => listed_txt W l A n1 c B hl (by omega) hr hB ht
  obtain ⟨tx, htx⟩ : ∃ tx, Hid (∀ _ : Unit, listS l = tx) := ⟨_, Lib.hid fun _ => rfl⟩
  rw [htx.out ()] at hlist
  clear hx0 hR ht
  have hFr : Hid (∀ W A' c', RowR W W.heap.size A' l → Calls Try.prog 31 #[.slice A' n1 c'] W fun e w' => ∃ g A, (e = .returned (.tuple #[.pointer (some ⟨g, 0, none⟩), .int .i64 0]) ∧ TblL w' W.heap.size g A [l]) ∧ Below W.heap.size W w') := Lib.hid fun W A' c' hr => (from_any W l A' n1 c' hl hn hr).mono (by
    rintro e w' ⟨h1 | h1, h2⟩
    · obtain ⟨_, g, A, h3, _, h4⟩ := h1
      exact ⟨g, A, ⟨h3, h4⟩, h2⟩
    · exact absurd hF h1.1)
  have hDf : Hid (∀ W A' c', RowR W W.heap.size A' l → Calls Try.prog 32 #[.slice A' n1 c'] W fun e w' => ∃ g A, (e = .returned (.tuple #[.pointer (some ⟨g, 0, none⟩), .int .i64 0]) ∧ DocL w' W.heap.size g A [l]) ∧ Below W.heap.size W w') := Lib.hid fun W A' c' hr => (dfrom_any W l A' n1 c' hl hn hr).mono (by
    rintro e w' ⟨h1 | h1, h2⟩
    · obtain ⟨_, g, A, cc, ps, h3, h4⟩ := h1
      exact ⟨g, A, ⟨h3, cc, ps, h4⟩, h2⟩
    · exact absurd hF h1.1)
  have hQ := Lib.hid hF
  clear hF hl
  go_enter Try.func13, Try.ntmps13
  go_wp2_with (first
    | (at_builtin
       refine wpList_appR w0 rfl _ _ rfl rfl (Own.nil _ w0.heap.size _ _) l hl'.out rfl (hR0.out _ hb0.out) (by omega) (Nat.le_refl _) n1 (by omega) ?_
       intro A' c' w1 o2 at2 b2
       have ho1 := Lib.hid o2
       have hb1 := Lib.hid b2
       have hr1 : Hid (RowR w1 w1.heap.size A' l) := Lib.hid (RowR.of_own (by rw [hl'.out]; exact o2))
       clear o2 at2 b2)
    | (go_at_call 31
       refine (hFr.out _ _ _ hr1.out).mono ?_
       rintro e w2 ⟨g, A, ⟨rfl, ht⟩, hb⟩
       have ht2 := Lib.hid ht
       have hs12 := Lib.hid hb.size
       have hB2 := Lib.hid ((hb1.out.trans (hb.mono hb1.out.size)) : Below w0.heap.size w0 w2)
       have ho2 := Lib.hid (ho1.out.below hb fun j hj => (ho1.out.lt j hj).2)
       have k2 := (hB2.out.cell (p := ⟨w.heap.size, 1, none⟩) hlt.out).trans k1
       have hr2 := Lib.hid ((hR0.out w2 (hb0.out.trans (hB2.out.mono hb0.out.size))).up (by have := hb0.out.size; have := hB2.out.size; omega : w.heap.size ≤ w2.heap.size))
       clear ht hb)
    | (go_at_call 32
       refine (hDf.out _ _ _ hr2.out).mono ?_
       rintro e w3 ⟨g', A2', ⟨rfl, ht⟩, hb⟩
       have ht3 := Lib.hid ht
       have hb3 := Lib.hid hb
       have hB3 := Lib.hid ((hB2.out.trans (hb.mono hB2.out.size)) : Below w0.heap.size w0 w3)
       have ho3 := Lib.hid (ho2.out.below hb fun j hj => (ho2.out.lt j hj).2)
       have k3 := (hB3.out.cell (p := ⟨w.heap.size, 1, none⟩) hlt.out).trans k1
       clear ht hb))
  have hg3 := Lib.hid (Nat.lt_of_lt_of_le hlt.out hB3.out.size)
  have hlA : Hid (∀ W, Below w3.heap.size w3 W → Calls Try.prog 16 #[.slice A' n1 c'] W fun e w' => e = .returned (.string tx) ∧ Below W.heap.size W w') := Lib.hid fun W hW => hlist.out W W.heap.size A' c' (RowR.of_own (by rw [hl'.out]; exact ho3.out.below hW fun j hj => (ho3.out.lt j hj).2)) (Nat.le_refl _)
  have hlB : Hid (∀ W, Below w3.heap.size w3 W → Calls Try.prog 16 #[.slice A1 n1 c1] W fun e w' => e = .returned (.string tx) ∧ Below W.heap.size W w') := Lib.hid fun W hW => hlist.out W W.heap.size A1 c1 ((hR0.out W (hb0.out.trans ((hB3.out.trans (hW.mono hB3.out.size)).mono hb0.out.size))).up (by have := hb0.out.size; have := hB3.out.size; have := hW.size; omega : w.heap.size ≤ W.heap.size)) (Nat.le_refl _)
  have hspo : Hid (∀ W, Below w3.heap.size w3 W → Calls Try.prog 33 #[.slice A' n1 c'] W fun e w' => (∃ v, e = .returned v) ∧ Gro (fun j => blockOf A' = some j) W w') := Lib.hid fun W hW => spoilt_any W _ A' n1 c' w0.heap.size (ho3.out.below hW fun j hj => (ho3.out.lt j hj).2) hsp.out (by omega) (Nat.le_trans hB3.out.size hW.size)
  have hlow : Hid (∀ V v9, Below w3.heap.size w3 V → Gro (fun j => blockOf A' = some j) V v9 → Below w.heap.size w v9) := Lib.hid fun V v9 hV hg => hb0.out.trans ((hB3.out.trans ((hV.mono hB3.out.size).trans (hg.below (Nat.le_trans hB3.out.size hV.size) fun j hj => (ho1.out.lt j hj).1))).mono hb0.out.size)
  have hlast : Hid (∀ V v9, Below w3.heap.size w3 V → Gro (fun j => blockOf A' = some j) V v9 → MadeP w true l (.returned (.tuple #[.pointer (some ⟨g, 0, none⟩), .pointer (some ⟨g', 0, none⟩), .bool true])) v9) := Lib.hid fun V v9 hV hg => by
    have i0 := hb0.out.size
    have i1 := hb1.out.size
    have i2 := hB2.out.size
    have i3 := hb3.out.size
    have i4 := hs12.out
    have q1 := (ht2.out.below hb3.out).below hV
    have q2 := ht3.out.below hV
    have j1 : ∀ j, blockOf A' = some j → w0.heap.size ≤ j ∧ j < w1.heap.size := fun j hj => ho1.out.lt j hj
    refine ⟨.inl ⟨l, by unfold madeQ; rw [if_pos rfl, if_pos hQ.out], g, g', A, A2', rfl, ?_, ?_⟩, hlow.out V v9 hV hg⟩
    · refine (q1.gro hg fun j hj => ?_).base (by omega : w.heap.size ≤ w1.heap.size)
      have := j1 j hj
      refine ⟨by have := q1.gB.1; omega, fun hA => by have := q1.gB.2 j hA; omega, fun cs fr hc => ?_⟩
      obtain ⟨cs', fr', hc'⟩ := (ho3.out.below hV fun j hj => (ho3.out.lt j hj).2).type hj
      rw [hc'] at hc
      injection hc with hc
      injection hc with _ hc
      exact absurd hc (by decide)
    · refine (q2.far hg fun j hj => ?_).base (by omega : w.heap.size ≤ w2.heap.size)
      have := j1 j hj
      have := hb1.out.size
      omega
  clear k0 k1 k2 hw0
  have hd : Hid (Below w3.heap.size w3 (World.drew w3)) := Lib.hid (below_drewN (Below.refl _ _) 1)
  refine wp_region_held (S := fun W => Below w3.heap.size w3 W) (by kernel_rfl) ?_
  change wpAnyH _ _ _ _ _ _ _ _ (World.drew _)
  refine takeD (i := 0) (d := 34) (v := .int .i64 0) rfl rfl (by kernel_rfl) (by kernel_rfl) (by kernel_rfl) (fun _ _ _ h => h) (Or.inl ⟨by rfl, by intro W hW; clear hW; go_simp⟩) hd.out ?_
  simp only [List.setIfInBounds_toArray, List.set_cons_zero, List.set_cons_succ]
  refine takeD (i := 1) (d := 35) (v := .int .i64 0) rfl rfl (by kernel_rfl) (by kernel_rfl) (by kernel_rfl) (fun _ _ _ h => h) (Or.inl ⟨by rfl, by intro W hW; clear hW; go_simp⟩) hd.out ?_
  simp only [List.setIfInBounds_toArray, List.set_cons_zero, List.set_cons_succ]
  refine takeD (i := 2) (d := 36) (v := .bool false) rfl rfl (by kernel_rfl) (by kernel_rfl) (by kernel_rfl) (fun _ _ _ h => h) (Or.inl ⟨by rfl, by intro W hW; clear hW; go_simp⟩) hd.out ?_
  simp only [List.setIfInBounds_toArray, List.set_cons_zero, List.set_cons_succ]
  refine takeD (i := 3) (d := 37) (v := .bool false) rfl rfl (by kernel_rfl) (by kernel_rfl) (by kernel_rfl) (fun _ _ _ h => h) (Or.inl ⟨by rfl, by intro W hW; clear hW; go_simp⟩) hd.out ?_
  simp only [List.setIfInBounds_toArray, List.set_cons_zero, List.set_cons_succ]
  refine takeD (i := 4) (d := 38) (v := .pointer (some ⟨g, 0, none⟩)) rfl rfl (by kernel_rfl) (by kernel_rfl) (by kernel_rfl) (fun _ _ _ h => h) (Or.inl ⟨by rfl, by intro W hW; clear hW; go_simp⟩) hd.out ?_
  simp only [List.setIfInBounds_toArray, List.set_cons_zero, List.set_cons_succ]
  refine takeD (i := 5) (d := 39) (v := .bool false) rfl rfl (by kernel_rfl) (by kernel_rfl) (by kernel_rfl) (fun _ _ _ h => h) (Or.inl ⟨by rfl, by intro W hW; clear hW; go_simp⟩) hd.out ?_
  simp only [List.setIfInBounds_toArray, List.set_cons_zero, List.set_cons_succ]
  refine takeD (i := 6) (d := 40) (v := .pointer (some ⟨g', 0, none⟩)) rfl rfl (by kernel_rfl) (by kernel_rfl) (by kernel_rfl) (fun _ _ _ h => h) (Or.inl ⟨by rfl, by intro W hW; clear hW; go_simp⟩) hd.out ?_
  simp only [List.setIfInBounds_toArray, List.set_cons_zero, List.set_cons_succ]
  refine takeD (i := 7) (d := 41) (v := .bool false) rfl rfl (by kernel_rfl) (by kernel_rfl) (by kernel_rfl) (fun _ _ _ h => h) (Or.inl ⟨by rfl, by intro W hW; clear hW; go_simp⟩) hd.out ?_
  simp only [List.setIfInBounds_toArray, List.set_cons_zero, List.set_cons_succ]
  refine takeD (i := 8) (d := 42) (v := .bool false) rfl rfl (by kernel_rfl) (by kernel_rfl) (by kernel_rfl) (fun _ _ _ h => h) (Or.inl ⟨by rfl, by intro W hW; clear hW; go_simp⟩) hd.out ?_
  simp only [List.setIfInBounds_toArray, List.set_cons_zero, List.set_cons_succ]
  refine takeD (i := 9) (d := 43) (v := .bool false) rfl rfl (by kernel_rfl) (by kernel_rfl) (by kernel_rfl) (fun _ _ _ h => h) (Or.inl ⟨by rfl, by intro W hW; clear hW; go_simp⟩) hd.out ?_
  simp only [List.setIfInBounds_toArray, List.set_cons_zero, List.set_cons_succ]
  refine takeD (i := 10) (d := 44) (v := .bool false) rfl rfl (by kernel_rfl) (by kernel_rfl) (by kernel_rfl) (fun _ _ _ h => h) (Or.inl ⟨by rfl, by intro W hW; clear hW; go_simp⟩) hd.out ?_
  simp only [List.setIfInBounds_toArray, List.set_cons_zero, List.set_cons_succ]
  refine takeD (i := 11) (d := 45) (v := .slice A' n1 c') rfl rfl (by kernel_rfl) (by kernel_rfl) (by kernel_rfl) (fun _ _ _ h => h) (Or.inl ⟨by rfl, by intro W hW; clear hW; go_simp⟩) hd.out ?_
  simp only [List.setIfInBounds_toArray, List.set_cons_zero, List.set_cons_succ]
  refine takeD (i := 13) (d := 47) (v := .pointer (some ⟨w.heap.size, 1, none⟩)) rfl rfl (by kernel_rfl) (by kernel_rfl) (by kernel_rfl) (fun _ _ _ h => h) (Or.inl ⟨by rfl, by intro W hW; clear hW; go_simp⟩) hd.out ?_
  simp only [List.setIfInBounds_toArray, List.set_cons_zero, List.set_cons_succ]
  refine takeD (i := 14) (d := 48) (v := .slice A1 n1 c1) rfl rfl (by kernel_rfl) (by kernel_rfl) (by kernel_rfl) (fun _ _ _ h => h) (Or.inl ⟨by rfl, by intro W hW; have cc := (hW.cell (p := ⟨w.heap.size, 1, none⟩) hg3.out).trans k3; clear hW; go_simp⟩) hd.out ?_
  simp only [List.setIfInBounds_toArray, List.set_cons_zero, List.set_cons_succ]
  refine wpAnyH_ready (rs := [12]) (by kernel_rfl) (by simp) ?_
  refine AllReadyH.cons rfl (fun K hK => ?_) AllReadyH.nil
  go_simp
  go_wp2_with (go_at_call 16; refine (hlA.out _ hd.out).mono ?_; rintro e v1 ⟨rfl, b1⟩; skip)
  have hd1 : Hid (Below w3.heap.size w3 v1) := Lib.hid (hd.out.trans (b1.mono hd.out.size))
  clear b1
  refine hK.out _ _ hd1.out (fun _ => ?_)
  clear hK K
  refine wpAnyH_ready (rs := [15]) (by kernel_rfl) (by simp) ?_
  refine AllReadyH.cons rfl (fun K hK => ?_) AllReadyH.nil
  go_simp
  go_wp2_with (go_at_call 16; refine (hlB.out _ hd1.out).mono ?_; rintro e v2 ⟨rfl, b2⟩; skip)
  have hd2 : Hid (Below w3.heap.size w3 v2) := Lib.hid (hd1.out.trans (b2.mono hd1.out.size))
  clear b2
  refine hK.out _ _ hd2.out (fun _ => ?_)
  clear hK K
  refine takeD (i := 16) (d := 50) (v := .bool false) rfl rfl (by kernel_rfl) (by kernel_rfl) (by kernel_rfl) (fun _ _ _ h => h) (Or.inl ⟨by rfl, by intro W hW; clear hW; go_simp⟩) hd2.out ?_
  simp only [List.setIfInBounds_toArray, List.set_cons_zero, List.set_cons_succ]
  refine takeD (i := 17) (d := 51) (v := .bool false) rfl rfl (by kernel_rfl) (by kernel_rfl) (by kernel_rfl) (fun _ _ _ h => h) (Or.inl ⟨by rfl, by intro W hW; clear hW; go_simp⟩) hd2.out ?_
  simp only [List.setIfInBounds_toArray, List.set_cons_zero, List.set_cons_succ]
  refine wpAnyH_done (by kernel_rfl) ?_ _
  have hend := hd2
  go_wp2_with (first
    | (go_at_call 33
       refine (hspo.out _ hend.out).mono ?_
       rintro e v9 ⟨⟨vv, rfl⟩, hg⟩
       have hg9 := Lib.hid hg
       clear hg))
  go_ret3
  exact hlast.out _ _ hend.out hg9.out
set_option maxRecDepth 100000 in
set_option maxHeartbeats 4000000 in
theorem made_from0 (w : World) (l : List RootT) (A1 : Option Addr) (n1 c1 : Nat) (A2 : Option Addr) (n2 c2 : Nat) (hl : l.length = n1) (hn : n1 ≤ 4096) (hR : RowR w w.heap.size A1 l) (ht : totS l ≤ 4611686018427387904) (hF : fromQ l ≠ 0) :
    Calls Try.prog 13 #[.agg (encX true A1 n1 c1 A2 n2 c2)] w (MadeP w true l) := by
  obtain ⟨w0, hw0⟩ : ∃ w0, w.alloc (.cells (encX true A1 n1 c1 A2 n2 c2) 27) = w0 := ⟨_, rfl⟩
  have hb0 : Hid (Below w.heap.size w w0) := Lib.hid (by rw [← hw0]; exact (Below.refl _ _).alloc (Nat.le_refl _) _)
  have hx0 : w0.heap[w.heap.size]? = some (.cells (encX true A1 n1 c1 A2 n2 c2) 27 (0, 0)) := by rw [← hw0]; exact heap_alloc_new w _
  have hx0' := Lib.hid hx0
  have k0 := scr_c0 hx0
  have k1 := scr_c1 hx0
  have hlt : Hid (w.heap.size < w0.heap.size) := Lib.hid (Array.getElem?_eq_some_iff.1 hx0).1
  have hl' := Lib.hid hl
  have hR0 : Hid (∀ W, Below w.heap.size w W → RowR W w.heap.size A1 l) := Lib.hid fun W hW => Rd.below hR hW
  have hsp : Hid (Shp 0 n1 (rowsR l)) := Lib.hid (by have := Shp.rows l; rwa [hl] at this)
  have hlist : Hid (∀ W B A c, RowR W B A l → B ≤ W.heap.size → Calls Try.prog 16 #[.slice A n1 c] W fun e w' => e = .returned (.string (listS l)) ∧ Below W.heap.size W w') := Lib.hid fun W B A c hr hB => listed_txt W l A n1 c B hl (by omega) hr hB ht
  obtain ⟨tx, htx⟩ : ∃ tx, Hid (∀ _ : Unit, listS l = tx) := ⟨_, Lib.hid fun _ => rfl⟩
  rw [htx.out ()] at hlist
  clear hx0 hR ht
  obtain ⟨F, hFn⟩ : ∃ F : Nat, Hid (∀ _ : Unit, fromQ l = F) := ⟨_, Lib.hid fun _ => rfl⟩
  have hFr : Hid (∀ W A' c', RowR W W.heap.size A' l → Calls Try.prog 31 #[.slice A' n1 c'] W fun e w' => e = .returned (.tuple #[.pointer none, .int .i64 (F : Int)]) ∧ Below W.heap.size W w') := Lib.hid fun W A' c' hr => (from_any W l A' n1 c' hl hn hr).mono (by
    rintro e w' ⟨h1 | h1, h2⟩
    · exact absurd h1.1 hF
    · exact ⟨by rw [h1.2, hFn.out ()], h2⟩)
  have hDf : Hid (∀ W A' c', RowR W W.heap.size A' l → Calls Try.prog 32 #[.slice A' n1 c'] W fun e w' => e = .returned (.tuple #[.pointer none, .int .i64 (F : Int)]) ∧ Below W.heap.size W w') := Lib.hid fun W A' c' hr => (dfrom_any W l A' n1 c' hl hn hr).mono (by
    rintro e w' ⟨h1 | h1, h2⟩
    · exact absurd h1.1 hF
    · exact ⟨by rw [h1.2, hFn.out ()], h2⟩)
  have hQ := Lib.hid hF
  clear hF hl
  go_enter Try.func13, Try.ntmps13
  go_wp2_with (first
    | (at_builtin
       refine wpList_appR w0 rfl _ _ rfl rfl (Own.nil _ w0.heap.size _ _) l hl'.out rfl (hR0.out _ hb0.out) (by omega) (Nat.le_refl _) n1 (by omega) ?_
       intro A' c' w1 o2 at2 b2
       have ho1 := Lib.hid o2
       have hb1 := Lib.hid b2
       have hr1 : Hid (RowR w1 w1.heap.size A' l) := Lib.hid (RowR.of_own (by rw [hl'.out]; exact o2))
       clear o2 at2 b2)
    | (go_at_call 31
       refine (hFr.out _ _ _ hr1.out).mono ?_
       rintro e w2 ⟨rfl, hb⟩
       have hs12 := Lib.hid hb.size
       have hB2 := Lib.hid ((hb1.out.trans (hb.mono hb1.out.size)) : Below w0.heap.size w0 w2)
       have ho2 := Lib.hid (ho1.out.below hb fun j hj => (ho1.out.lt j hj).2)
       have k2 := (hB2.out.cell (p := ⟨w.heap.size, 1, none⟩) hlt.out).trans k1
       have hr2 := Lib.hid ((hR0.out w2 (hb0.out.trans (hB2.out.mono hb0.out.size))).up (by have := hb0.out.size; have := hB2.out.size; omega : w.heap.size ≤ w2.heap.size))
       clear hb)
    | (go_at_call 32
       refine (hDf.out _ _ _ hr2.out).mono ?_
       rintro e w3 ⟨rfl, hb⟩
       have hb3 := Lib.hid hb
       have hB3 := Lib.hid ((hB2.out.trans (hb.mono hB2.out.size)) : Below w0.heap.size w0 w3)
       have ho3 := Lib.hid (ho2.out.below hb fun j hj => (ho2.out.lt j hj).2)
       have k3 := (hB3.out.cell (p := ⟨w.heap.size, 1, none⟩) hlt.out).trans k1
       clear hb))
  have hg3 := Lib.hid (Nat.lt_of_lt_of_le hlt.out hB3.out.size)
  have hlA : Hid (∀ W, Below w3.heap.size w3 W → Calls Try.prog 16 #[.slice A' n1 c'] W fun e w' => e = .returned (.string tx) ∧ Below W.heap.size W w') := Lib.hid fun W hW => hlist.out W W.heap.size A' c' (RowR.of_own (by rw [hl'.out]; exact ho3.out.below hW fun j hj => (ho3.out.lt j hj).2)) (Nat.le_refl _)
  have hlB : Hid (∀ W, Below w3.heap.size w3 W → Calls Try.prog 16 #[.slice A1 n1 c1] W fun e w' => e = .returned (.string tx) ∧ Below W.heap.size W w') := Lib.hid fun W hW => hlist.out W W.heap.size A1 c1 ((hR0.out W (hb0.out.trans ((hB3.out.trans (hW.mono hB3.out.size)).mono hb0.out.size))).up (by have := hb0.out.size; have := hB3.out.size; have := hW.size; omega : w.heap.size ≤ W.heap.size)) (Nat.le_refl _)
  have hspo : Hid (∀ W, Below w3.heap.size w3 W → Calls Try.prog 33 #[.slice A' n1 c'] W fun e w' => (∃ v, e = .returned v) ∧ Gro (fun j => blockOf A' = some j) W w') := Lib.hid fun W hW => spoilt_any W _ A' n1 c' w0.heap.size (ho3.out.below hW fun j hj => (ho3.out.lt j hj).2) hsp.out (by omega) (Nat.le_trans hB3.out.size hW.size)
  have hlow : Hid (∀ V v9, Below w3.heap.size w3 V → Gro (fun j => blockOf A' = some j) V v9 → Below w.heap.size w v9) := Lib.hid fun V v9 hV hg => hb0.out.trans ((hB3.out.trans ((hV.mono hB3.out.size).trans (hg.below (Nat.le_trans hB3.out.size hV.size) fun j hj => (ho1.out.lt j hj).1))).mono hb0.out.size)
  have hlast := hlow
  clear k0 k1 k2 hw0
  have hd : Hid (Below w3.heap.size w3 (World.drew w3)) := Lib.hid (below_drewN (Below.refl _ _) 1)
  refine wp_region_held (S := fun W => Below w3.heap.size w3 W) (by kernel_rfl) ?_
  change wpAnyH _ _ _ _ _ _ _ _ (World.drew _)
  refine takeD (i := 0) (d := 34) (v := .int .i64 (F : Int)) rfl rfl (by kernel_rfl) (by kernel_rfl) (by kernel_rfl) (fun _ _ _ h => h) (Or.inl ⟨by rfl, by intro W hW; clear hW; go_simp⟩) hd.out ?_
  simp only [List.setIfInBounds_toArray, List.set_cons_zero, List.set_cons_succ]
  refine takeD (i := 1) (d := 35) (v := .int .i64 (F : Int)) rfl rfl (by kernel_rfl) (by kernel_rfl) (by kernel_rfl) (fun _ _ _ h => h) (Or.inl ⟨by rfl, by intro W hW; clear hW; go_simp⟩) hd.out ?_
  simp only [List.setIfInBounds_toArray, List.set_cons_zero, List.set_cons_succ]
  refine takeD (i := 2) (d := 36) (v := .bool false) rfl rfl (by kernel_rfl) (by kernel_rfl) (by kernel_rfl) (fun _ _ _ h => h) (Or.inl ⟨by rfl, by intro W hW; clear hW; go_simp⟩) hd.out ?_
  simp only [List.setIfInBounds_toArray, List.set_cons_zero, List.set_cons_succ]
  refine takeD (i := 3) (d := 37) (v := .bool false) rfl rfl (by kernel_rfl) (by kernel_rfl) (by kernel_rfl) (fun _ _ _ h => h) (Or.inl ⟨by rfl, by intro W hW; clear hW; go_simp⟩) hd.out ?_
  simp only [List.setIfInBounds_toArray, List.set_cons_zero, List.set_cons_succ]
  refine takeD (i := 4) (d := 38) (v := .pointer none) rfl rfl (by kernel_rfl) (by kernel_rfl) (by kernel_rfl) (fun _ _ _ h => h) (Or.inl ⟨by rfl, by intro W hW; clear hW; go_simp⟩) hd.out ?_
  simp only [List.setIfInBounds_toArray, List.set_cons_zero, List.set_cons_succ]
  refine takeD (i := 5) (d := 39) (v := .bool true) rfl rfl (by kernel_rfl) (by kernel_rfl) (by kernel_rfl) (fun _ _ _ h => h) (Or.inl ⟨by rfl, by intro W hW; clear hW; go_simp⟩) hd.out ?_
  simp only [List.setIfInBounds_toArray, List.set_cons_zero, List.set_cons_succ]
  refine takeD (i := 6) (d := 40) (v := .pointer none) rfl rfl (by kernel_rfl) (by kernel_rfl) (by kernel_rfl) (fun _ _ _ h => h) (Or.inl ⟨by rfl, by intro W hW; clear hW; go_simp⟩) hd.out ?_
  simp only [List.setIfInBounds_toArray, List.set_cons_zero, List.set_cons_succ]
  refine takeD (i := 7) (d := 41) (v := .bool true) rfl rfl (by kernel_rfl) (by kernel_rfl) (by kernel_rfl) (fun _ _ _ h => h) (Or.inl ⟨by rfl, by intro W hW; clear hW; go_simp⟩) hd.out ?_
  simp only [List.setIfInBounds_toArray, List.set_cons_zero, List.set_cons_succ]
  refine takeD (i := 8) (d := 42) (v := .bool false) rfl rfl (by kernel_rfl) (by kernel_rfl) (by kernel_rfl) (fun _ _ _ h => h) (Or.inl ⟨by rfl, by intro W hW; clear hW; go_simp⟩) hd.out ?_
  simp only [List.setIfInBounds_toArray, List.set_cons_zero, List.set_cons_succ]
  refine takeD (i := 9) (d := 43) (v := .bool false) rfl rfl (by kernel_rfl) (by kernel_rfl) (by kernel_rfl) (fun _ _ _ h => h) (Or.inl ⟨by rfl, by intro W hW; clear hW; go_simp⟩) hd.out ?_
  simp only [List.setIfInBounds_toArray, List.set_cons_zero, List.set_cons_succ]
  refine takeD (i := 10) (d := 44) (v := .bool false) rfl rfl (by kernel_rfl) (by kernel_rfl) (by kernel_rfl) (fun _ _ _ h => h) (Or.inl ⟨by rfl, by intro W hW; clear hW; go_simp⟩) hd.out ?_
  simp only [List.setIfInBounds_toArray, List.set_cons_zero, List.set_cons_succ]
  refine takeD (i := 11) (d := 45) (v := .slice A' n1 c') rfl rfl (by kernel_rfl) (by kernel_rfl) (by kernel_rfl) (fun _ _ _ h => h) (Or.inl ⟨by rfl, by intro W hW; clear hW; go_simp⟩) hd.out ?_
  simp only [List.setIfInBounds_toArray, List.set_cons_zero, List.set_cons_succ]
  refine takeD (i := 13) (d := 47) (v := .pointer (some ⟨w.heap.size, 1, none⟩)) rfl rfl (by kernel_rfl) (by kernel_rfl) (by kernel_rfl) (fun _ _ _ h => h) (Or.inl ⟨by rfl, by intro W hW; clear hW; go_simp⟩) hd.out ?_
  simp only [List.setIfInBounds_toArray, List.set_cons_zero, List.set_cons_succ]
  refine takeD (i := 14) (d := 48) (v := .slice A1 n1 c1) rfl rfl (by kernel_rfl) (by kernel_rfl) (by kernel_rfl) (fun _ _ _ h => h) (Or.inl ⟨by rfl, by intro W hW; have cc := (hW.cell (p := ⟨w.heap.size, 1, none⟩) hg3.out).trans k3; clear hW; go_simp⟩) hd.out ?_
  simp only [List.setIfInBounds_toArray, List.set_cons_zero, List.set_cons_succ]
  refine wpAnyH_ready (rs := [12]) (by kernel_rfl) (by simp) ?_
  refine AllReadyH.cons rfl (fun K hK => ?_) AllReadyH.nil
  go_simp
  go_wp2_with (go_at_call 16; refine (hlA.out _ hd.out).mono ?_; rintro e v1 ⟨rfl, b1⟩; skip)
  have hd1 : Hid (Below w3.heap.size w3 v1) := Lib.hid (hd.out.trans (b1.mono hd.out.size))
  clear b1
  refine hK.out _ _ hd1.out (fun _ => ?_)
  clear hK K
  refine wpAnyH_ready (rs := [15]) (by kernel_rfl) (by simp) ?_
  refine AllReadyH.cons rfl (fun K hK => ?_) AllReadyH.nil
  go_simp
  go_wp2_with (go_at_call 16; refine (hlB.out _ hd1.out).mono ?_; rintro e v2 ⟨rfl, b2⟩; skip)
  have hd2 : Hid (Below w3.heap.size w3 v2) := Lib.hid (hd1.out.trans (b2.mono hd1.out.size))
  clear b2
  refine hK.out _ _ hd2.out (fun _ => ?_)
  clear hK K
  refine takeD (i := 16) (d := 50) (v := .bool false) rfl rfl (by kernel_rfl) (by kernel_rfl) (by kernel_rfl) (fun _ _ _ h => h) (Or.inl ⟨by rfl, by intro W hW; clear hW; go_simp⟩) hd2.out ?_
  simp only [List.setIfInBounds_toArray, List.set_cons_zero, List.set_cons_succ]
  refine takeD (i := 17) (d := 51) (v := .bool false) rfl rfl (by kernel_rfl) (by kernel_rfl) (by kernel_rfl) (fun _ _ _ h => h) (Or.inl ⟨by rfl, by intro W hW; clear hW; go_simp⟩) hd2.out ?_
  simp only [List.setIfInBounds_toArray, List.set_cons_zero, List.set_cons_succ]
  refine wpAnyH_done (by kernel_rfl) ?_ _
  have hend := hd2
  go_wp2_with (first
    | (go_at_call 33
       refine (hspo.out _ hend.out).mono ?_
       rintro e v9 ⟨⟨vv, rfl⟩, hg⟩
       have hg9 := Lib.hid hg
       clear hg))
  go_ret3
  exact ⟨.inr ⟨by unfold madeQ; rw [if_pos rfl, if_neg hQ.out], rfl⟩, hlast.out _ _ hend.out hg9.out⟩
end Go.Proofs.Ytakcnkmlglkkpaa

/- The document's Sum. -/
import Derived.Test.YtlolnpilpdkbkaaDoorDigest
import Derived.Test.YtlolnpilpdkbkaaDoorBlkW
namespace Go.Proofs.YtlolnpilpdkbkaaDoor
open Go.RowKit
set_option linter.unusedSimpArgs false

/-- The document's tables. -/
def RTab (w : World) (ks : List Nat) : Prop := ∀ t, t < 64 → w.cell? ⟨1, t, none⟩ = some (.int .u64 ((ks[t]?.getD 0 : Nat) : Int))
def BTab (w : World) : Prop := ∀ t, t < 8 → w.cell? ⟨0, t, none⟩ = some (.int .u64 ((startL[t]?.getD 0 : Nat) : Int))
theorem RTab.below {w w' : World} {ks : List Nat} (h : RTab w ks) (hb : Below w.heap.size w w') : RTab w' ks := fun t ht => (hb.cell (p := ⟨1, t, none⟩) (World.block_lt_of_cell? w _ (h t ht))).trans (h t ht)
theorem BTab.below {w w' : World} (h : BTab w) (hb : Below w.heap.size w w') : BTab w' := fun t ht => (hb.cell (p := ⟨0, t, none⟩) (World.block_lt_of_cell? w _ (h t ht))).trans (h t ht)

/-- What stands while blocks are taken. -/
structure DS (w wr : World) (g4 ga n c : Nat) (F M : List Nat) : Prop where
  bel : Below w.heap.size w wr
  k0 : Blk8 wr w.heap.size (zerW 32)
  st : Blk32 wr g4 61 F
  all : Own wr w.heap.size 5 1 (some ⟨ga, 0, none⟩) n c (u8s M)
  h4 : w.heap.size < g4
  ha : ga ≠ g4
theorem DS.drew {w wr : World} {g4 ga n c : Nat} {F M : List Nat} (h : DS w wr g4 ga n c F M) : DS w wr.drew g4 ga n c F M := ⟨h.bel.drew, h.k0, h.st, h.all, h.h4, h.ha⟩
theorem DS.keep {w wr w' : World} {g4 ga n c : Nat} {F M : List Nat} (h : DS w wr g4 ga n c F M) (hb : Below wr.heap.size wr w') : DS w w' g4 ga n c F M :=
  ⟨h.bel.trans (hb.mono h.bel.size), h.k0.below hb, h.st.below hb h.st.lt, h.all.below hb (fun k hk => (h.all.lt k hk).2), h.h4, h.ha⟩
theorem DS.put {w wr : World} {g4 ga n c : Nat} {F F' M : List Nat} (h : DS w wr g4 ga n c F M) : DS w (wr.setRow g4 (u32s F').toArray) g4 ga n c F' M where
  bel := setRow_belS h.bel (by have := h.h4; omega) _
  k0 := (setRow_other wr g4 w.heap.size _ (by have := h.h4; omega)).trans h.k0
  st := setRow_heap wr g4 _ _ _ _ h.st
  all := h.all.kept (row := some g4) ⟨rfl, rfl, rfl, by simp, fun k hk hne => setRow_other wr g4 k _ (fun e => hne (by rw [e]))⟩ (fun k hk he => h.ha (by
    have h1 : ga = k := by injection hk
    have h2 : g4 = k := by injection he
    omega))
  h4 := h.h4
  ha := h.ha
theorem DS.block {w wr : World} {g4 ga n c k : Nat} {F M : List Nat} (h : DS w wr g4 ga n c F M) (hn : M.length = n) (hk : 64 * k + 64 ≤ n) : Byt wr wr.heap.size (some ⟨ga, 64 * k, none⟩) (Go.Proofs.YtlolnpilpdkbkaaDoor.blk M k) := fun _ => by
  refine ⟨ga, 64 * k, rfl, (h.all.lt ga rfl).2, fun j hj => ?_⟩
  have hj2 : j < 64 := by rw [blk_length (by omega)] at hj; exact hj
  rw [h.all.cell (64 * k + j) (by omega), u8s_get M _ (by omega)]
  unfold Go.Proofs.YtlolnpilpdkbkaaDoor.blk
  dsimp only
  rw [List.getElem?_take, if_pos hj2, List.getElem?_drop]
/-- What stands while the digest's bytes are laid. -/
structure DL (w wr : World) (g4 g6 : Nat) (F : List Nat) (i : Nat) : Prop where
  bel : Below w.heap.size w wr
  k0 : Blk8 wr w.heap.size (zerW 32)
  st : Blk32 wr g4 61 F
  k1 : Blk8 wr g6 (bytesTo F i)
  n4 : g4 ≠ g6
  n6 : w.heap.size < g6
theorem DL.set {w wr : World} {F : List Nat} {i g4 g6 : Nat} (h : DL w wr g4 g6 F i) (hi : i < 32) {x : Nat} (hx : x = F[i / 4]?.getD 0 / 256 ^ (3 - i % 4) % 256) : DL w (wr.setCell ⟨g6, i, none⟩ (.int .u8 (x : Int))) g4 g6 F (i + 1) where
  bel := h.bel.setCell (p := ⟨g6, i, none⟩) (by have := h.n6; simp; omega) _
  k0 := h.k0.far (p := ⟨g6, i, none⟩) (by have := h.n6; simp; omega) _
  st := h.st.far (p := ⟨g6, i, none⟩) h.n4 _
  k1 := by
    have := h.k1.set i x
    rw [hx, bytesTo_set F hi, ← hx] at this
    exact this
  n4 := h.n4
  n6 := h.n6

/-- s[p:p+64] of a list of the call's own. -/
theorem cut_mid {ga n c p : Nat} (h : p + 64 ≤ n) (hc : n ≤ c) (w : World) :
    (Instr.slice 22 (.slice (some ⟨ga, 0, none⟩) n c) (some (.int .i64 (p : Int))) (some (.int .i64 ((p : Int) + 64))) none).run Tryd.prog w = .ok (.slice (some ⟨ga, p, none⟩) 64 (c - p)) w := by
  have hs : (sizeOf (Tryd.prog.elem 22)).run Tryd.prog w = .ok 1 w := by kernel_rfl
  rw [run_slice_lh w 22 _ n c (by rw [Tryd.underlying22]; kernel_rfl) .i64 .i64 (p : Int) ((p : Int) + 64) (by omega) (by omega) (by omega), hs]
  have e : ((p : Int) + 64).toNat = p + 64 := by omega
  simp only [Result.andThen, sliced, Int.toNat_natCast, Nat.mul_one, e, Nat.add_sub_cancel_left]
  rw [if_neg (by omega)]
  simp [Addr.add_lit]

set_option maxRecDepth 100000 in
set_option maxHeartbeats 2000000 in
theorem refSum_any (w : World) (ks b : List Nat) (A : Option Addr) (c : Nat) (hR : RTab w ks) (hS : BTab w) (hk : ks.length = 64) (hkl : ∀ x ∈ ks, x < 4294967296) (hb : ∀ x ∈ b, x < 256) (hA : Byt w w.heap.size A b) (hL : b.length ≤ 140737488355328) :
    Calls Tryd.prog 21 #[.slice A b.length c] w fun e w' => e = .returned (.agg (u8s (digest ks b)).toArray) ∧ Below w.heap.size w w' := by
  have hz := zeroK
  have hz8 := zero8
  have hi32 : (Tryd.prog.info? 24).map (·.size) = some 32 := by kernel_rfl
  have hi32' := Lib.hid hi32
  have hi8 : (Tryd.prog.info? 61).map (·.size) = some 8 := by kernel_rfl
  have hi8' := Lib.hid hi8
  have hB1 : Below w.heap.size w (w.alloc (.cells (u8s (zerW 32)).toArray 24)) := (Below.refl _ _).alloc (Nat.le_refl _) _
  have hB1' := Lib.hid hB1
  have k0 := Blk8.new w (zerW 32)
  have k0' := Lib.hid k0
  have hA1 := Lib.hid ((hA.below hB1).mono hB1.size)
  have hR1 := Lib.hid (hR.below hB1)
  have hS1 := Lib.hid (hS.below hB1)
  have hk' := Lib.hid hk
  have hkl' := Lib.hid hkl
  have hb' := Lib.hid hb
  obtain ⟨L, hLL⟩ : ∃ L, Hid (∀ _ : Unit, b.length = L) := ⟨_, Lib.hid fun _ => rfl⟩
  have hnL := noughts_lt L
  rw [hLL.out ()] at hL ⊢
  have hs1 : (w.alloc (.cells (u8s (zerW 32)).toArray 24)).heap.size = w.heap.size + 1 := by simp
  have hs1' := Lib.hid hs1
  have hTl : 1 < w.heap.size := World.block_lt_of_cell? w _ (hR 0 (by decide))
  clear hi32 hi8 hB1 k0 hR hS hk hkl hb hA hs1
  go_enter Tryd.func21, Tryd.ntmps21
  generalize hw1 : (w.alloc (.cells (u8s (zerW 32)).toArray 24)) = w1 at *
  have hml : (tailOf L).length = noughts L + 9 := tailOf_length L
  go_wp2_with (first
    | (at_builtin; refine wpList_app elByte w1 rfl _ _ rfl rfl (Own.nil w1 w1.heap.size _ _) rfl (m := L) (g := fun j => .int .u8 ((b[j]?.getD 0 : Nat) : Int)) (B2 := w1.heap.size) (by have := hA1.out; rw [Nat.mul_one, ← hLL.out ()]; exact this) (fun _ _ => rfl) (by unfold maxLen; omega) (by omega) (Nat.le_refl _) L (by omega) (u8s b) (by rw [Nat.mul_one, List.nil_append]; have := u8s_app (l := []) (m := b) (k := L) (hLL.out ()).symm; simpa [u8s] using this) ?_; intro A2 c2 w2 o2 _ hb2)
    | (go_at_call 31; refine (refTail_any L w2 (by omega)).mono ?_; rintro e w3 ⟨⟨A5, c5, rfl, o5⟩, hb3⟩; have o2b := o2.below hb3 (fun k hk => (o2.lt k hk).2))
    | (at_builtin; refine wpList_app elByte w3 rfl _ _ rfl rfl o2b rfl (m := noughts L + 9) (g := fun j => .int .u8 (((tailOf L)[j]?.getD 0 : Nat) : Int)) (B2 := w3.heap.size) (by have := o5.byt; rw [Nat.mul_one, ← hml]; exact this) (fun _ _ => rfl) (by unfold maxLen; omega) (by omega) (by have := hb2.size; have := hb3.size; omega) (L + (noughts L + 9)) (by omega) (u8s (b ++ tailOf L)) (u8s_app hml.symm) ?_; intro A6 c6 w4 o6 _ hb4))
  have hB4 : Below w1.heap.size w1 w4 := (hb2.trans (hb3.mono hb2.size)).trans hb4
  have hpad : b ++ tailOf L = padded b := by rw [← hLL.out ()]; rfl
  rw [hpad] at o6
  have hpn := padded_length b
  have hpl : (padded b).length = L + (noughts L + 9) := by rw [← hpad, List.length_append, hml, hLL.out ()]
  have hML := padded_lt hb'.out
  have hML' := Lib.hid hML
  have hdg : Hid (∀ _ : Unit, digest ks b = wordBytes (foldB ks (padded b) ((padded b).length / 64))) := Lib.hid fun _ => rfl
  generalize padded b = M at o6 hpn hpl hML' hdg
  obtain ⟨n, hn⟩ : ∃ n, L + (noughts L + 9) = n := ⟨_, rfl⟩
  rw [hn] at o6 hpl ⊢
  rw [hpl] at hpn hdg
  have hn64 : n ≤ 140737488355500 := by omega
  have hn1 : 0 < n := by omega
  have hpl' : Hid (∀ _ : Unit, M.length = n) := Lib.hid fun _ => hpl
  have hR4 := Lib.hid (hR1.out.below hB4)
  have hS4 := Lib.hid (hS1.out.below hB4)
  have k4 := Lib.hid (k0'.out.below hB4)
  have hB4' := Lib.hid (hB1'.out.trans (hB4.mono hB1'.out.size))
  obtain ⟨ga, rfl⟩ := o6.head hn1
  have o6' := Lib.hid (o6.base (B' := w.heap.size) hB1'.out.size)
  obtain ⟨S0, hst⟩ : ∃ m, Hid (∀ _ : Unit, startL = m) := ⟨_, Lib.hid fun _ => rfl⟩
  have hS0 : S0.length = 8 := by rw [← hst.out ()]; rfl
  have hszS : (u32s S0).toArray.size = 8 := by simp [u32s, hS0]
  have hszz : (u32s (zerW 8)).toArray.size = 8 := by simp [u32s, zerW]
  have cR : Hid (Calls Tryd.prog 32 #[] w4 fun e w' => e = .returned (.agg (u32s S0).toArray) ∧ Below w4.heap.size w4 w') := Lib.hid (by
    rw [← hst.out ()]; exact refStart_any w4 (fun wr hb => hS4.out.below hb))
  clear hnL hml hn hL o6 o2 o2b o5 hb2 hb3 hb4 hB4 hpl hML hR1 hS1 hA1 hB1' k0' hw1 hz8 hpad hS0 hLL hs1' hb'
  have hz8 := zero8
  go_wp2_with (first
    | (go_at_call 32; refine cR.out.mono ?_; rintro e w5 ⟨rfl, hb5⟩; skip)
    | (refine wpList_store_row rfl 61 _ _ rfl w5.heap.size (u32s S0).toArray rfl rfl 61 _ (heap_alloc_new w5 _) (by rw [hszS]; exact hi8'.out) (by rw [hszS, hszz]) (by simp [u32s, Value.oneCell']) ?_))
  have hg1 : ga < w4.heap.size := (o6'.out.lt ga rfl).2
  have hg5 : ga ≠ w5.heap.size := by have := hb5.size; omega
  have hDS : DS w ((w5.alloc (.cells (u32s (zerW 8)).toArray 61)).setRow w5.heap.size (u32s S0).toArray) w5.heap.size ga n c6 S0 M :=
    DS.put (F := zerW 8) ⟨(hB4'.out.trans (hb5.mono hB4'.out.size)).alloc (by have := hB4'.out.size; have := hb5.size; omega) _, (k4.out.below hb5).alloc _, Blk32.new w5 _ _, (o6'.out.below hb5 (fun k hk => (o6'.out.lt k hk).2)).alloc _, by have := k4.out.lt; have := hb5.size; omega, hg5⟩
  have hb54 : Below w4.heap.size w4 ((w5.alloc (.cells (u32s (zerW 8)).toArray 61)).setRow w5.heap.size (u32s S0).toArray) := setRow_belS (hb5.alloc hb5.size _) hb5.size _
  have hR6 := Lib.hid (hR4.out.below hb54)
  generalize ((w5.alloc (.cells (u32s (zerW 8)).toArray 61)).setRow w5.heap.size (u32s S0).toArray) = w6 at hDS hR6 ⊢
  generalize w5.heap.size = g4 at hDS ⊢
  have hcn : n ≤ c6 := o6'.out.le.1
  rw [← hst.out ()] at hDS
  have hDS' := Lib.hid hDS
  have hRB : Hid (∀ W, Below w.heap.size w W → DS w W g4 ga n c6 startL M → True) := Lib.hid fun _ _ _ => trivial
  clear hg1 hg5 hDS hb54 hb5 hR4 hS4 k4 hB4' o6' cR hszS hRB
  go_loopw [5] (fun i wr => ∃ k p : Nat, i = .int .i64 p ∧ p ≤ n ∧ Hid (∀ _ : Unit, p = 64 * k) ∧ Hid (DS w wr g4 ga n c6 (foldB ks M k) M) ∧ Hid (RTab wr ks)) (fun i _ => n - (intOf i).toNat)
  case atStart => exact ⟨0, 0, rfl, by omega, Lib.hid fun _ => rfl, hDS', hR6⟩
  case round =>
    clear hDS' hR6
    obtain ⟨k, p, rfl, hp, hpk, hD, hR⟩ := hrel
    by_cases hlt : p + 64 ≤ n
    · have hFn := foldB_length ks M k
      have hFl := foldB_lt ks M k
      have hF1 : Hid (∀ _ : Unit, foldB ks M (k + 1) = Sha.blockL ks (foldB ks M k) (blk M k)) := Lib.hid fun _ => rfl
      have hbk : Byt wr.drew wr.drew.heap.size (some ⟨ga, p, none⟩) (blk M k) := by
        have := hD.out.drew.block (k := k) (hpl'.out ()) (by have := hpk.out (); omega)
        rw [← hpk.out ()] at this
        exact this
      have hbn : (blk M k).length = 64 := blk_length (by have := hpk.out (); have := hpl'.out (); omega)
      have hcall := refBlock_any (foldB ks M k) (blk M k) ks (some ⟨ga, p, none⟩) (c6 - p) wr.drew hFn hFl (blk_lt hML'.out k) hbn hbk hk'.out hkl'.out (fun wx hb => (RTab.below (w := wr.drew) hR.out hb))
      rw [← hF1.out ()] at hcall
      have hcall' := Lib.hid hcall
      have hF2n := foldB_length ks M (k + 1)
      obtain ⟨F2, hFk⟩ : ∃ F2, Hid (∀ _ : Unit, foldB ks M (k + 1) = F2) := ⟨_, Lib.hid fun _ => rfl⟩
      rw [hFk.out ()] at hcall' hF2n
      generalize foldB ks M k = F at hD hcall' hFn
      have hsF : (u32s F).toArray.size = 8 := by simp [u32s, hFn]
      have hsF2 : (u32s F2).toArray.size = 8 := by simp [u32s, hF2n]
      have hcut := cut_mid (ga := ga) hlt hcn
      have hwp : IntKind.i64.wrap ((p : Int) + 64) = (p : Int) + 64 := by unfold IntKind.wrap; simp [IntKind.signed, IntKind.bits]; omega
      clear hFn hFl hbk hbn hcall hF2n
      go_upto_region 8 with fail
      refine wp_region_any (by kernel_rfl) ?_
      change wpAny _ _ _ _ _ _ _ (World.drew _)
      refine wpAny_take (i := 1) (v := .slice (some ⟨ga, 0, none⟩) n c6) rfl (by kernel_rfl) (by kernel_rfl) (by kernel_rfl) (fun _ _ _ h => h) (Or.inl ⟨by rfl, by intro w; go_simp⟩) ?_
      refine wpAny_take (i := 2) (v := .int .i64 (p : Int)) rfl (by kernel_rfl) (by kernel_rfl) (by kernel_rfl) (fun _ _ _ h => h) (Or.inl ⟨by rfl, by intro w; go_simp⟩) ?_
      refine wpAny_take (i := 3) (v := .int .i64 (p : Int)) rfl (by kernel_rfl) (by kernel_rfl) (by kernel_rfl) (fun _ _ _ h => h) (Or.inl ⟨by rfl, by intro w; go_simp⟩) ?_
      refine wpAny_take (i := 4) (v := .int .i64 ((p : Int) + 64)) rfl (by kernel_rfl) (by kernel_rfl) (by kernel_rfl) (fun _ _ _ h => h) (Or.inl ⟨by rfl, by intro w; go_simp⟩) ?_
      refine wpAny_take (i := 5) (v := .slice (some ⟨ga, p, none⟩) 64 (c6 - p)) rfl (by kernel_rfl) (by kernel_rfl) (by kernel_rfl) (fun _ _ _ h => h) (Or.inl ⟨by rfl, by intro w; go_simp⟩) ?_
      simp only [Act.put, List.setIfInBounds_toArray, List.set_cons_zero, List.set_cons_succ]
      refine wpAny_ready (rs := [0]) (by kernel_rfl) (by simp) ?_
      refine AllReady.cons rfl (fun K hK => ?_) AllReady.nil
      refine step_load_row rfl 61 _ rfl g4 rfl 61 (u32s F).toArray (0, 0) _ hD.out.drew.st Tryd.underlying61 rfl (by rw [hsF]; exact hi8'.out) ?_
      refine hK _ _ ?_
      clear hK K
      refine wpAny_ready (rs := [6]) (by kernel_rfl) (by simp) ?_
      refine AllReady.cons rfl (fun K hK => ?_) AllReady.nil
      go_simp
      go_wp2_with (go_at_call 33; refine hcall'.out.mono ?_; rintro e w9 ⟨rfl, hb9⟩; skip)
      have hD9 := Lib.hid (hD.out.drew.keep hb9)
      have hR9 := Lib.hid (RTab.below (w := wr.drew) hR.out hb9)
      clear hb9
      refine wpAny_ready (rs := [7]) (by kernel_rfl) (by simp) ?_
      refine AllReady.cons rfl (fun K hK => ?_) AllReady.nil
      refine step_store_row rfl 61 _ _ rfl g4 (u32s F2).toArray rfl rfl 61 (u32s F).toArray hD9.out.st (by rw [hsF2]; exact hi8'.out) (by rw [hsF2, hsF]) (by simp [u32s, Value.oneCell']) ?_
      refine hK _ _ ?_
      clear hK K
      refine wpAny_done (by kernel_rfl) ?_ _
      have hD10 := Lib.hid (hD9.out.put (F' := F2))
      have hR10 : Hid (RTab (w9.setRow g4 (u32s F2).toArray) ks) := Lib.hid fun t ht => (World.cell?_of_block (a := ⟨1, t, none⟩) (setRow_other w9 g4 1 _ (by have := hD9.out.h4; omega))).trans (hR9.out t ht)
      clear hD9 hR9
      go_wp2_with fail
      go_roundw
      case rel => exact ⟨k + 1, p + 64, by go_num, by omega, Lib.hid fun _ => by have := hpk.out (); omega, by rw [hFk.out ()]; exact hD10, hR10⟩
      case measure => simp [intOf]; omega
    · have hkn : Hid (∀ _ : Unit, k = n / 64) := Lib.hid fun _ => by have := hpk.out (); omega
      rw [hkn.out ()] at hD
      obtain ⟨F, hF⟩ : ∃ F, Hid (∀ _ : Unit, foldB ks M (n / 64) = F) := ⟨_, Lib.hid fun _ => rfl⟩
      have hFn := foldB_length ks M (n / 64)
      have hFl := foldB_lt ks M (n / 64)
      rw [hF.out ()] at hD hFn hFl
      have hFn' := Lib.hid hFn
      have hFl' := Lib.hid hFl
      have hL0 : DL w (wr.alloc (.cells (u8s (zerW 32)).toArray 24)) g4 wr.heap.size F 0 :=
        ⟨hD.out.bel.alloc hD.out.bel.size _, hD.out.k0.alloc _, hD.out.st.alloc _, Blk8.new wr _, Nat.ne_of_lt hD.out.st.lt, hD.out.k0.lt⟩
      have hL0' := Lib.hid hL0
      clear hFn hFl hL0 hD hR hkn hpk
      obtain ⟨wo, rfl⟩ : ∃ wo : World, wo = wr := ⟨_, rfl⟩
      go_wp2_with fail
      generalize (wo.alloc (.cells (u8s (zerW 32)).toArray 24)) = w8 at hL0' ⊢
      generalize wo.heap.size = g6 at hL0' ⊢
      go_loopw [7] (fun i wr => ∃ j : Nat, j ≤ 32 ∧ i = .int .i64 j ∧ Hid (DL w wr g4 g6 F j)) (fun i _ => 32 - (intOf i).toNat)
      case atStart => exact ⟨0, by omega, rfl, hL0'⟩
      case round =>
        clear hL0'
        obtain ⟨i, hi, rfl, hD⟩ := hrel
        by_cases hlt2 : i < 32
        · have hx : ∃ x, Hid (∀ _ : Unit, F[i / 4]?.getD 0 = x) := ⟨_, Lib.hid fun _ => rfl⟩
          obtain ⟨x, hx⟩ := hx
          have hxl : x < 4294967296 := by rw [← hx.out ()]; exact getD_lt (by decide) hFl'.out _
          have q1 := hD.out.st.cell (k := i / 4) (by rw [hFn'.out]; omega)
          rw [hx.out ()] at q1
          have q2 := hD.out.k1.cell (k := i) (by rw [bytesTo_length F (by omega)]; exact hlt2)
          have qf := hD.out.k1.frozen i
          obtain ⟨q, hq⟩ : ∃ q, Hid (∀ _ : Unit, i / 4 = q) := ⟨_, Lib.hid fun _ => rfl⟩
          have e0 : (i : Int) / 4 = (q : Int) := by have := hq.out (); omega
          have e0t : Int.tdiv (i : Int) 4 = (q : Int) := by rw [Int.tdiv_eq_ediv_of_nonneg (by omega)]; exact e0
          have hq8 : (q : Int) < 8 := by omega
          have hq0 : (0 : Int) ≤ (q : Int) := by omega
          rw [hq.out ()] at q1
          obtain ⟨s, hs⟩ : ∃ s, Hid (∀ _ : Unit, 8 * (3 - i % 4) = s) := ⟨_, Lib.hid fun _ => rfl⟩
          have es : 8 * (3 - (i : Int) % 4) = (s : Int) := by have := hs.out (); omega
          have est : 8 * (3 - Int.tmod (i : Int) 4) = (s : Int) := by rw [Int.tmod_eq_emod_of_nonneg (by omega)]; exact es
          have hs32 : s ≤ 32 := by have := hs.out (); omega
          have hp0 : (0 : Int) < (pw2 s : Int) := by have : 0 < pw2 s := Nat.two_pow_pos s; omega
          have hp1 : (pw2 s : Int) ≠ 0 := by omega
          obtain ⟨y, hy⟩ : ∃ y, Hid (∀ _ : Unit, x / 256 ^ (3 - i % 4) % 256 = y) := ⟨_, Lib.hid fun _ => rfl⟩
          have hpw : pw2 s = 256 ^ (3 - i % 4) := by
            rw [← hs.out ()]; exact pow_turn _
          obtain ⟨d, hd⟩ : ∃ d, Hid (∀ _ : Unit, x / pw2 s = d) := ⟨_, Lib.hid fun _ => rfl⟩
          have ed : (x : Int) / (pw2 s : Int) = (d : Int) := by rw [← hd.out ()]; simp
          have hdl : d < 4294967296 := by rw [← hd.out ()]; exact Nat.lt_of_le_of_lt (Nat.div_le_self _ _) hxl
          have ey : (d : Int) % 256 = (y : Int) := by rw [← hy.out (), ← hpw, hd.out ()]; omega
          have hy256 : y < 256 := by omega
          have hD2 := hD.out.set hlt2 (x := y) (by rw [hx.out (), hy.out ()])
          have hD2' := Lib.hid hD2
          clear hD hD2 hpw
          go_wp2_with (go_at_call 34; refine (part2_any s _ hs32).mono ?_; rintro e w' ⟨rfl, rfl⟩)
          go_roundw
          case rel => exact ⟨i + 1, by omega, by go_num, hD2'⟩
          case measure => simp [intOf]; omega
        · rw [show i = 32 by omega] at hD
          rw [show (i : Int) = (32 : Int) by omega]
          have hk0 := hD.out.k0
          have hk1 := hD.out.k1
          rw [bytesTo_all] at hk1
          have hk0' := Lib.hid hk0
          have hk1' := Lib.hid hk1
          have hs32 : (u8s (wordBytes F)).toArray.size = 32 := by simp [u8s, wordBytes_length]
          have hz32 : (u8s (zerW 32)).toArray.size = 32 := by simp [u8s, zerW]
          have hone : (u8s (wordBytes F)).toArray.all (·.oneCell') = true := all_oneCell_toArray u8s_one
          clear hk0 hk1
          go_wp2_with (first
            | (refine wpList_load_row rfl 24 _ rfl g6 rfl 24 (u8s (wordBytes F)).toArray (0, 0) _ hk1'.out Tryd.underlying24 rfl (by rw [hs32]; exact hi32'.out) ?_)
            | (refine wpList_store_row rfl 24 _ _ rfl w.heap.size (u8s (wordBytes F)).toArray rfl rfl 24 _ hk0'.out (by rw [hs32]; exact hi32'.out) (by rw [hs32, hz32]) hone ?_))
          have hset := setRow_heap wr w.heap.size _ (u8s (wordBytes F)).toArray 24 _ hk0'.out
          refine bodyPost_ret (results_cell_row rfl _ _ w.heap.size 24 (u8s (wordBytes F)).toArray (0, 0) _ rfl hset Tryd.underlying24 rfl (by rw [hs32]; exact hi32'.out)) rfl ⟨?_, setRow_belS hD.out.bel (Nat.le_refl _) _⟩
          rw [hdg.out (), hF.out ()]
end Go.Proofs.YtlolnpilpdkbkaaDoor

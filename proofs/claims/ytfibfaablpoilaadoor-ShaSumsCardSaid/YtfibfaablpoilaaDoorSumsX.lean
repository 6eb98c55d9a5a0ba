/- ShaSums: the law's walk. -/
import Derived.Test.YtfibfaablpoilaaDoorSumsW
namespace Go.Proofs.YtfibfaablpoilaaDoor
open Go.RowKit
set_option linter.unusedSimpArgs false

/-- What stands while the digests are compared. -/
structure SQ (w wr : World) (b : List Nat) (A : Option Addr) (ga L cc : Nat) (m : List Nat) : Prop where
  bel : Below w.heap.size w wr
  byt : Byt wr w.heap.size A b
  own : Own wr w.heap.size 5 1 (some ⟨ga, 0, none⟩) (L + 80) cc (u8s m)
theorem SQ.keep {w wr w' : World} {b m : List Nat} {A : Option Addr} {ga L cc : Nat} (h : SQ w wr b A ga L cc m) (hb : Below wr.heap.size wr w') : SQ w w' b A ga L cc m :=
  ⟨h.bel.trans (hb.mono h.bel.size), (h.byt.below (hb.mono h.bel.size)), h.own.below hb (fun k hk => (h.own.lt k hk).2)⟩
theorem SQ.first {w wr : World} {b m l : List Nat} {A : Option Addr} {ga L cc : Nat} (h : SQ w wr b A ga L cc (m ++ l)) : Byt wr wr.heap.size (some ⟨ga, 0, none⟩) m := by
  have := h.own.byt
  have h2 := Rd.take this (m := m.length) (by simp)
  exact h2.congr fun j hj => by rw [List.getElem?_append_left hj]
theorem SQ.set {w wr : World} {b m : List Nat} {A : Option Addr} {ga L cc : Nat} (h : SQ w wr b A ga L cc m) (k x : Nat) : SQ w (wr.setCell ⟨ga, k, none⟩ (.int .u8 (x : Int))) b A ga L cc (m.set k x) where
  bel := h.bel.setCell (p := ⟨ga, k, none⟩) (h.own.lt ga rfl).1 _
  byt := h.byt.setCell (p := ⟨ga, k, none⟩) (h.own.lt ga rfl).1 _
  own := by
    have := h.own.set k (.int .u8 (x : Int))
    have e : (u8s m).set k (.int .u8 (x : Int)) = u8s (m.set k x) := by simp [u8s, List.map_set]
    rw [e] at this
    exact this
theorem SQ.drewN {w wr : World} {b m : List Nat} {A : Option Addr} {ga L cc : Nat} (h : SQ w wr b A ga L cc m) (n : Nat) : SQ w (wr.drewN n) b A ga L cc m := ⟨below_drewN h.bel n, h.byt, h.own⟩
theorem xor_one {x : Nat} (h : x < 256) : bits .xor .u8 (x : Int) 1 = ((x ^^^ 1 : Nat) : Int) := u8_xor_nat x 1 h (by decide)

set_option maxRecDepth 100000 in
set_option maxHeartbeats 4000000 in
theorem sums_any (w : World) (ks b : List Nat) (A : Option Addr) (c : Nat) (hT : Tabs w ks) (hk : ks.length = 64) (hkl : ∀ x ∈ ks, x < 4294967296) (hb : ∀ x ∈ b, x < 256) (hA : Byt w w.heap.size A b) (hL : b.length ≤ 140737488355328) :
    Calls Tryd.prog 4 #[.slice A b.length c] w fun e w' => e = .returned (.bool true) ∧ Below w.heap.size w w' := by
  have hz := zeroK
  have hi32 : (Tryd.prog.info? 34).map (·.size) = some 32 := by kernel_rfl
  have hi32' := Lib.hid hi32
  obtain ⟨D, hD⟩ : ∃ D, Hid (∀ _ : Unit, digest ks b = D) := ⟨_, Lib.hid fun _ => rfl⟩
  have hDn : D.length = 32 := by rw [← hD.out ()]; exact digest_length _ _
  have hDn' := Lib.hid hDn
  have hs32 : (u8s D).toArray.size = 32 := by simp [u8s, hDn]
  have hz32 : (u8s (zeros 32)).toArray.size = 32 := by simp [u8s, zeros]
  have hone : ∀ D : List Nat, (u8s D).toArray.all (·.oneCell') = true := fun D => all_oneCell_toArray u8s_one
  have hone' := Lib.hid hone
  obtain ⟨L, hLL⟩ : ∃ L, Hid (∀ _ : Unit, b.length = L) := ⟨_, Lib.hid fun _ => rfl⟩
  have hT' := Lib.hid hT
  have hk' := Lib.hid hk
  have hkl' := Lib.hid hkl
  have hb' := Lib.hid hb
  have hA' := Lib.hid hA
  have c1 : Hid (Calls Tryd.prog 12 #[.slice A L c] w fun e w' => e = .returned (.agg (u8s D).toArray) ∧ Below w.heap.size w w') := Lib.hid (by
    have := refSum_any w ks b A c hT.r hT.b hk hkl hb hA hL
    rw [hLL.out (), hD.out ()] at this
    exact this)
  rw [hLL.out ()] at hL ⊢
  have q1 : ∀ W, (binOp .neq 34 (.agg (u8s D).toArray) (.agg (u8s D).toArray)).run Tryd.prog W = .ok (.bool false) W := fun W => by rw [neK hDn hDn]; simp
  clear hi32 hone hDn hT hk hkl hb hA
  go_enter Tryd.func4, Tryd.ntmps4
  go_wp2_with (first
    | (go_at_call 12; refine c1.out.mono ?_; rintro e w1 ⟨rfl, hb1⟩; skip)
    | (refine wpList_store_row rfl 34 _ _ rfl w1.heap.size (u8s D).toArray rfl rfl 34 _ (heap_alloc_new w1 _) (by rw [hs32]; exact hi32'.out) (by rw [hs32, hz32]) (hone'.out D) ?_))
  obtain ⟨k3, hb2⟩ := key_new w1 D
  have hB2 : Below w.heap.size w _ := hb1.trans (hb2.mono hb1.size)
  generalize ((w1.alloc (.cells (u8s (zeros 32)).toArray 34)).setRow w1.heap.size (u8s D).toArray) = w2 at k3 hb2 hB2 ⊢
  generalize w1.heap.size = g3 at k3 hb2 ⊢
  have hA2 := (hA'.out.below hB2).mono hB2.size
  have hlent := lent_any w2 b A c hA2 (by rw [hLL.out ()]; exact hL)
  rw [hLL.out ()] at hlent
  refine hlent.mono ?_
  rintro e w3 ⟨⟨ga, cc, rfl, o3⟩, hb3⟩
  have hle := o3.le
  have hcL : L + 80 ≤ cc := hle.1
  have hcc : cc ≤ 9223372036854775807 := by have := hle.2; unfold maxLen at this; omega
  have k3' := Lib.hid (k3.below hb3)
  have hB3 := hB2.trans (hb3.mono hB2.size)
  have hS3 : SQ w w3 b A ga L cc (b ++ List.replicate 80 165) := ⟨hB3, hA'.out.below hB3, o3.base hB2.size⟩
  have hS3' := Lib.hid hS3
  have c2 : Hid (∀ (W : World) (m l : List Nat), SQ w W b A ga L cc (m ++ l) → m.length = L → (∀ x ∈ m, x < 256) → Calls Tryd.prog 14 #[.slice (some ⟨ga, 0, none⟩) L cc] W fun e w' => e = .returned (.agg (u8s (digest ks m)).toArray) ∧ Below W.heap.size W w') := Lib.hid fun W m l h hm hml => by
    have := shaSum_any W ks m (some ⟨ga, 0, none⟩) cc (hT'.out.below h.bel).t hk'.out hkl'.out hml h.first (by omega) hcc
    rw [hm] at this
    exact this
  have hDD := hD.out ()
  clear hS3 hB3 o3 hle hb3 k3 hA2 hlent hB2 hb2 hb1 c1
  go_wp2_with (first
    | (go_at_call 14; refine (c2.out w3 b _ hS3'.out (hLL.out ()) hb'.out).mono ?_; rw [hDD]; rintro e w4 ⟨rfl, hb4⟩; skip)
    | (refine wpList_store_row rfl 34 _ _ rfl w4.heap.size (u8s D).toArray rfl rfl 34 _ (heap_alloc_new w4 _) (by rw [hs32]; exact hi32'.out) (by rw [hs32, hz32]) (hone'.out D) ?_))
  obtain ⟨k5, hb6⟩ := key_new w4 D
  have hb6' := hb4.trans (hb6.mono hb4.size)
  generalize ((w4.alloc (.cells (u8s (zeros 32)).toArray 34)).setRow w4.heap.size (u8s D).toArray) = w6 at k5 hb6 hb6' ⊢
  generalize w4.heap.size = g5 at k5 hb6 ⊢
  have k3b := Lib.hid (k3'.out.below hb6')
  have hS6 := Lib.hid (hS3'.out.keep hb6')
  have k5' := Lib.hid k5
  clear hb6 hb6' k5 hS3' k3' hb4
  refine (c2.out w6 b _ hS6.out (hLL.out ()) hb'.out).mono ?_
  rw [hDD]
  rintro e w7 ⟨rfl, hb7⟩
  go_wp2_with (first
    | (refine wpList_store_row rfl 34 _ _ rfl w7.heap.size (u8s D).toArray rfl rfl 34 _ (heap_alloc_new w7 _) (by rw [hs32]; exact hi32'.out) (by rw [hs32, hz32]) (hone'.out D) ?_; obtain ⟨k6, hb8⟩ := key_new w7 D; have hb78 := hb7.trans (hb8.mono hb7.size); clear hb8; generalize ((w7.alloc (.cells (u8s (zeros 32)).toArray 34)).setRow w7.heap.size (u8s D).toArray) = w8 at k6 hb78 ⊢; generalize w7.heap.size = g6 at k6 ⊢)
    | (refine wpList_load_row rfl 34 _ rfl g5 rfl 34 (u8s D).toArray (0, 0) _ (k5'.out.below hb78) Tryd.underlying34 rfl (by rw [hs32]; exact hi32'.out) ?_)
    | (refine wpList_load_row rfl 34 _ rfl g3 rfl 34 (u8s D).toArray (0, 0) _ (k3b.out.below hb78) Tryd.underlying34 rfl (by rw [hs32]; exact hi32'.out) ?_)
    | (refine wpList_load_row_g (by rfl) 34 _ rfl g6 rfl 34 (u8s D).toArray (0, 0) _ k6 Tryd.underlying34 rfl (by rw [hs32]; exact hi32'.out) ?_)
    | (refine wpList_load_row_g (by rfl) 34 _ rfl g3 rfl 34 (u8s D).toArray (0, 0) _ (k3b.out.below hb78) Tryd.underlying34 rfl (by rw [hs32]; exact hi32'.out) ?_))
  have hS8 := Lib.hid (hS6.out.keep hb78)
  have hleft := left_any w8 b A c cc ga (hS8.out.byt.mono hS8.out.bel.size) hS8.out.own.byt (by rw [hLL.out ()]; exact hL) (by rw [hLL.out ()]; exact hcL)
  rw [hLL.out ()] at hleft
  refine hleft.mono ?_
  rintro e w9 ⟨rfl, m9, rfl⟩
  have hS9 := Lib.hid (hS8.out.drewN m9)
  clear hS8 hleft hb78 hb7 k6 k5' k3b hS6 q1
  go_wp2_with fail
  generalize w8.drewN m9 = w10 at hS9 ⊢
  go_loopw [7] (fun i wr => ∃ k : Nat, k ≤ L ∧ i = .int .i64 k ∧ Hid (SQ w wr b A ga L cc (flipTo b k ++ List.replicate 80 165))) (fun i _ => L - (intOf i).toNat)
  case atStart => exact ⟨0, by omega, rfl, by rw [flipTo_zero]; exact hS9⟩
  case round =>
    clear hS9
    obtain ⟨k, hkL, rfl, hS⟩ := hrel
    by_cases hlt : k < L
    · have hkb : k < b.length := by rw [hLL.out ()]; exact hlt
      have hfl : (flipTo b k).length = b.length := flipTo_length b k
      have q1 := hS.out.own.cell k (by omega)
      rw [u8s_get _ k (by rw [List.length_append, hfl]; omega), List.getElem?_append_left (by omega), flipTo_get hkb] at q1
      have qf := hS.out.own.frozen k
      have hset := hS.out.set k (b[k]?.getD 0 ^^^ 1)
      rw [List.set_append_left _ _ (by omega), flipTo_set hkb] at hset
      obtain ⟨x, hx⟩ : ∃ x, Hid (∀ _ : Unit, b[k]?.getD 0 = x) := ⟨_, Lib.hid fun _ => rfl⟩
      have hx256 : x < 256 := by rw [← hx.out ()]; exact getD_lt (by decide) hb'.out k
      rw [hx.out ()] at q1 hset
      have e1 := xor_one hx256
      obtain ⟨y, hy⟩ : ∃ y, Hid (∀ _ : Unit, x ^^^ 1 = y) := ⟨_, Lib.hid fun _ => rfl⟩
      rw [hy.out ()] at e1 hset
      have hset' := Lib.hid hset
      clear hset hS hkb hfl
      go_wp2_with fail
      go_roundw
      case rel => exact ⟨k + 1, by omega, by go_num, hset'⟩
      case measure => simp [intOf]; omega
    · rw [show k = L by omega] at hS
      rw [show (k : Int) = (L : Int) by omega]
      obtain ⟨wo, rfl⟩ : ∃ wo : World, wo = wr := ⟨_, rfl⟩
      have hml : (flipTo b L).length = L := by rw [flipTo_length, hLL.out ()]
      have hmb := flipTo_lt hb'.out L
      generalize flipTo b L = m at hS hml hmb
      have hTo := hT'.out.below hS.out.bel
      have hrs := refSum_any wo ks m (some ⟨ga, 0, none⟩) cc hTo.r hTo.b hk'.out hkl'.out hmb hS.out.first (by omega)
      obtain ⟨D2, hD2⟩ : ∃ D2, Hid (∀ _ : Unit, digest ks m = D2) := ⟨_, Lib.hid fun _ => rfl⟩
      have hD2n : D2.length = 32 := by rw [← hD2.out ()]; exact digest_length _ _
      rw [hml, hD2.out ()] at hrs
      have hrs' := Lib.hid hrs
      have hs2 : (u8s D2).toArray.size = 32 := by simp [u8s, hD2n]
      have hs2l : (u8s D2).length = 32 := by simp [u8s, hD2n]
      have q2 : ∀ W, (binOp .eql 34 (.agg (u8s D2).toArray) (.agg (u8s D2).toArray)).run Tryd.prog W = .ok (.bool true) W := fun W => by rw [eqK hD2n hD2n]; simp
      clear hTo hrs hD2n
      go_wp2_with (first
        | (go_at_call 12; refine hrs'.out.mono ?_; rintro e wp ⟨rfl, hbp⟩; skip)
        | (refine wpList_store_row rfl 34 _ _ rfl wp.heap.size (u8s D2).toArray rfl rfl 34 _ (heap_alloc_new wp _) (by rw [hs2]; exact hi32'.out) (by rw [hs2, hz32]) (hone'.out D2) ?_; obtain ⟨k8, hb8⟩ := key_new wp D2; have hb9 := hbp.trans (hb8.mono hbp.size); clear hb8; generalize ((wp.alloc (.cells (u8s (zeros 32)).toArray 34)).setRow wp.heap.size (u8s D2).toArray) = wq at k8 hb9 ⊢; generalize wp.heap.size = g8 at k8 ⊢))
      have hSq := Lib.hid (hS.out.keep hb9)
      clear hb9 hS hbp
      have k8b : Blk8 wq g8 D2 := k8
      have rg : ∀ W : World, Blk8 W g8 D2 → W.rangeAt g8 0 (u8s D2) := fun W h j v hv => by
        rw [Nat.zero_add, cell_of_row _ _ _ _ _ _ h]
        simpa using hv
      have rg' := Lib.hid rg
      clear rg
      refine wp_region_held (S := fun W => Blk8 W g8 D2) (by kernel_rfl) ?_
      change wpAnyH _ _ _ _ _ _ _ _ (World.drew _)
      have hd : Blk8 wq.drew g8 D2 := k8b
      refine wpAnyH_take (i := 0) (v := .slice (some ⟨ga, 0, none⟩) L cc) rfl (by kernel_rfl) (by kernel_rfl) (by kernel_rfl) (fun _ _ _ h => h) (Or.inl ⟨by rfl, by intro W _; go_simp⟩) hd ?_
      refine wpAnyH_take (i := 2) rfl (by kernel_rfl) (by kernel_rfl) (by kernel_rfl) (fun _ _ _ h => h) (yieldsIf_load_mid (by rfl) 34 _ rfl g8 0 rfl (u8s D2) _ (fun _ h => rg'.out _ h) Tryd.underlying34 rfl (by rw [hs2l]; exact hi32'.out)) hd ?_
      simp only [Act.put, List.setIfInBounds_toArray, List.set_cons_zero, List.set_cons_succ]
      refine wpAnyH_ready (rs := [1]) (by kernel_rfl) (by simp) ?_
      refine AllReadyH.cons rfl (fun K hK => ?_) AllReadyH.nil
      go_simp
      have hcS := c2.out wq.drew m _ (hSq.out.drewN 1) hml hmb
      rw [hD2.out ()] at hcS
      go_wp2_with (go_at_call 14; refine hcS.mono ?_; rintro e wz ⟨rfl, hbz⟩; skip)
      have hz8 : Blk8 wz g8 D2 := hd.below hbz
      have hBz : Below w.heap.size w wz := (hSq.out.drewN 1).bel.trans (hbz.mono (hSq.out.drewN 1).bel.size)
      have hBz' := Lib.hid hBz
      clear hBz hbz hcS
      refine hK.out _ _ hz8 (fun _ => ?_)
      clear hK K
      refine wpAnyH_ready (rs := [3]) (by kernel_rfl) (by simp) ?_
      refine AllReadyH.cons rfl (fun K hK => ?_) AllReadyH.nil
      go_simp
      refine hK.out _ _ hz8 (fun _ => ?_)
      clear hK K
      refine wpAnyH_ready (rs := [4]) (by kernel_rfl) (by simp) ?_
      refine AllReadyH.cons rfl (fun K hK => ?_) AllReadyH.nil
      go_simp
      refine hK.out _ _ hz8 (fun _ => ?_)
      clear hK K
      refine wpAnyH_done (by kernel_rfl) ?_ _
      go_wp2_with fail
      go_ret
      exact ⟨rfl, hBz'.out⟩
end Go.Proofs.YtfibfaablpoilaaDoor

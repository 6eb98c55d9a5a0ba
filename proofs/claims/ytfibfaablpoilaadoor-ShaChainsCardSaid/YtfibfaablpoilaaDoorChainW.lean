/- ShaChains: the law's walk. -/
import Derived.Test.YtfibfaablpoilaaDoorLivesW
namespace Go.Proofs.YtfibfaablpoilaaDoor
open Go.RowKit
set_option linter.unusedSimpArgs false

/-- What stands while blocks are taken. -/
structure DC (w wr : World) (b : List Nat) (A : Option Addr) (g4 ga n c : Nat) (F M : List Nat) : Prop where
  bel : Below w.heap.size w wr
  byt : Byt wr w.heap.size A b
  st : Blk32 wr g4 27 F
  all : Own wr w.heap.size 5 1 (some ⟨ga, 0, none⟩) n c (u8s M)
  h4 : w.heap.size ≤ g4
  ha : ga ≠ g4
theorem DC.keep {w wr w' : World} {b F M : List Nat} {A : Option Addr} {g4 ga n c : Nat} (h : DC w wr b A g4 ga n c F M) (hb : Below wr.heap.size wr w') : DC w w' b A g4 ga n c F M :=
  ⟨h.bel.trans (hb.mono h.bel.size), h.byt.below (hb.mono h.bel.size), h.st.below hb h.st.lt, h.all.below hb (fun k hk => (h.all.lt k hk).2), h.h4, h.ha⟩
theorem DC.put {w wr : World} {b F F' M : List Nat} {A : Option Addr} {g4 ga n c : Nat} (h : DC w wr b A g4 ga n c F M) : DC w (wr.setRow g4 (u32s F').toArray) b A g4 ga n c F' M where
  bel := setRow_below h.bel h.h4 _
  byt := h.byt.below (setRow_below (Below.refl w.heap.size wr) h.h4 _)
  st := setRow_heap wr g4 _ _ _ _ h.st
  all := h.all.kept (row := some g4) ⟨rfl, rfl, rfl, by simp, fun k hk hne => setRow_other wr g4 k _ (fun e => hne (by rw [e]))⟩ (fun k hk he => h.ha (by
    have h1 : ga = k := by injection hk
    have h2 : g4 = k := by injection he
    omega))
  h4 := h.h4
  ha := h.ha
/-- .. and while one block is filled. -/
structure DD (w wr : World) (b : List Nat) (A : Option Addr) (g4 ga n c : Nat) (F M : List Nat) (gb : Nat) (B : List Nat) : Prop where
  dc : DC w wr b A g4 ga n c F M
  blk : wr.heap[gb]? = some (.cells (u8row B) 28 (0, 0))
  h5 : w.heap.size ≤ gb
  n4 : g4 ≠ gb
  na : ga ≠ gb
theorem DD.set {w wr : World} {b F M B : List Nat} {A : Option Addr} {g4 ga n c gb : Nat} (h : DD w wr b A g4 ga n c F M gb B) (k x : Nat) : DD w (wr.setCell ⟨gb, k, none⟩ (.int .u8 (x : Int))) b A g4 ga n c F M gb (B.set k x) where
  dc := ⟨h.dc.bel.setCell (p := ⟨gb, k, none⟩) h.h5 _, h.dc.byt.setCell (p := ⟨gb, k, none⟩) h.h5 _, h.dc.st.far (p := ⟨gb, k, none⟩) h.n4 _,
    h.dc.all.kept (row := some gb) ⟨rfl, rfl, rfl, by simp, fun k' hk hne => heap_setCell_other wr ⟨gb, k, none⟩ k' _ (fun e => hne (by rw [e]))⟩ (fun k hk he => h.na (by
      have h1 : ga = k := by injection hk
      have h2 : gb = k := by injection he
      omega)), h.dc.h4, h.dc.ha⟩
  blk := by
    have := heap_setCell_same wr gb k _ _ (.int .u8 (x : Int)) h.blk
    rw [u8row_set] at this
    exact this
  h5 := h.h5
  n4 := h.n4
  na := h.na

set_option maxRecDepth 100000 in
set_option maxHeartbeats 4000000 in
theorem chains_any (w : World) (ks b : List Nat) (A : Option Addr) (c : Nat) (hT : Tabs w ks) (hk : ks.length = 64) (hkl : ∀ x ∈ ks, x < 4294967296) (hne : digest ks [97, 98] ≠ digest ks [97, 98, 99]) (hb : ∀ x ∈ b, x < 256) (hA : Byt w w.heap.size A b) (hL : b.length ≤ 140737488355328) (hc : b.length ≤ c) (hcm : c ≤ 9223372036854775807) :
    Calls Tryd.prog 7 #[.slice A b.length c] w fun e w' => e = .returned (.bool true) ∧ Below w.heap.size w w' := by
  have hz := zeroK
  have hz8 := zero8
  have hzb := zero64b
  have hi32 : (Tryd.prog.info? 34).map (·.size) = some 32 := by kernel_rfl
  have hi32' := Lib.hid hi32
  have hi8 : (Tryd.prog.info? 27).map (·.size) = some 8 := by kernel_rfl
  have hi8' := Lib.hid hi8
  have cV := Lib.hid (lives_any w ks hT hk hkl hne)
  obtain ⟨L, hLL⟩ : ∃ L, Hid (∀ _ : Unit, b.length = L) := ⟨_, Lib.hid fun _ => rfl⟩
  rw [hLL.out ()] at hL hc ⊢
  have hnL := noughts_lt L
  have hml : (tailOf L).length = noughts L + 9 := tailOf_length L
  have hT' := Lib.hid hT
  have hk' := Lib.hid hk
  have hkl' := Lib.hid hkl
  have hb' := Lib.hid hb
  have hA' := Lib.hid hA
  have ht1 : ¬ noughts L + 9 < 9 := by omega
  have ht2 : ¬ 72 < noughts L + 9 := by omega
  have ht3 : ((L : Int) + ((noughts L : Int) + 9)) % 64 = 0 := by unfold noughts; omega
  clear hi32 hi8 hT hk hkl hb hA hne
  go_enter Tryd.func7, Tryd.ntmps7
  go_wp2_with fail
  refine cV.out.mono ?_
  rintro e w1 ⟨rfl, hb1⟩
  have hA1 := hA'.out.below hb1
  go_wp2_with (first
    | (go_at_call 21; refine (tail_any L w1 (by omega)).mono ?_; rintro e w3 ⟨⟨A5, c5, rfl, o5⟩, hb3⟩; have hA3 := hA1.below (hb3.mono hb1.size))
    | (at_builtin; refine wpList_app elB w3 rfl _ _ rfl rfl (Own.nil w3 w3.heap.size _ _) rfl (m := L) (g := fun j => .int .u8 ((b[j]?.getD 0 : Nat) : Int)) (B2 := w.heap.size) (by rw [Nat.mul_one, ← hLL.out ()]; exact hA3) (fun _ _ => rfl) (by unfold maxLen; omega) (by omega) (Nat.le_refl _) L (by omega) (u8s b) (by rw [Nat.mul_one, List.nil_append]; have := u8s_app (l := []) (m := b) (k := L) (hLL.out ()).symm; simpa [u8s] using this) ?_; intro A2 c2 w2 o2 _ hb2; have o5b := o5.below hb2 (fun k hk => (o5.lt k hk).2))
    | (at_builtin; refine wpList_app elB w2 rfl _ _ rfl rfl o2 rfl (m := noughts L + 9) (g := fun j => .int .u8 (((tailOf L)[j]?.getD 0 : Nat) : Int)) (B2 := w2.heap.size) (by have := o5b.byt; rw [Nat.mul_one, ← hml]; exact this) (fun _ _ => rfl) (by unfold maxLen; omega) (by omega) (by have := hb2.size; omega) (L + (noughts L + 9)) (by omega) (u8s (b ++ tailOf L)) (u8s_app hml.symm) ?_; intro A6 c6 w4 o6 _ hb4))
  have hB4 : Below w.heap.size w w4 := ((hb1.trans (hb3.mono hb1.size)).trans (hb2.mono (by have := hb1.size; have := hb3.size; omega))).trans (hb4.mono (by have := hb1.size; have := hb3.size; omega))
  have hpad : b ++ tailOf L = padded b := by rw [← hLL.out ()]; rfl
  rw [hpad] at o6
  have hpn := padded_length b
  have hpl : (padded b).length = L + (noughts L + 9) := by rw [← hpad, List.length_append, hml, hLL.out ()]
  have hML' := Lib.hid (padded_lt hb'.out)
  have hdg : Hid (∀ _ : Unit, digest ks b = wordBytes (foldB ks (padded b) ((padded b).length / 64))) := Lib.hid fun _ => rfl
  generalize padded b = M at o6 hpn hpl hML' hdg
  obtain ⟨n, hn⟩ : ∃ n, L + (noughts L + 9) = n := ⟨_, rfl⟩
  rw [hn] at o6 hpl
  rw [hpl] at hpn hdg
  have hn64 : n ≤ 140737488355500 := by omega
  have hn1 : 0 < n := by omega
  have hnn' := Lib.hid hn
  have hpl' : Hid (∀ _ : Unit, M.length = n) := Lib.hid fun _ => hpl
  obtain ⟨ga, rfl⟩ := o6.head hn1
  have o6' := Lib.hid (o6.base (B' := w.heap.size) (by have := hb1.size; have := hb3.size; omega))
  have hA4 := Lib.hid (hA'.out.below hB4)
  have hB4' := Lib.hid hB4
  obtain ⟨S0, hst⟩ : ∃ m, Hid (∀ _ : Unit, startL = m) := ⟨_, Lib.hid fun _ => rfl⟩
  have hS0 : S0.length = 8 := by rw [← hst.out ()]; rfl
  have hszS : (u32s S0).toArray.size = 8 := by simp [u32s, hS0]
  have hszz : (u32s (zeros 8)).toArray.size = 8 := by simp [u32s, zeros]
  have cR : Hid (Calls Tryd.prog 11 #[] w4 fun e w' => e = .returned (.agg (u32s S0).toArray) ∧ Below w4.heap.size w4 w') := Lib.hid (by
    rw [← hst.out ()]; exact start_any w4)
  clear ht1 ht2 ht3 hnL hml hL o6 o2 o5 o5b hb2 hb3 hb4 hb1 hB4 hpl hA1 hA3 hpad hS0 cV hn
  go_wp2_with (first
    | (go_at_call 11; refine cR.out.mono ?_; rintro e w5 ⟨rfl, hb5⟩; skip)
    | (refine wpList_store_row rfl 27 _ _ rfl w5.heap.size (u32s S0).toArray rfl rfl 27 _ (heap_alloc_new w5 _) (by rw [hszS]; exact hi8'.out) (by rw [hszS, hszz]) (by simp [u32s, Value.oneCell']) ?_))
  have hg1 : ga < w4.heap.size := (o6'.out.lt ga rfl).2
  have hg5 : ga ≠ w5.heap.size := by have := hb5.size; omega
  have hDC : DC w ((w5.alloc (.cells (u32s (zeros 8)).toArray 27)).setRow w5.heap.size (u32s S0).toArray) b A w5.heap.size ga n c6 S0 M :=
    DC.put (F := zeros 8) ⟨(hB4'.out.trans (hb5.mono hB4'.out.size)).alloc (by have := hB4'.out.size; have := hb5.size; omega) _, (hA4.out.below (hb5.mono hB4'.out.size)).alloc (by have := hB4'.out.size; have := hb5.size; omega) _, Blk32.new w5 _ _, (o6'.out.below hb5 (fun k hk => (o6'.out.lt k hk).2)).alloc _, by have := hB4'.out.size; have := hb5.size; omega, hg5⟩
  generalize ((w5.alloc (.cells (u32s (zeros 8)).toArray 27)).setRow w5.heap.size (u32s S0).toArray) = w6 at hDC ⊢
  generalize w5.heap.size = g4 at hDC ⊢
  rw [← hst.out ()] at hDC
  have hDC' := Lib.hid hDC
  rw [hnn'.out]
  clear hg1 hg5 hDC hb5 hB4' o6' cR hszS hA4
  have hcn : n ≤ c6 := by
    have := hDC'.out.all.le
    exact this.1
  go_loopw [6] (fun i wr => ∃ k p : Nat, i = .int .i64 p ∧ p ≤ n ∧ Hid (∀ _ : Unit, p = 64 * k) ∧ Hid (DC w wr b A g4 ga n c6 (foldB ks M k) M)) (fun i _ => n - (intOf i).toNat)
  case atStart => exact ⟨0, 0, rfl, by omega, Lib.hid fun _ => rfl, hDC'⟩
  case round =>
    clear hDC'
    obtain ⟨k, p, rfl, hp, hpk, hD⟩ := hrel
    by_cases hlt : p + 64 ≤ n
    · have hbn : (Go.Proofs.YtfibfaablpoilaaDoor.blk M k).length = 64 := blk_length (by have := hpk.out (); have := hpl'.out (); omega)
      have hbl := blk_lt hML'.out k
      have hFn := foldB_length ks M k
      have hFl := foldB_lt ks M k
      obtain ⟨F2, hFk⟩ : ∃ F2, Hid (∀ _ : Unit, foldB ks M (k + 1) = F2) := ⟨_, Lib.hid fun _ => rfl⟩
      have hF2n : F2.length = 8 := by rw [← hFk.out ()]; exact foldB_length _ _ _
      have hF1 : Hid (∀ _ : Unit, Sha.blockL ks (foldB ks M k) (Go.Proofs.YtfibfaablpoilaaDoor.blk M k) = F2) := Lib.hid fun _ => hFk.out ()
      have hcell : Hid (∀ j, j < 64 → (Go.Proofs.YtfibfaablpoilaaDoor.blk M k)[j]?.getD 0 = M[p + j]?.getD 0) := Lib.hid fun j hj => by
        have := hpk.out ()
        unfold Go.Proofs.YtfibfaablpoilaaDoor.blk
        rw [List.getElem?_take, if_pos hj, List.getElem?_drop, this]
      generalize Go.Proofs.YtfibfaablpoilaaDoor.blk M k = bl at hbn hbl hF1 hcell
      generalize foldB ks M k = F at hD hFn hFl hF1
      have hDD : DD w (wr.alloc (.cells (u8row (zeros 64)) 28)) b A g4 ga n c6 F M wr.heap.size (padTo 64 bl 0) :=
        ⟨hD.out.keep ((Below.refl _ _).alloc (Nat.le_refl _) _), heap_alloc_new wr _, hD.out.bel.size, Nat.ne_of_lt hD.out.st.lt, Nat.ne_of_lt (hD.out.all.lt ga rfl).2⟩
      have hDD' := Lib.hid hDD
      have hbn' := Lib.hid hbn
      have hbl' := Lib.hid hbl
      have hFn' := Lib.hid hFn
      have hFl' := Lib.hid hFl
      clear hDD hbn hbl hFn hFl hD
      obtain ⟨wo, rfl⟩ : ∃ wo : World, wo = wr := ⟨_, rfl⟩
      go_wp2_with fail
      generalize (wo.alloc (.cells (u8row (zeros 64)) 28)) = w8 at hDD' ⊢
      generalize wo.heap.size = gb at hDD' ⊢
      go_loopw [8] (fun i wr => ∃ j : Nat, j ≤ 64 ∧ i = .int .i64 j ∧ Hid (DD w wr b A g4 ga n c6 F M gb (padTo 64 bl j))) (fun i _ => 64 - (intOf i).toNat)
      case atStart => exact ⟨0, by omega, rfl, hDD'⟩
      case round =>
        clear hDD'
        obtain ⟨j, hj, rfl, hD⟩ := hrel
        by_cases hlj : j < 64
        · have q1 := hD.out.dc.all.cell (p + j) (by omega)
          rw [u8s_get M _ (by have := hpl'.out (); omega), ← hcell.out j hlj] at q1
          have q2 := u8row_cell hD.out.blk (k := j) (by rw [padTo_len hj (by rw [hbn'.out]; exact hj)]; exact hlj)
          have qf := u8row_frozen hD.out.blk j
          have hset := hD.out.set j (bl[j]?.getD 0)
          rw [padTo_set hlj (by rw [hbn'.out]; exact hlj)] at hset
          obtain ⟨x, hx⟩ : ∃ x, Hid (∀ _ : Unit, bl[j]?.getD 0 = x) := ⟨_, Lib.hid fun _ => rfl⟩
          rw [hx.out ()] at q1 hset
          have hset' := Lib.hid hset
          have i0 : (0 : Int) ≤ (p : Int) + (j : Int) := by omega
          have i1 : (p : Int) + (j : Int) < (n : Int) := by omega
          have i2 : ((p : Int) + (j : Int)).toNat = p + j := by omega
          have i3 : (j : Int) < 64 := by omega
          have i4 : (0 : Int) ≤ (j : Int) := by omega
          clear hset hD
          go_wp2_with fail
          go_roundw
          case rel => exact ⟨j + 1, by omega, by go_num, hset'⟩
          case measure => simp [intOf]; omega
        · rw [show j = 64 by omega] at hD
          rw [show (j : Int) = (64 : Int) by omega]
          have hpb : padTo 64 bl 64 = bl := by
            unfold padTo zeros
            rw [List.take_of_length_le (by rw [hbn'.out]; exact Nat.le_refl _)]
            simp
          rw [hpb] at hD
          have hcall := block_any F bl ks wr hFn'.out hFl'.out hbl'.out hbn'.out hk'.out hkl'.out (hT'.out.below hD.out.dc.bel).t.all
          rw [hF1.out ()] at hcall
          have hcall' := Lib.hid hcall
          have hsF : (u32s F).toArray.size = 8 := by simp [u32s, hFn'.out]
          have hsF2 : (u32s F2).toArray.size = 8 := by simp [u32s, hF2n]
          have hi64 : (Tryd.prog.info? 28).map (·.size) = some 64 := by kernel_rfl
          have hi64' := Lib.hid hi64
          have hsb : (u8row bl).size = 64 := by simp [u8row, u8s, hbn'.out]
          clear hcall hpb hi64
          go_wp2_with (first
            | (refine wpList_load_row rfl 27 _ rfl g4 rfl 27 (u32s F).toArray (0, 0) _ hD.out.dc.st Tryd.underlying27 rfl (by rw [hsF]; exact hi8'.out) ?_)
            | (refine wpList_load_row rfl 28 _ rfl gb rfl 28 (u8row bl) (0, 0) _ hD.out.blk Tryd.underlying28 rfl (by rw [hsb]; exact hi64'.out) ?_)
            | (go_at_call 10; refine hcall'.out.mono ?_; rintro e w9 ⟨rfl, hb9⟩; have hD9 := hD.out.dc.keep hb9)
            | (refine wpList_store_row rfl 27 _ _ rfl g4 (u32s F2).toArray rfl rfl 27 (u32s F).toArray hD9.st (by rw [hsF2]; exact hi8'.out) (by rw [hsF2, hsF]) (by simp [u32s, Value.oneCell']) ?_))
          have hD10 := Lib.hid (hD9.put (F' := F2))
          clear hD9 hb9 hD
          go_roundw
          case rel => exact ⟨k + 1, p + 64, by go_num, by omega, Lib.hid fun _ => by have := hpk.out (); omega, by rw [hFk.out ()]; exact hD10⟩
          case measure => simp [intOf]; omega
    · have hkn : Hid (∀ _ : Unit, k = n / 64) := Lib.hid fun _ => by have := hpk.out (); omega
      rw [hkn.out ()] at hD
      obtain ⟨F, hF⟩ : ∃ F, Hid (∀ _ : Unit, foldB ks M (n / 64) = F) := ⟨_, Lib.hid fun _ => rfl⟩
      have hFn := foldB_length ks M (n / 64)
      have hFl := foldB_lt ks M (n / 64)
      rw [hF.out ()] at hD hFn hFl
      have hFn' := Lib.hid hFn
      have hFl' := Lib.hid hFl
      have hdg2 : digest ks b = wordBytes F := by rw [hdg.out (), hF.out ()]
      have hsum := shaSum_any wr ks b A c (hT'.out.below hD.out.bel).t hk'.out hkl'.out hb'.out (hD.out.byt.mono hD.out.bel.size) (by rw [hLL.out ()]; exact hc) hcm
      rw [hLL.out (), hdg2] at hsum
      have hsum' := Lib.hid hsum
      have hs32 : (u8s (wordBytes F)).toArray.size = 32 := by simp [u8s, wordBytes_length]
      have hz32 : (u8s (zeros 32)).toArray.size = 32 := by simp [u8s, zeros]
      have hone : (u8s (wordBytes F)).toArray.all (·.oneCell') = true := all_oneCell_toArray u8s_one
      clear hFn hFl hsum hkn hdg2
      obtain ⟨wo, rfl⟩ : ∃ wo : World, wo = wr := ⟨_, rfl⟩
      go_wp2_with (first
        | (go_at_call 14; refine hsum'.out.mono ?_; rintro e w9 ⟨rfl, hb9⟩; skip)
        | (refine wpList_store_row rfl 34 _ _ rfl w9.heap.size (u8s (wordBytes F)).toArray rfl rfl 34 _ (heap_alloc_new w9 _) (by rw [hs32]; exact hi32'.out) (by rw [hs32, hz32]) hone ?_; obtain ⟨k9, hb10⟩ := key_new w9 (wordBytes F); have hD9 := (hD.out.keep hb9).keep hb10; clear hb10; generalize ((w9.alloc (.cells (u8s (zeros 32)).toArray 34)).setRow w9.heap.size (u8s (wordBytes F)).toArray) = wa at k9 hD9 ⊢; generalize w9.heap.size = g9 at k9 ⊢))
      have k9' : Hid (Blk8 wa g9 (wordBytes F)) := Lib.hid k9
      have hD9' := Lib.hid hD9
      clear k9 hD9 hD hb9
      go_loopw [10] (fun i wx => ∃ j m : Nat, j ≤ 32 ∧ i = .int .i64 j ∧ wx = wa.drewN m) (fun i _ => 32 - (intOf i).toNat)
      case atStart => exact ⟨0, 0, by omega, rfl, rfl⟩
      case round =>
        obtain ⟨i, m, hi, rfl, rfl⟩ := hrel
        by_cases hlt2 : i < 32
        · have hx : ∃ x, Hid (∀ _ : Unit, F[i / 4]?.getD 0 = x) := ⟨_, Lib.hid fun _ => rfl⟩
          obtain ⟨x, hx⟩ := hx
          have hxl : x < 4294967296 := by rw [← hx.out ()]; exact getD_lt (by decide) hFl'.out _
          have q1 := hD9'.out.st.cell (k := i / 4) (by rw [hFn'.out]; omega)
          rw [hx.out ()] at q1
          have q2 := k9'.out.cell (k := i) (by rw [wordBytes_length]; exact hlt2)
          have ew : (wordBytes F)[i]?.getD 0 = x / 256 ^ (3 - i % 4) % 256 := by
            rw [← hx.out ()]
            simp [wordBytes, hlt2]
          rw [ew] at q2
          obtain ⟨q, hq⟩ : ∃ q, Hid (∀ _ : Unit, i / 4 = q) := ⟨_, Lib.hid fun _ => rfl⟩
          have e0 : (i : Int) / 4 = (q : Int) := by have := hq.out (); omega
          have hq8 : (q : Int) < 8 := by omega
          have hq0 : (0 : Int) ≤ (q : Int) := by omega
          rw [hq.out ()] at q1
          obtain ⟨r, hr⟩ : ∃ r, Hid (∀ _ : Unit, i % 4 = r) := ⟨_, Lib.hid fun _ => rfl⟩
          have er : (i : Int) % 4 = (r : Int) := by have := hr.out (); omega
          have hr4 : r < 4 := by have := hr.out (); omega
          have e1 := byte_shr x r hr4
          rw [hr.out ()] at q2
          obtain ⟨y, hy⟩ : ∃ y, Hid (∀ _ : Unit, x / 256 ^ (3 - r) % 256 = y) := ⟨_, Lib.hid fun _ => rfl⟩
          rw [hy.out ()] at e1 q2
          have i2 : (0 : Int) ≤ 24 - 8 * (r : Int) := by omega
          have i3 : (i : Int) < 32 := by omega
          have i4 : (0 : Int) ≤ (i : Int) := by omega
          clear ew
          go_wp2_with fail
          go_quiet (fail)
          go_wp2_with fail
          go_roundw
          case rel => exact ⟨i + 1, _, by omega, by go_num, rfl⟩
          case measure => simp [intOf]; omega
        · rw [show (i : Int) = (32 : Int) by omega]
          go_wp2_with fail
          go_ret
          exact ⟨rfl, below_drewN hD9'.out.bel m⟩
end Go.Proofs.YtfibfaablpoilaaDoor

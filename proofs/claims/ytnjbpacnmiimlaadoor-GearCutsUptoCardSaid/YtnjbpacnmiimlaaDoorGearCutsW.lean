/- GearCuts: the law's walk. -/
import Derived.Test.YtnjbpacnmiimlaaDoorGearT
import Derived.Test.YtnjbpacnmiimlaaDoorGearK
namespace Go.Proofs.YtnjbpacnmiimlaaDoor
open Go.RowKit

theorem marked_take (l : List Nat) (k n : Nat) (h : l.length = n) : (marked l k).take n = l := by
  subst h
  simp [marked]
theorem xor65_lt {y : Nat} (h : y < 256) : y ^^^ 65 < 256 := Nat.xor_lt_two_pow (n := 8) (by omega) (by omega)
theorem u8_xor65 (y : Nat) (h : y < 256) : bits .xor .u8 (y : Int) 65 = ((y ^^^ 65 : Nat) : Int) := by
  have h65 : ((65 : Nat) : Int) = 65 := rfl
  rw [← h65]
  exact u8_xor_nat y 65 h (by omega)

/-- A list lent, its first k bytes turned. -/
def turnL (l : List Nat) (k : Nat) : List Nat := (l.take k).map (fun y => y ^^^ 65) ++ (marked l 80).drop k
theorem turnL_zero (l : List Nat) : turnL l 0 = marked l 80 := by simp [turnL]
theorem turnL_get {l : List Nat} {k : Nat} (h : k < l.length) : (u8s (turnL l k))[k]? = some (.int .u8 ((l[k]?.getD 0 : Nat) : Int)) := by
  have h1 : ((l.take k).map (fun y => y ^^^ 65)).length = k := by rw [List.length_map, List.length_take]; omega
  unfold turnL
  rw [u8s_append, List.getElem?_append_right (by rw [u8s_length]; omega), u8s_length, h1, Nat.sub_self, u8s_get _ _ (by rw [List.length_drop, marked_length]; omega)]
  congr 4
  rw [List.getElem?_drop, Nat.add_zero]
  unfold marked
  rw [List.getElem?_append_left h]
theorem turnL_set {l : List Nat} {k z : Nat} (h : k < l.length) (hz : l[k]?.getD 0 ^^^ 65 = z) : (u8s (turnL l k)).set k (.int .u8 (z : Int)) = u8s (turnL l (k + 1)) := by
  have h1 : ((l.take k).map (fun y => y ^^^ 65)).length = k := by rw [List.length_map, List.length_take]; omega
  have h2 : k < (marked l 80).length := by rw [marked_length]; omega
  have h3 : (marked l 80).drop k = (marked l 80)[k] :: (marked l 80).drop (k + 1) := List.drop_eq_getElem_cons h2
  have h4 : l.take (k + 1) = l.take k ++ [l[k]?.getD 0] := by rw [List.take_add_one, List.getElem?_eq_getElem h]; rfl
  unfold turnL
  rw [u8s_append, List.set_append_right _ _ (by rw [u8s_length]; omega), u8s_length, h1, Nat.sub_self, h3, h4, List.map_append, u8s_append, u8s_append, List.append_assoc]
  congr 1
  show Value.int .u8 (z : Int) :: u8s _ = _
  rw [List.map_cons, List.map_nil, hz]
  rfl
theorem turnL_take {l : List Nat} {n : Nat} (h : l.length = n) : (turnL l n).take n = l.map (fun y => y ^^^ 65) := by
  subst h
  unfold turnL
  rw [List.take_length, List.take_append_of_le_length (by simp)]
  rw [List.take_of_length_le (by simp)]
theorem turnL_length {l : List Nat} {n : Nat} (h : l.length = n) : (turnL l n).length = n + 80 := by
  subst h
  simp [turnL, marked_length]

set_option maxRecDepth 20000 in
set_option maxHeartbeats 8000000 in
theorem cuts_any (a m x : Int) (l0 : List Nat) (A0 : Option Addr) (n0 k0 : Nat) (w : World) (b0 : ∀ b ∈ l0, b < 256) (h0 : l0.length = n0) (hn : n0 ≤ 1048576) (hk : n0 ≤ k0) (r0 : Byt w w.heap.size A0 l0) (hT : Tz w) :
    Calls Tryd.prog 3 #[.agg #[.int .i64 a, .int .i64 m, .int .i64 x, .slice A0 n0 k0]] w fun e w' => e = .returned (.bool true) ∧ Below w.heap.size w w' := by
  have b0' := Lib.hid b0
  have h0' := Lib.hid h0
  have r0' := Lib.hid r0
  have hT' := Lib.hid hT
  have hB0 := Lib.hid ((Below.refl w.heap.size w).alloc (Nat.le_refl _) (.cells #[.int .i64 a, .int .i64 m, .int .i64 x, .slice A0 n0 k0] 26))
  have bx0 := Lib.hid (Box4.new w 26 a m x A0 n0 k0)
  have hz0 : w.heap.size + 1 ≤ (w.alloc (.cells #[.int .i64 a, .int .i64 m, .int .i64 x, .slice A0 n0 k0] 26)).heap.size := by simp
  obtain ⟨q00, q10, q20, q30⟩ := bx0.out
  clear b0 h0 r0 hT
  obtain ⟨ls, hls⟩ : ∃ ls, Hid (∀ _ : Unit, Gear.cut a m x l0 = ls) := ⟨_, Lib.hid fun _ => rfl⟩
  obtain ⟨N, hN⟩ : ∃ n, Hid (∀ _ : Unit, ls.length = n) := ⟨_, Lib.hid fun _ => rfl⟩
  obtain ⟨ck, hck⟩ : ∃ ck, Hid (∀ _ : Unit, chk a m x = ck) := ⟨_, Lib.hid fun _ => rfl⟩
  obtain ⟨f1, hf1⟩ : ∃ f, Hid (∀ _ : Unit, (Gear.first a m x l0).1 = f) := ⟨_, Lib.hid fun _ => rfl⟩
  obtain ⟨f2, hf2⟩ : ∃ f, Hid (∀ _ : Unit, (Gear.first a m x l0).2 = f) := ⟨_, Lib.hid fun _ => rfl⟩
  have hNb : N ≤ 1048576 := by
    have := Gear.cut_length a m x l0
    rw [hls.out (), hN.out (), h0'.out] at this
    omega
  have ffirst := Lib.hid fun A c W h1 h2 => first_any a m x l0 A c n0 W h0'.out b0'.out (by omega) h1 h2
  have rfirst := Lib.hid fun A c W h1 h2 => refFirst_any a m x l0 A c n0 W h0'.out b0'.out (by omega) h1 h2
  have fcut := Lib.hid fun A c W h1 h2 h3 => cut_any a m x l0 A c n0 W h0'.out b0'.out (by omega) h1 h2 h3
  have rcut := Lib.hid fun A c W h1 h2 => refCut_any a m x l0 A c n0 W h0'.out b0'.out (by omega) h1 h2
  have flent := Lib.hid fun A c W h1 => lent_any W l0 A c h1 (by rw [h0'.out]; omega)
  have fleft := Lib.hid fun A c cc ga W h1 h2 h3 => left_any W l0 A c cc ga h1 h2 (by rw [h0'.out]; omega) h3
  simp only [hls.out (), hN.out (), hck.out (), hf1.out (), hf2.out (), h0'.out] at ffirst rfirst fcut rcut flent fleft
  go_enter Tryd.func3, Tryd.ntmps3
  go_wp2_with fail
  generalize w.alloc (.cells #[.int .i64 a, .int .i64 m, .int .i64 x, .slice A0 n0 k0] 26) = w0 at hB0 bx0 hz0 q00 q10 q20 q30 ⊢
  refine (rfirst.out A0 k0 w0 hk ((r0'.out.below hB0.out).mono hB0.out.size)).mono ?_
  rintro e w1 ⟨rfl, hb1⟩
  have hB1 := Lib.hid (hB0.out.trans (hb1.mono hB0.out.size))
  have bx1 := Lib.hid (bx0.out.keep hb1 (by omega))
  have hz1 : w0.heap.size ≤ w1.heap.size := hb1.size
  clear q00 q10 q20 q30
  obtain ⟨q01, q11, q21, q31⟩ := bx1.out
  clear hb1 bx0
  go_wp2_with fail
  refine (rcut.out A0 k0 w1 hk ((r0'.out.below hB1.out).mono hB1.out.size)).mono ?_
  rintro e w2 ⟨⟨AW, cW, rfl, oW⟩, hb2⟩
  have hB2 := Lib.hid (hB1.out.trans (hb2.mono hB1.out.size))
  have bx2 := Lib.hid (bx1.out.keep hb2 (by omega))
  have hz2 : w1.heap.size ≤ w2.heap.size := hb2.size
  clear q01 q11 q21 q31
  obtain ⟨q02, q12, q22, q32⟩ := bx2.out
  have uW := oW.lt
  have uW' := Lib.hid uW
  have oW2 := Lib.hid oW
  clear oW uW
  clear hb2 bx1
  go_wp2_with fail
  refine (flent.out A0 k0 w2 ((r0'.out.below hB2.out).mono hB2.out.size)).mono ?_
  rintro e w3 ⟨⟨gl, cL, rfl, oL⟩, hb3⟩
  have hB3 := Lib.hid (hB2.out.trans (hb3.mono hB2.out.size))
  have bx3 := Lib.hid (bx2.out.keep hb3 (by omega))
  have hz3 : w2.heap.size ≤ w3.heap.size := hb3.size
  clear q02 q12 q22 q32
  obtain ⟨q03, q13, q23, q33⟩ := bx3.out
  have oW3 := Lib.hid (oW2.out.below hb3 (fun k hk => (oW2.out.lt k hk).2))
  have oL3 := Lib.hid oL
  have hcL := oL.le.1
  have rL3 := Lib.hid (show Byt w3 w3.heap.size (some ⟨gl, 0, none⟩) l0 by
    have := oL.byt.take n0 (by rw [marked_length, h0'.out]; omega)
    rwa [marked_take l0 80 n0 h0'.out] at this)
  have gl1 := (oL.lt gl rfl).1
  have gl2 := (oL.lt gl rfl).2
  have hcL2 : n0 ≤ cL := by omega
  clear oL oW2
  clear hb3 bx2
  go_wp2_with fail
  refine (ffirst.out (some ⟨gl, 0, none⟩) cL w3 rL3.out (hT'.out.below hB3.out)).mono ?_
  rintro e w4 ⟨rfl, hb4⟩
  have hB4 := Lib.hid (hB3.out.trans (hb4.mono hB3.out.size))
  have bx4 := Lib.hid (bx3.out.keep hb4 (by omega))
  have hz4 : w3.heap.size ≤ w4.heap.size := hb4.size
  clear q03 q13 q23 q33
  obtain ⟨q04, q14, q24, q34⟩ := bx4.out
  have oW4 := Lib.hid (oW3.out.below hb4 (fun k hk => (oW3.out.lt k hk).2))
  have oL4 := Lib.hid (oL3.out.below hb4 (fun k hk => (oL3.out.lt k hk).2))
  have rL4 := Lib.hid ((rL3.out.below hb4).mono hb4.size)
  clear oW3 oL3 rL3
  clear hb4 bx3
  go_wp2_with fail
  refine (fcut.out (some ⟨gl, 0, none⟩) cL w4 hcL2 rL4.out (hT'.out.below hB4.out)).mono ?_
  rintro e w5 ⟨⟨Aa, ca, rfl, oa⟩, hb5⟩
  have hB5 := Lib.hid (hB4.out.trans (hb5.mono hB4.out.size))
  have bx5 := Lib.hid (bx4.out.keep hb5 (by omega))
  have hz5 : w4.heap.size ≤ w5.heap.size := hb5.size
  clear q04 q14 q24 q34
  obtain ⟨q05, q15, q25, q35⟩ := bx5.out
  have oW5 := Lib.hid (oW4.out.below hb5 (fun k hk => (oW4.out.lt k hk).2))
  have oL5 := Lib.hid (oL4.out.below hb5 (fun k hk => (oL4.out.lt k hk).2))
  have rL5 := Lib.hid ((rL4.out.below hb5).mono hb5.size)
  have oa5 := Lib.hid oa
  have ua' := Lib.hid oa.lt
  clear oW4 oL4 rL4 oa
  clear hb5 bx4
  go_wp2_with fail
  refine (fcut.out (some ⟨gl, 0, none⟩) cL w5 hcL2 rL5.out (hT'.out.below hB5.out)).mono ?_
  rintro e w6 ⟨⟨Ab, cb, rfl, ob⟩, hb6⟩
  have hB6 := Lib.hid (hB5.out.trans (hb6.mono hB5.out.size))
  have bx6 := Lib.hid (bx5.out.keep hb6 (by omega))
  have hz6 : w5.heap.size ≤ w6.heap.size := hb6.size
  clear q05 q15 q25 q35
  obtain ⟨q06, q16, q26, q36⟩ := bx6.out
  have oW6 := Lib.hid (oW5.out.below hb6 (fun k hk => (oW5.out.lt k hk).2))
  have oL6 := Lib.hid (oL5.out.below hb6 (fun k hk => (oL5.out.lt k hk).2))
  have oa6 := Lib.hid (oa5.out.below hb6 (fun k hk => (oa5.out.lt k hk).2))
  have rL6 := Lib.hid ((rL5.out.below hb6).mono hb6.size)
  have ob6 := Lib.hid ob
  have ub' := Lib.hid ob.lt
  clear oW5 oL5 oa5 rL5 ob
  clear hb6 bx5
  go_wp2_with fail
  refine (fcut.out (some ⟨gl, 0, none⟩) cL w6 hcL2 rL6.out (hT'.out.below hB6.out)).mono ?_
  rintro e w7 ⟨⟨Ac, cc, rfl, oc⟩, hb7⟩
  have hB7 := Lib.hid (hB6.out.trans (hb7.mono hB6.out.size))
  have bx7 := Lib.hid (bx6.out.keep hb7 (by omega))
  have hz7 : w6.heap.size ≤ w7.heap.size := hb7.size
  clear q06 q16 q26 q36
  obtain ⟨q07, q17, q27, q37⟩ := bx7.out
  have oW7 := Lib.hid (oW6.out.below hb7 (fun k hk => (oW6.out.lt k hk).2))
  have oL7 := Lib.hid (oL6.out.below hb7 (fun k hk => (oL6.out.lt k hk).2))
  have oa7 := Lib.hid (oa6.out.below hb7 (fun k hk => (oa6.out.lt k hk).2))
  have ob7 := Lib.hid (ob6.out.below hb7 (fun k hk => (ob6.out.lt k hk).2))
  have rL7 := Lib.hid ((rL6.out.below hb7).mono hb7.size)
  have oc7 := Lib.hid oc
  have uc' := Lib.hid oc.lt
  clear oW6 oL6 oa6 ob6 rL6 oc
  clear hb7 bx6
  have hfive : Five w7 (w.heap.size + 1) N (n0 + 80) 3 5 ls (marked l0 80) AW Aa Ab Ac gl cW cL ca cb cc (i64s ls) (i64s ls) :=
    ⟨oW7.out.base (by omega), oL7.out.base (by omega), oa7.out.base (by omega), ob7.out.base (by omega), oc7.out.base (by omega),
      (Dis.of_lt (m := w2.heap.size) (fun k hk => (uW'.out k hk).2) (fun k hk => by have := (ua'.out k hk).1; omega)).symm,
      (Dis.of_lt (m := w2.heap.size) (fun k hk => (uW'.out k hk).2) (fun k hk => by have := (ub'.out k hk).1; omega)).symm,
      (Dis.of_lt (m := w2.heap.size) (fun k hk => (uW'.out k hk).2) (fun k hk => by have := (uc'.out k hk).1; omega)).symm,
      (Dis.of_lt (m := w3.heap.size) (fun k hk => by cases hk; exact gl2) (fun k hk => by have := (ua'.out k hk).1; omega)).symm,
      (Dis.of_lt (m := w3.heap.size) (fun k hk => by cases hk; exact gl2) (fun k hk => by have := (ub'.out k hk).1; omega)).symm,
      (Dis.of_lt (m := w3.heap.size) (fun k hk => by cases hk; exact gl2) (fun k hk => by have := (uc'.out k hk).1; omega)).symm,
      Dis.of_lt (m := w5.heap.size) (fun k hk => (ua'.out k hk).2) (fun k hk => (ub'.out k hk).1),
      Dis.of_lt (m := w5.heap.size) (fun k hk => (ua'.out k hk).2) (fun k hk => by have := (uc'.out k hk).1; omega),
      Dis.of_lt (m := w6.heap.size) (fun k hk => (ub'.out k hk).2) (fun k hk => (uc'.out k hk).1)⟩
  have hsL := Lib.hid fun W (hW : Below w7.heap.size w7 W) => fleft.out A0 k0 cL gl W ((r0'.out.below (hB7.out.trans (hW.mono hB7.out.size))).mono (hB7.out.trans (hW.mono hB7.out.size)).size) ((oL7.out.byt.below hW).mono hW.size) hcL
  have hf7 := Lib.hid hfive
  have hr7 := Lib.hid (Below.refl w7.heap.size w7)
  clear oW7 oL7 oa7 ob7 oc7 rL7 uW' ua' ub' uc' hfive ffirst rfirst fcut rcut flent fleft
  clear hz1 hz2 hz3 hz4 hz5 hz6 hz7 hz0
  go_wp2_with fail
  refine (ints_eq Aa AW ca cW N _ _ _ _ (by omega) (hf7.out.oa.is (hN.out ())) (hf7.out.oW.is (hN.out ()))).mono ?_
  rintro e w8 ⟨rfl, mq, rfl⟩
  replace hf7 := Lib.hid (hf7.out.drewN mq)
  replace hr7 := Lib.hid (below_drewN hr7.out mq)
  generalize w7.drewN mq = x1 at hf7 hr7 ⊢
  go_wp2_with fail
  refine (ints_eq Ab AW cb cW N _ _ _ _ (by omega) (hf7.out.ob.is (hN.out ())) (hf7.out.oW.is (hN.out ()))).mono ?_
  rintro e w8 ⟨rfl, mq, rfl⟩
  replace hf7 := Lib.hid (hf7.out.drewN mq)
  replace hr7 := Lib.hid (below_drewN hr7.out mq)
  generalize x1.drewN mq = x2 at hf7 hr7 ⊢
  go_wp2_with fail
  refine (ints_eq Ac AW cc cW N _ _ _ _ (by omega) (hf7.out.oc.is (hN.out ())) (hf7.out.oW.is (hN.out ()))).mono ?_
  rintro e w8 ⟨rfl, mq, rfl⟩
  replace hf7 := Lib.hid (hf7.out.drewN mq)
  replace hr7 := Lib.hid (below_drewN hr7.out mq)
  generalize x2.drewN mq = x3 at hf7 hr7 ⊢
  have q3x := (bx7.out.keep hr7.out (World.block_lt_of_cell? _ _ bx7.out.q0)).q3
  go_wp2_with fail
  refine (hsL.out _ hr7.out).mono ?_
  rintro e w8 ⟨rfl, mq, rfl⟩
  replace hf7 := Lib.hid (hf7.out.drewN mq)
  replace hr7 := Lib.hid (below_drewN hr7.out mq)
  generalize x3.drewN mq = w8 at hf7 hr7 ⊢
  have hB8 := Lib.hid (hB7.out.trans (hr7.out.mono hB7.out.size))
  have bx8 := Lib.hid (bx7.out.keep hr7.out (World.block_lt_of_cell? _ _ bx7.out.q0))
  have hz8 : w.heap.size + 1 ≤ w8.heap.size := World.block_lt_of_cell? _ _ bx8.out.q0
  clear hsL hr7 hB7 bx7 q07 q17 q27 q37 hcL2 q3x
  go_wp2_with fail
  go_loopw [16] (fun iv wr => ∃ k : Nat, k ≤ N ∧ iv = .int .i64 (k : Int) ∧ Hid (Five wr (w.heap.size + 1) N (n0 + 80) 3 5 ls (marked l0 80) AW Aa Ab Ac gl cW cL ca cb cc (over (i64s ls) k (-1)) (i64s ls)) ∧ Hid (Below (w.heap.size + 1) w8 wr)) (fun iv _ => N - (intOf iv).toNat)
  case atStart => exact ⟨0, by omega, rfl, Lib.hid (by rw [over_zero]; exact hf7.out), Lib.hid (Below.refl _ _)⟩
  case round =>
    clear hf7
    obtain ⟨k, hkN, rfl, hf, hb⟩ := hrel
    by_cases hlt : k < N
    · obtain ⟨ga, hA⟩ := hf.out.oa.head (by omega)
      have hc := hf.out.oa
      rw [hA] at hc
      have fr := hc.frozen k
      have hxl : (over (i64s ls) k (-1)).length = N := by have := hf.out.oa.len; omega
      obtain ⟨v, hv⟩ : ∃ v, (over (i64s ls) k (-1))[k]? = some v := ⟨_, List.getElem?_eq_getElem (by omega)⟩
      have hcell := (hc.cell k (by omega)).trans hv
      have hsetB := Lib.hid (hc.setBelow (by have := hb.out.size; omega) k (.int .i64 (-1)))
      have hf2 := Lib.hid (hf.out.setA hA k (.int .i64 (-1)))
      rw [over_set (by rw [i64s_length, hN.out ()]; exact hlt)] at hf2
      subst hA
      clear hc hxl hv
      go_wp2_with fail
      go_roundw
      case rel => exact ⟨k + 1, by omega, by go_num, hf2, Lib.hid (hb.out.trans hsetB.out)⟩
      case measure => simp [intOf]; omega
    · obtain rfl : N = k := by omega
      have hf3 := hf.out
      rw [over_all (by rw [i64s_length, hN.out ()])] at hf3
      have hf4 := Lib.hid hf3
      clear hf3 hf
      have hb4 := hb
      clear hb
      rename_i w9
      go_wp2_with fail
      go_loopw [17] (fun iv wr => ∃ k : Nat, k ≤ N ∧ iv = .int .i64 (k : Int) ∧ Hid (Five wr (w.heap.size + 1) N (n0 + 80) 3 5 ls (marked l0 80) AW Aa Ab Ac gl cW cL ca cb cc (reps N (-1)) (over (i64s ls) k (-2))) ∧ Hid (Below (w.heap.size + 1) w8 wr)) (fun iv _ => N - (intOf iv).toNat)
      case atStart => exact ⟨0, by omega, rfl, Lib.hid (by rw [over_zero]; exact hf4.out), hb4⟩
      case round =>
        clear hf4 hb4
        obtain ⟨k, hkN, rfl, hf, hb⟩ := hrel
        by_cases hlt : k < N
        · obtain ⟨gb, hA⟩ := hf.out.ob.head (by omega)
          have hc := hf.out.ob
          rw [hA] at hc
          have fr := hc.frozen k
          have hxl : (over (i64s ls) k (-2)).length = N := by have := hf.out.ob.len; omega
          obtain ⟨v, hv⟩ : ∃ v, (over (i64s ls) k (-2))[k]? = some v := ⟨_, List.getElem?_eq_getElem (by omega)⟩
          have hcell := (hc.cell k (by omega)).trans hv
          have hsetB := Lib.hid (hc.setBelow (by have := hb.out.size; omega) k (.int .i64 (-2)))
          have hf2 := Lib.hid (hf.out.setB hA k (.int .i64 (-2)))
          rw [over_set (by rw [i64s_length, hN.out ()]; exact hlt)] at hf2
          subst hA
          clear hc hxl hv
          go_wp2_with fail
          go_roundw
          case rel => exact ⟨k + 1, by omega, by go_num, hf2, Lib.hid (hb.out.trans hsetB.out)⟩
          case measure => simp [intOf]; omega
        · obtain rfl : N = k := by omega
          have hf3 := hf.out
          rw [over_all (by rw [i64s_length, hN.out ()])] at hf3
          obtain ⟨K, hg0⟩ : ∃ K, Grows wr (w.heap.size + 1) K N (n0 + 80) 3 5 ls (marked l0 80) AW Aa Ab Ac gl cL 0 0 0 Aa Ab Ac ca cb cc := ⟨_, Grows.of hf3 (hN.out ())⟩
          have hg0' := Lib.hid hg0
          clear hg0 hf3 hf
          go_wp2_with fail
          go_loopw [18, 19, 20, 21] (fun pv qv sv iv wr => ∃ (k : Nat) (Ap Aq As : Option Addr) (cp cq cs : Nat), k ≤ 40 ∧ iv = .int .i64 (k : Int) ∧ pv = .slice Ap (N + k) cp ∧ qv = .slice Aq (N + k) cq ∧ sv = .slice As (N + k) cs ∧ Hid (Grows wr (w.heap.size + 1) K N (n0 + 80) 3 5 ls (marked l0 80) AW Aa Ab Ac gl cL k k k Ap Aq As cp cq cs) ∧ Hid (Below (w.heap.size + 1) w8 wr)) (fun _ _ _ iv _ => 40 - (intOf iv).toNat)
          case atStart => exact ⟨0, Aa, Ab, Ac, ca, cb, cc, by omega, rfl, rfl, rfl, rfl, hg0', hb⟩
          case round =>
            clear hg0' hb
            obtain ⟨k, Ap, Aq, As, cp, cq, cs, hk40, rfl, rfl, rfl, rfl, hg, hb⟩ := hrel
            have hzr : w.heap.size + 1 ≤ wr.heap.size := by have := hb.out.size; omega
            by_cases hlt : k < 40
            · go_wp2_with (first
                | (at_builtin; refine wpList_app1 elI _ #[_] rfl rfl (.tmp 147) (.tmp 148) rfl rfl hg.out.op rfl (by intro u hu; simp at hu; subst hu; rfl) (by unfold maxLen; omega) (by omega) hzr (N + (k + 1)) (by omega) _ rfl ?_; intro Ap2 cp2 y1 own1 at1 hc1; have hg1 := Lib.hid (hg.out.stepP at1 own1); have hb1 := Lib.hid (hb.out.trans hc1); have hzr1 : w.heap.size + 1 ≤ y1.heap.size := (by have := hc1.size; omega); clear own1 at1 hc1)
                | (at_builtin; refine wpList_app1 elI _ #[_] rfl rfl (.tmp 150) (.tmp 151) rfl rfl hg1.out.oq rfl (by intro u hu; simp at hu; subst hu; rfl) (by unfold maxLen; omega) (by omega) hzr1 (N + (k + 1)) (by omega) _ rfl ?_; intro Aq2 cq2 y2 own2 at2 hc2; have hg2 := Lib.hid (hg1.out.stepQ at2 own2); have hb2 := Lib.hid (hb1.out.trans hc2); have hzr2 : w.heap.size + 1 ≤ y2.heap.size := (by have := hc2.size; omega); clear own2 at2 hc2)
                | (at_builtin; refine wpList_app1 elI _ #[_] rfl rfl (.tmp 153) (.tmp 154) rfl rfl hg2.out.os rfl (by intro u hu; simp at hu; subst hu; rfl) (by unfold maxLen; omega) (by omega) hzr2 (N + (k + 1)) (by omega) _ rfl ?_; intro As2 cs2 y3 own3 at3 hc3; have hg3 := Lib.hid (hg2.out.stepS (hN.out ()) at3 own3); have hb3 := Lib.hid (hb2.out.trans hc3); clear own3 at3 hc3))
              go_roundw
              case rel => exact ⟨k + 1, Ap2, Aq2, As2, cp2, cq2, cs2, by omega, by go_num, rfl, rfl, rfl, hg3, hb3⟩
              case measure => simp [intOf]; omega
            · rw [show k = 40 by omega] at hg ⊢
              clear hlt hk40
              go_wp2_with fail
              refine (allInts_eq Ap cp (N + 40) (-1) _ wr (by omega) hg.out.op.reps).mono ?_
              rintro e w' ⟨rfl, rfl⟩
              go_wp2_with fail
              refine (allInts_eq Aq cq (N + 40) (-2) _ wr (by omega) hg.out.oq.reps).mono ?_
              rintro e w' ⟨rfl, rfl⟩
              go_wp2_with fail
              refine (allInts_eq Aa ca N (-1) _ wr (by omega) hg.out.ra).mono ?_
              rintro e w' ⟨rfl, rfl⟩
              go_wp2_with fail
              refine (allInts_eq Ab cb N (-2) _ wr (by omega) hg.out.rb).mono ?_
              rintro e w' ⟨rfl, rfl⟩
              go_wp2_with fail
              refine (ints_eq Ac AW cc cW N _ _ _ wr (by omega) hg.out.rc hg.out.rW).mono ?_
              rintro e w' ⟨rfl, mq, rfl⟩
              have oL4 := Lib.hid (hg.out.oL.drewN mq)
              have hb4 := Lib.hid (below_drewN hb.out mq)
              clear hg hb hzr
              generalize wr.drewN mq = y4 at oL4 hb4 ⊢
              go_wp2_with fail
              go_loopw [22] (fun iv wr => ∃ k : Nat, k ≤ n0 ∧ iv = .int .i64 (k : Int) ∧ Hid (Own wr (w.heap.size + 1) 5 1 (some ⟨gl, 0, none⟩) (n0 + 80) cL (u8s (turnL l0 k))) ∧ Hid (Below (w.heap.size + 1) w8 wr)) (fun iv _ => n0 - (intOf iv).toNat)
              case atStart => exact ⟨0, by omega, rfl, Lib.hid (by rw [turnL_zero]; exact oL4.out), hb4⟩
              case round =>
                clear oL4 hb4
                obtain ⟨k, hkn, rfl, hL, hb⟩ := hrel
                by_cases hlt : k < n0
                · have fr := hL.out.frozen k
                  have hcell := (hL.out.cell k (by omega)).trans (turnL_get (l := l0) (k := k) (by rw [h0'.out]; exact hlt))
                  have hy : l0[k]?.getD 0 < 256 := by
                    have h1 : k < l0.length := by rw [h0'.out]; exact hlt
                    rw [List.getElem?_eq_getElem h1]
                    exact b0'.out _ (List.getElem_mem h1)
                  have hset := fun z hz => turnL_set (l := l0) (k := k) (z := z) (by rw [h0'.out]; exact hlt) hz
                  generalize l0[k]?.getD 0 = y at hcell hy hset
                  have ex := u8_xor65 y hy
                  have hset := hset _ rfl
                  generalize y ^^^ 65 = z at ex hset
                  have hsetB := Lib.hid (hL.out.setBelow (by have := hb.out.size; omega) k (.int .u8 (z : Int)))
                  have hL2 := Lib.hid (hL.out.set k (.int .u8 (z : Int)))
                  rw [hset] at hL2
                  clear hset
                  go_wp2_with fail
                  go_roundw
                  case rel => exact ⟨k + 1, by omega, by go_num, hL2, Lib.hid (hb.out.trans hsetB.out)⟩
                  case measure => simp [intOf]; omega
                · obtain rfl : n0 = k := by omega
                  clear hlt hkn
                  obtain ⟨z0, z1, z2, z3⟩ := bx8.out.keep hb.out (Nat.lt_succ_self _)
                  have rx := Lib.hid (show Byt wr wr.heap.size (some ⟨gl, 0, none⟩) (l0.map (fun y => y ^^^ 65)) by
                    have := hL.out.byt.take n0 (by rw [turnL_length h0'.out]; omega)
                    rwa [turnL_take h0'.out] at this)
                  obtain ⟨lx, hlx⟩ : ∃ lx, Hid (∀ _ : Unit, l0.map (fun y => y ^^^ 65) = lx) := ⟨_, Lib.hid fun _ => rfl⟩
                  have hlx1 := Lib.hid (show lx.length = n0 by rw [← hlx.out (), List.length_map, h0'.out])
                  have hlx2 := Lib.hid (show ∀ b ∈ lx, b < 256 by
                    intro b hb
                    rw [← hlx.out ()] at hb
                    obtain ⟨y, hy, rfl⟩ := List.mem_map.1 hb
                    exact xor65_lt (b0'.out y hy))
                  rw [hlx.out ()] at rx
                  have hB9 := Lib.hid (hB8.out.trans (hb.out.mono (by omega)))
                  have hz9 : w.heap.size + 1 ≤ wr.heap.size := by have := hb.out.size; omega
                  clear hL hb bx8 hB8
                  obtain ⟨l2, hl2⟩ : ∃ ls, Hid (∀ _ : Unit, Gear.cut a m x lx = ls) := ⟨_, Lib.hid fun _ => rfl⟩
                  obtain ⟨N2, hN2⟩ : ∃ n, Hid (∀ _ : Unit, l2.length = n) := ⟨_, Lib.hid fun _ => rfl⟩
                  have hNb2 : N2 ≤ 1048576 := by
                    have := Gear.cut_length a m x lx
                    rw [hl2.out (), hN2.out (), hlx1.out] at this
                    omega
                  have fcut := Lib.hid fun W h2 h3 => cut_any a m x lx (some ⟨gl, 0, none⟩) cL n0 W hlx1.out hlx2.out (by omega) (by omega) h2 h3
                  have rcut := Lib.hid fun W h2 => refCut_any a m x lx (some ⟨gl, 0, none⟩) cL n0 W hlx1.out hlx2.out (by omega) (by omega) h2
                  simp only [hl2.out (), hN2.out (), hck.out ()] at fcut rcut
                  go_wp2_with fail
                  refine (rcut.out wr rx.out).mono ?_
                  rintro e y5 ⟨⟨AX, cX, rfl, oX⟩, hb5⟩
                  have hB10 := Lib.hid (hB9.out.trans (hb5.mono hB9.out.size))
                  have rx5 := Lib.hid ((rx.out.below hb5).mono hb5.size)
                  have oX5 := Lib.hid oX
                  have z0' := (hb5.cell (p := ⟨w.heap.size, 0, none⟩) (by simp; omega)).trans z0
                  have z1' := (hb5.cell (p := ⟨w.heap.size, 1, none⟩) (by simp; omega)).trans z1
                  have z2' := (hb5.cell (p := ⟨w.heap.size, 2, none⟩) (by simp; omega)).trans z2
                  clear hb5 oX rx z0 z1 z2 z3 rcut hB9
                  go_wp2_with fail
                  refine (fcut.out y5 rx5.out (hT'.out.below hB10.out)).mono ?_
                  rintro e y6 ⟨⟨AY, cY, rfl, oY⟩, hb6⟩
                  have hB11 := Lib.hid (hB10.out.trans (hb6.mono hB10.out.size))
                  have hsX := Lib.hid (ints_eq AY AX cY cX N2 _ _ _ y6 (by omega) (oY.is (hN2.out ())) ((oX5.out.below hb6 (fun k hk => (oX5.out.lt k hk).2)).is (hN2.out ())))
                  clear hb6 oY oX5 rx5 z0' z1' z2' fcut hB10
                  go_wp2_with fail
                  refine hsX.out.mono ?_
                  rintro e y7 ⟨rfl, mq, rfl⟩
                  have hB12 := Lib.hid (below_drewN hB11.out mq)
                  clear hsX hB11
                  generalize y6.drewN mq = y7 at hB12 ⊢
                  go_wp2_with fail
                  refine (lives_any y7 (hT'.out.below hB12.out)).mono ?_
                  rintro e y8 ⟨rfl, hb8⟩
                  have hB13 := Lib.hid (hB12.out.trans (hb8.mono hB12.out.size))
                  clear hb8 hB12
                  go_wp2_with fail
                  go_ret
                  exact ⟨rfl, hB13.out⟩
end Go.Proofs.YtnjbpacnmiimlaaDoor

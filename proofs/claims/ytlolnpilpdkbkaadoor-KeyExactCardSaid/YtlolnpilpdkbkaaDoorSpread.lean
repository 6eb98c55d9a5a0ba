/- The program's words of a block. -/
import Derived.Test.YtlolnpilpdkbkaaDoorRefBlock
import Derived.Deep.RegionHeld3
import Derived.StillTailTactics
namespace Go.Proofs.YtlolnpilpdkbkaaDoor
open Go.RowKit

def u8row (l : List Nat) : Array Value := (u8s l).toArray
theorem zero64 (w : World) : (zeroValue 84).run Tryd.prog w = .ok (.agg (u32s (zerW 64)).toArray) w :=
  (zero_of_info (P := Tryd.prog) (t := 84) (v := .agg (u32s (zerW 64)).toArray) (n := 64) (by kernel_rfl)).1 w
/-- The words, k of them done. -/
def spTo (b : List Nat) (k : Nat) : List Nat := Sha.wordsTo b k ++ zerW (64 - k)
theorem spTo_len (b : List Nat) {k : Nat} (h : k ≤ 64) : (spTo b k).length = 64 := by simp [spTo, Sha.wordsTo_length, zerW]; omega
theorem spTo_all (b : List Nat) : spTo b 64 = Sha.wordsTo b 64 := by simp [spTo, zerW]
theorem spTo_set (b : List Nat) {k : Nat} (h : k < 64) : (spTo b k).set k (Sha.nextW b (Sha.wordsTo b k) k) = spTo b (k + 1) := by
  unfold spTo zerW
  rw [List.set_append_right _ _ (by rw [Sha.wordsTo_length]; exact Nat.le_refl _), Sha.wordsTo_length, Sha.wordsTo, List.append_assoc]
  congr 1
  obtain ⟨m, hm⟩ : ∃ m, 64 - k = m + 1 := ⟨63 - k, by omega⟩
  rw [hm, List.replicate_succ, show 64 - (k + 1) = m by omega]
  simp
theorem spTo_get (b : List Nat) {j k : Nat} (h : j < k) : (spTo b k)[j]?.getD 0 = (Sha.wordsTo b k)[j]?.getD 0 := by
  unfold spTo
  rw [List.getElem?_append_left (by rw [Sha.wordsTo_length]; exact h)]
theorem spTo_here (b : List Nat) {k : Nat} : (spTo b k)[k]?.getD 0 = 0 := by
  unfold spTo zerW
  rw [List.getElem?_append_right (by rw [Sha.wordsTo_length]; exact Nat.le_refl _), List.getElem?_replicate]
  split <;> rfl
theorem fpart_small {b : List Nat} (hb : ∀ x ∈ b, x < 256) (t j : Nat) (hj : j < 4) : fpart b t j < 16777216 := by
  have h0 := getD_lt (by decide) hb (4 * t)
  have h1 := getD_lt (by decide) hb (4 * t + 1)
  have h2 := getD_lt (by decide) hb (4 * t + 2)
  rcases (show j = 0 ∨ j = 1 ∨ j = 2 ∨ j = 3 by omega) with e | e | e | e <;> subst e <;> simp only [fpart, Nat.add_zero] <;> omega
theorem set_here {l : List Nat} {k x : Nat} (h : k < l.length) (hx : l[k]?.getD 0 = x) : l.set k x = l := by
  rw [List.getElem?_eq_getElem h, Option.getD_some] at hx
  subst hx
  exact List.set_getElem_self h
theorem shl_or {f y : Nat} (hf : f < 16777216) (hy : y < 256) : bits .or .u32 ((f : Int) * 256) (y : Int) = ((f * 256 + y : Nat) : Int) := by
  have e : (f : Int) * 256 = ((f * 256 : Nat) : Int) := by omega
  have h := Nat.two_pow_add_eq_or_of_lt (i := 8) hy f
  rw [e, u32_or_nat _ _ (by omega) (by omega)]
  have h2 : f * 256 = 2 ^ 8 * f := by omega
  rw [h2, ← h]

theorem xor32_some {a b : Nat} (ha : a < 4294967296) (hb : b < 4294967296) : ∃ c : Nat, bits .xor .u32 (a : Int) (b : Int) = (c : Int) ∧ c < 4294967296 ∧ c = a ^^^ b :=
  ⟨a ^^^ b, u32_xor_nat a b ha hb, Nat.xor_lt_two_pow (n := 32) ha hb, rfl⟩
theorem turned_some (x n : Nat) (hx : x < 4294967296) (hn : n = 2 ∨ n = 6 ∨ n = 7 ∨ n = 11 ∨ n = 13 ∨ n = 17 ∨ n = 18 ∨ n = 19 ∨ n = 22 ∨ n = 25) :
    ∃ r : Nat, r < 4294967296 ∧ r = rot x n ∧ ∀ w : World, Calls Tryd.prog 50 #[.int .u32 x, .int .i64 n] w fun e w' => e = .returned (.int .u32 (r : Nat)) ∧ w = w' :=
  ⟨rot x n, rot_lt hx (by omega), rfl, fun w => turned_any x n w hx hn⟩
theorem div_some {x : Nat} (K : Nat) (hx : x < 4294967296) : ∃ r : Nat, r < 4294967296 ∧ r = x / K ∧ (x : Int) / (K : Int) = (r : Int) :=
  ⟨x / K, Nat.lt_of_le_of_lt (Nat.div_le_self _ _) hx, rfl, by simp⟩
theorem add32_some (a b : Nat) : ∃ c : Nat, c < 4294967296 ∧ c = (a + b) % 4294967296 ∧ ((a : Int) + (b : Int)) % 4294967296 = (c : Int) ∧ IntKind.u32.wrap ((a : Int) + (b : Int)) = (c : Int) :=
  ⟨(a + b) % 4294967296, Nat.mod_lt _ (by decide), rfl, by omega, by rw [IntKind.wrap_u32]; omega⟩

/-- What stands while spread runs. -/
structure SB (w wr : World) (b : List Nat) (L : List Nat) : Prop where
  bel : Below w.heap.size w wr
  blk : wr.heap[w.heap.size]? = some (.cells (u8row b) 62 (0, 0))
  res : Blk32 wr (w.heap.size + 1) 84 (zerW 64)
  wds : Blk32 wr (w.heap.size + 1 + 1) 84 L
theorem SB.set {w wr : World} {b L : List Nat} (h : SB w wr b L) (k x : Nat) : SB w (wr.setCell ⟨w.heap.size + 1 + 1, k, none⟩ (.int .u32 (x : Int))) b (L.set k x) where
  bel := h.bel.setCell (p := ⟨w.heap.size + 1 + 1, k, none⟩) (by simp; omega) _
  blk := (heap_setCell_other wr ⟨w.heap.size + 1 + 1, k, none⟩ w.heap.size _ (by simp; omega)).trans h.blk
  res := h.res.far (p := ⟨w.heap.size + 1 + 1, k, none⟩) (by simp) _
  wds := h.wds.set k x
theorem SB.drewN {w wr : World} {b L : List Nat} (h : SB w wr b L) (n : Nat) : SB w (wr.drewN n) b L := ⟨below_drewN h.bel n, h.blk, h.res, h.wds⟩
theorem SB.drew {w wr : World} {b L : List Nat} (h : SB w wr b L) : SB w wr.drew b L := ⟨h.bel.drew, h.blk, h.res, h.wds⟩

theorem u8row_cell {w : World} {g : Nat} {t : TypeId} {b : List Nat} (h : w.heap[g]? = some (.cells (u8row b) t (0, 0))) {k : Nat} (hk : k < b.length) : w.cell? ⟨g, k, none⟩ = some (.int .u8 ((b[k]?.getD 0 : Nat) : Int)) := by
  rw [cell_of_row _ _ _ _ _ _ h, u8row, List.getElem?_toArray]
  exact u8s_get b k hk

theorem slice4 (g k : Nat) (hk : k < 16) (w : World) : (Instr.sliceAt 62 (.pointer (some ⟨g, 0, none⟩)) (some (.int .i64 ((k : Int) * 4))) (some (.int .i64 ((k : Int) * 4 + 4))) none).run Tryd.prog w = .ok (.slice (some ⟨g, 4 * k, none⟩) 4 (64 - 4 * k)) w := by
  have hl : Tryd.prog.arrayLen 62 = 64 := by kernel_rfl
  have he : Tryd.prog.elem 62 = 5 := by kernel_rfl
  have hs : (sizeOf 5).run Tryd.prog w = .ok 1 w := by kernel_rfl
  rw [run_sliceAt_array_lh w _ _ (by rw [hl, he]; exact Tryd.underlying62) .i64 .i64 _ _ (by omega) (by omega) (by rw [hl]; omega), he, hs, hl]
  have e1 : ((k : Int) * 4).toNat = 4 * k := by omega
  have e2 : ((k : Int) * 4 + 4).toNat = 4 * k + 4 := by omega
  simp only [Result.andThen, slicedAt, e1, e2, Nat.mul_one]
  rw [if_neg (by omega), Addr.add_lit, show 4 * k + 4 - 4 * k = 4 by omega, Nat.zero_add]

set_option maxRecDepth 100000 in
set_option maxHeartbeats 4000000 in
theorem spread_any (b : List Nat) (w : World) (hb : ∀ x ∈ b, x < 256) (hn : b.length = 64) :
    Calls Tryd.prog 49 #[.agg (u8row b)] w fun e w' => e = .returned (.agg (u32s (Sha.wordsTo b 64)).toArray) ∧ Below w.heap.size w w' := by
  have hz := zero64
  have hS : SB w (((w.alloc (.cells (u8row b) 62)).alloc (.cells (u32s (zerW 64)).toArray 84)).alloc (.cells (u32s (zerW 64)).toArray 84)) b (spTo b 0) := by
    have e : spTo b 0 = zerW 64 := by simp [spTo, Sha.wordsTo]
    rw [e]
    refine ⟨(((Below.refl _ _).alloc (Nat.le_refl _) _).alloc (by simp) _).alloc (by simp; omega) _, ?_, ?_, ?_⟩
    · exact (Below.heap_alloc _ _ w.heap.size (by simp; omega)).trans (heap_alloc2_old w _ _)
    · exact (Below.heap_alloc _ _ (w.heap.size + 1) (by simp)).trans (heap_alloc2_new w _ _)
    · unfold Blk32
      have := heap_alloc_new ((w.alloc (.cells (u8row b) 62)).alloc (.cells (u32s (zerW 64)).toArray 84)) (.cells (u32s (zerW 64)).toArray 84)
      rwa [World.size_alloc, World.size_alloc] at this
  have hS' := Lib.hid hS
  have hb' := Lib.hid hb
  have hn' := Lib.hid hn
  clear hS hb hn
  go_enter Tryd.func49, Tryd.ntmps49
  go_wp2_with fail
  clear hz
  generalize (((w.alloc (.cells (u8row b) 62)).alloc (.cells (u32s (zerW 64)).toArray 84)).alloc (.cells (u32s (zerW 64)).toArray 84)) = w2 at hS' ⊢
  go_loopw [10] (fun i wr => ∃ k : Nat, k ≤ 16 ∧ i = .int .i64 k ∧ Hid (SB w wr b (spTo b k))) (fun i _ => 16 - (intOf i).toNat)
  case atStart => exact ⟨0, by omega, rfl, hS'⟩
  case round =>
    clear hS'
    obtain ⟨k, hk, rfl, hS⟩ := hrel
    by_cases hlt : k < 16
    · have i0 : (0 : Int) ≤ (k : Int) * 4 := by omega
      have i1 : (k : Int) * 4 + 4 ≤ 64 := by omega
      have hsl := slice4 w.heap.size k hlt
      go_wp2_with fail
      go_loopw [20] (fun j wr => ∃ i : Nat, i ≤ 4 ∧ j = .int .i64 i ∧ Hid (SB w wr b ((spTo b k).set k (fpart b k i)))) (fun j _ => 4 - (intOf j).toNat)
      case atStart => exact ⟨0, by omega, rfl, by
        have e : (spTo b k).set k (fpart b k 0) = spTo b k := set_here (by rw [spTo_len b (by omega)]; omega) (spTo_here b)
        rw [e]
        exact hS⟩
      case round =>
        clear hS hsl
        obtain ⟨i, hi, rfl, hS⟩ := hrel
        by_cases hlt2 : i < 4
        · have q1 := u8row_cell hS.out.blk (k := 4 * k + i) (by rw [hn'.out]; omega)
          have hlen : ((spTo b k).set k (fpart b k i)).length = 64 := by rw [List.length_set, spTo_len b (by omega)]
          have q2 := hS.out.wds.cell (k := k) (by rw [hlen]; omega)
          have q3 := hS.out.wds.frozen k
          have e2 : ((spTo b k).set k (fpart b k i))[k]?.getD 0 = fpart b k i := by simp [spTo_len b (show k ≤ 64 by omega), show k < 64 by omega]
          rw [e2] at q2
          have l1 := getD_lt (by decide) hb'.out (4 * k + i)
          have l2 := fpart_small hb'.out k i hlt2
          have hor := shl_or l2 l1
          have hst := hS.out.set k (fpart b k (i + 1))
          rw [List.set_set] at hst
          have hfp : fpart b k (i + 1) = fpart b k i * 256 + b[4 * k + i]?.getD 0 := rfl
          rw [hfp] at hst
          have hst' := Lib.hid hst
          have hfp' : Hid (∀ _ : Unit, fpart b k (i + 1) = fpart b k i * 256 + b[4 * k + i]?.getD 0) := Lib.hid fun _ => rfl
          clear hlen e2 hst hfp
          generalize b[4 * k + i]?.getD 0 = y at q1 l1 hor hst' hfp'
          generalize fpart b k i = f at q2 l2 hor hst' hfp'
          go_wp2_with fail
          go_roundw
          case rel => exact ⟨i + 1, by omega, by go_num, Lib.hid (by rw [hfp'.out ()]; exact hst'.out)⟩
          case measure => simp [intOf]; omega
        · have e4 : (spTo b k).set k (fpart b k i) = spTo b (k + 1) := by
            rw [show i = 4 by omega, fpart_all, ← spTo_set b (by omega), Sha.nextW, if_pos hlt]
          rw [e4] at hS
          go_wp2_with fail
          go_roundw
          case rel => exact ⟨k + 1, by omega, by go_num, hS⟩
          case measure => simp [intOf]; omega
    · rw [show k = 16 by omega] at hS
      rw [show (k : Int) = (16 : Int) by omega]
      go_wp2_with fail
      go_loopw [7] (fun i wr => ∃ k : Nat, 16 ≤ k ∧ k ≤ 64 ∧ i = .int .i64 k ∧ Hid (SB w wr b (spTo b k))) (fun i _ => 64 - (intOf i).toNat)
      case atStart => exact ⟨16, by omega, by omega, rfl, hS⟩
      case round =>
        clear hS hk hlt
        obtain ⟨k, hk16, hk, rfl, hS⟩ := hrel
        by_cases hlt : k < 64
        · have hlen := spTo_len b hk
          have cellAt : ∀ j, j < k → wr.cell? ⟨w.heap.size + 1 + 1, j, none⟩ = some (.int .u32 (((Sha.wordsTo b k)[j]?.getD 0 : Nat) : Int)) := fun j hj => by
            rw [hS.out.wds.cell (k := j) (by rw [hlen]; omega), spTo_get b hj]
          have q0 := hS.out.wds.cell (k := k) (by rw [hlen]; omega)
          rw [spTo_here] at q0
          have qf := hS.out.wds.frozen k
          have q2 := cellAt (k - 2) (by omega)
          have q7 := cellAt (k - 7) (by omega)
          have q15 := cellAt (k - 15) (by omega)
          have q16 := cellAt (k - 16) (by omega)
          have wl := wordsTo_lt hb'.out k
          have l2 := getD_lt (by decide) wl (k - 2)
          have l7 := getD_lt (by decide) wl (k - 7)
          have l15 := getD_lt (by decide) wl (k - 15)
          have l16 := getD_lt (by decide) wl (k - 16)
          have hx : Hid (Sha.nextW b (Sha.wordsTo b k) k = (Sha.sig1 ((Sha.wordsTo b k)[k - 2]?.getD 0) + (Sha.wordsTo b k)[k - 7]?.getD 0 + Sha.sig0 ((Sha.wordsTo b k)[k - 15]?.getD 0) + (Sha.wordsTo b k)[k - 16]?.getD 0) % 4294967296) := Lib.hid (by rw [Sha.nextW, if_neg (by omega)])
          have e2 : (k : Int) - 2 = ((k - 2 : Nat) : Int) := by omega
          have e7 : (k : Int) - 7 = ((k - 7 : Nat) : Int) := by omega
          have e15 : (k : Int) - 15 = ((k - 15 : Nat) : Int) := by omega
          have e16 : (k : Int) - 16 = ((k - 16 : Nat) : Int) := by omega
          have m2 : k - 2 < 64 := by omega
          have m7 : k - 7 < 64 := by omega
          have m15 : k - 15 < 64 := by omega
          have m16 : k - 16 < 64 := by omega
          have n7 : k - 7 ≠ k := by omega
          have n16 : k - 16 ≠ k := by omega
          clear cellAt wl hlen
          generalize (Sha.wordsTo b k)[k - 2]?.getD 0 = x2 at *
          generalize (Sha.wordsTo b k)[k - 7]?.getD 0 = x7 at *
          generalize (Sha.wordsTo b k)[k - 15]?.getD 0 = x15 at *
          generalize (Sha.wordsTo b k)[k - 16]?.getD 0 = x16 at *
          generalize k - 2 = j2 at *
          generalize k - 7 = j7 at *
          generalize k - 15 = j15 at *
          generalize k - 16 = j16 at *
          have k0 : (0 : Int) ≤ (k : Int) := by omega
          have k1 : (k : Int) < 64 := by omega
          have z2 : (0 : Int) ≤ (j2 : Int) ∧ (j2 : Int) < 64 := by omega
          have z7 : (0 : Int) ≤ (j7 : Int) ∧ (j7 : Int) < 64 := by omega
          have z15 : (0 : Int) ≤ (j15 : Int) ∧ (j15 : Int) < 64 := by omega
          have z16 : (0 : Int) ≤ (j16 : Int) ∧ (j16 : Int) < 64 := by omega
          go_wp2_with fail
          go_quiet (fail)
          go_wp2_with fail
          go_region
          clear q2 q7 q15 q16 e2 e7 e15 e16 n7 n16 z2 z7 z15 z16 m2 m7 m15 m16 q0
          obtain ⟨v1, lv1, hv1, ev1, _⟩ := add32_some x16 x7
          have hv1' : Hid (∀ _ : Unit, v1 = (x16 + x7) % 4294967296) := Lib.hid fun _ => hv1
          clear hv1
          rw [ev1]
          have hS5 := Lib.hid ((hS.out.drewN (nq + 1)).set k v1)
          clear hS ev1
          generalize (wr.drewN (nq + 1)).setCell ⟨w.heap.size + 1 + 1, k, none⟩ (.int .u32 (v1 : Int)) = w5 at hS5 ⊢
          obtain ⟨r1, lr1, u1, c1⟩ := turned_some x15 7 l15 (by omega)
          obtain ⟨r2, lr2, u2, c2⟩ := turned_some x15 18 l15 (by omega)
          obtain ⟨r3, lr3, u3, d3⟩ := div_some 8 l15
          obtain ⟨r4, f1, lr4, u4⟩ := xor32_some lr1 lr2
          obtain ⟨s0, f2, ls0, u5⟩ := xor32_some lr4 lr3
          have hs0x : Hid (∀ _ : Unit, s0 = Sha.sig0 x15) := Lib.hid fun _ => (by rw [u5, u4, u3, u2, u1]; rfl)
          obtain ⟨v2, lv2, hv2, ev2, ew2⟩ := add32_some v1 s0
          have hv2' : Hid (∀ _ : Unit, v2 = (v1 + s0) % 4294967296) := Lib.hid fun _ => hv2
          have c1' := Lib.hid c1
          have c2' := Lib.hid c2
          simp only [Int.cast_ofNat_Int] at d3
          clear u1 u2 u3 u4 u5 c1 c2 hv2
          have hlen := spTo_len b hk
          have q0 := hS5.out.wds.cell (k := k) (by rw [List.length_set, hlen]; omega)
          have qf := hS5.out.wds.frozen k
          rw [show (((spTo b k).set k v1)[k]?.getD 0) = v1 by simp [hlen, hlt]] at q0
          go_wp2_with fail
          refine wp_region_still_tail 13 (by kernel_rfl) (by kernel_rfl) ?_
          simp only [List.take_succ_cons, List.take_zero, List.drop_succ_cons, List.drop_zero]
          repeat still_step
          still_call ((c1'.out _).mono fun _ _ h => ⟨h.1, h.2.symm⟩)
          repeat still_step
          still_call ((c2'.out _).mono fun _ _ h => ⟨h.1, h.2.symm⟩)
          repeat still_step
          refine wpStill_nil ?_
          change wpList _ _ _ _ _ w5.drew
          have hS6 := Lib.hid hS5.out.drew
          clear hS5 q0 qf
          generalize w5.drew = w6 at hS6 ⊢
          have q0 := hS6.out.wds.cell (k := k) (by rw [List.length_set, hlen]; omega)
          have qf := hS6.out.wds.frozen k
          rw [show (((spTo b k).set k v1)[k]?.getD 0) = v1 by simp [hlen, hlt]] at q0
          clear hlen
          go_wp2_with fail
          have hS7 := Lib.hid (hS6.out.set k v2)
          rw [List.set_set] at hS7
          clear hS6 q0 qf c1' c2' f1 f2 d3 ev2 ew2
          generalize w6.setCell ⟨w.heap.size + 1 + 1, k, none⟩ (.int .u32 (v2 : Int)) = w7 at hS7 ⊢
          obtain ⟨r1, lr1, u1, c1⟩ := turned_some x2 17 l2 (by omega)
          obtain ⟨r2, lr2, u2, c2⟩ := turned_some x2 19 l2 (by omega)
          obtain ⟨r3, lr3, u3, d3⟩ := div_some 1024 l2
          obtain ⟨r4, f1, lr4, u4⟩ := xor32_some lr1 lr2
          obtain ⟨s1, f2, ls1, u5⟩ := xor32_some lr4 lr3
          have hs1x : Hid (∀ _ : Unit, s1 = Sha.sig1 x2) := Lib.hid fun _ => (by rw [u5, u4, u3, u2, u1]; rfl)
          obtain ⟨v3, lv3, hv3, ev3, ew3⟩ := add32_some v2 s1
          have hv3' : Hid (∀ _ : Unit, v3 = (v2 + s1) % 4294967296) := Lib.hid fun _ => hv3
          have c1' := Lib.hid c1
          have c2' := Lib.hid c2
          simp only [Int.cast_ofNat_Int] at d3
          clear u1 u2 u3 u4 u5 c1 c2 hv3
          have hlen := spTo_len b hk
          have q0 := hS7.out.wds.cell (k := k) (by rw [List.length_set, hlen]; omega)
          have qf := hS7.out.wds.frozen k
          rw [show (((spTo b k).set k v2)[k]?.getD 0) = v2 by simp [hlen, hlt]] at q0
          go_wp2_with fail
          refine wp_region_still_tail 13 (by kernel_rfl) (by kernel_rfl) ?_
          simp only [List.take_succ_cons, List.take_zero, List.drop_succ_cons, List.drop_zero]
          repeat still_step
          still_call ((c1'.out _).mono fun _ _ h => ⟨h.1, h.2.symm⟩)
          repeat still_step
          still_call ((c2'.out _).mono fun _ _ h => ⟨h.1, h.2.symm⟩)
          repeat still_step
          refine wpStill_nil ?_
          change wpList _ _ _ _ _ w7.drew
          have hS8 := Lib.hid hS7.out.drew
          clear hS7 q0 qf
          generalize w7.drew = w8 at hS8 ⊢
          have q0 := hS8.out.wds.cell (k := k) (by rw [List.length_set, hlen]; omega)
          have qf := hS8.out.wds.frozen k
          rw [show (((spTo b k).set k v2)[k]?.getD 0) = v2 by simp [hlen, hlt]] at q0
          clear hlen
          go_wp2_with fail
          have hS9 := Lib.hid (hS8.out.set k v3)
          rw [List.set_set] at hS9
          clear hS8 q0 qf c1' c2' f1 f2 d3 ev3 ew3
          have hv3 : v3 = Sha.nextW b (Sha.wordsTo b k) k := by
            rw [hx.out, ← hs1x.out (), ← hs0x.out (), hv3'.out (), hv2'.out (), hv1'.out ()]
            omega
          have hS10 := hS9.out
          rw [hv3, spTo_set b hlt, ← hv3] at hS10
          go_roundw
          case rel => exact ⟨k + 1, by omega, by omega, by go_num, Lib.hid hS10⟩
          case measure => simp [intOf]; omega
        · rw [show k = 64 by omega, spTo_all] at hS
          rw [show (k : Int) = (64 : Int) by omega]
          have hwl : (Sha.wordsTo b 64).length = 64 := Sha.wordsTo_length b 64
          have hfinal : Hid (∀ L, L = Sha.wordsTo b 64 → L.length = 64 ∧ SB w wr b L) := Lib.hid (fun L e => e ▸ ⟨hwl, hS.out⟩)
          have hex : ∃ L, Hid (∀ _ : Unit, L = Sha.wordsTo b 64) := ⟨_, Lib.hid fun _ => rfl⟩
          obtain ⟨L, hL⟩ := hex
          obtain ⟨hLl, hSL⟩ := hfinal.out L (hL.out ())
          have hSL' := Lib.hid hSL
          clear hS hwl hfinal hSL
          have hRes := hSL'.out.res
          have hWds := Lib.hid hSL'.out.wds
          have hszL : (u32s L).toArray.size = 64 := by simp [u32s, hLl]
          have hszz : (u32s (zerW 64)).toArray.size = 64 := by simp [u32s, zerW]
          have hinfo : (Tryd.prog.info? 84).map (·.size) = some 64 := by kernel_rfl
          clear hLl
          go_wp2_with (first
            | (refine wpList_load_row rfl 84 _ rfl (w.heap.size + 1 + 1) rfl 84 (u32s L).toArray (0, 0) _ hWds.out Tryd.underlying84 rfl (by rw [hszL]; exact hinfo) ?_)
            | (refine wpList_store_row rfl 84 _ _ rfl (w.heap.size + 1) (u32s L).toArray rfl rfl 84 _ hRes (by rw [hszL]; exact hinfo) (by rw [hszL, hszz]) (by simp [u32s, Value.oneCell']) ?_))
          have hset := setRow_heap wr (w.heap.size + 1) _ (u32s L).toArray 84 _ hRes
          refine bodyPost_ret (results_cell_row rfl _ _ (w.heap.size + 1) 84 (u32s L).toArray (0, 0) _ rfl hset Tryd.underlying84 rfl (by rw [hszL]; exact hinfo)) rfl ⟨?_, setRow_belS hSL'.out.bel (by omega) _⟩
          rw [hL.out ()]
end Go.Proofs.YtlolnpilpdkbkaaDoor

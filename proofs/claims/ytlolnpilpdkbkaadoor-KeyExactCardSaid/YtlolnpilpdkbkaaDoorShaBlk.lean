/- The program's Block. -/
import Derived.Test.YtlolnpilpdkbkaaDoorSpread
namespace Go.Proofs.YtlolnpilpdkbkaaDoor
open Go.RowKit

theorem xor_not {x : Nat} (h : x < 4294967296) : 4294967295 ^^^ x = 4294967295 - x := by
  apply Nat.eq_of_testBit_eq
  intro i
  rw [Sha.not_bit h, Nat.testBit_xor, show 4294967295 = 2 ^ 32 - 1 from rfl, Nat.testBit_two_pow_sub_one]
  by_cases hi : i < 32
  · simp [hi]
  · have : x.testBit i = false := Nat.testBit_lt_two_pow (Nat.lt_of_lt_of_le h (Nat.le_trans (by decide : 4294967296 ≤ 2 ^ 32) (Nat.pow_le_pow_right (by decide) (by omega))))
    simp [hi, this]
theorem not32_some {x : Nat} (h : x < 4294967296) : ∃ c : Nat, bits .xor .u32 IntKind.u32.max (x : Int) = (c : Int) ∧ c < 4294967296 ∧ c = 4294967295 - x :=
  ⟨4294967295 - x, by rw [← xor_not h]; exact u32_xor_nat 4294967295 x (by decide) h, by omega, rfl⟩
theorem and32_some {a b : Nat} (ha : a < 4294967296) (hb : b < 4294967296) : ∃ c : Nat, bits .and .u32 (a : Int) (b : Int) = (c : Int) ∧ c < 4294967296 ∧ c = a &&& b :=
  ⟨a &&& b, u32_and_nat a b ha hb, Nat.lt_of_le_of_lt Nat.and_le_left ha, rfl⟩

/-- The sums, i of them done, in place. -/
def addTo (s r : List Nat) (i : Nat) : List Nat := (List.range 8).map fun j => if j < i then (s[j]?.getD 0 + r[j]?.getD 0) % 4294967296 else r[j]?.getD 0
theorem addTo_len (s r : List Nat) (i : Nat) : (addTo s r i).length = 8 := by simp [addTo]
theorem addTo_get (s r : List Nat) {i : Nat} (h : i < 8) : (addTo s r i)[i]?.getD 0 = r[i]?.getD 0 := by simp [addTo, h]
theorem addTo_zero (s : List Nat) {r : List Nat} (h : r.length = 8) : addTo s r 0 = r := by
  apply List.ext_getElem
  · simp [addTo, h]
  · intro i _ h2
    simp [addTo, h2]
theorem addTo_set (s r : List Nat) {i : Nat} (_h : i < 8) : (addTo s r i).set i ((s[i]?.getD 0 + r[i]?.getD 0) % 4294967296) = addTo s r (i + 1) := by
  apply List.ext_getElem
  · simp [addTo]
  · intro j h1 h2
    have hj : j < 8 := by rw [addTo_len] at h2; exact h2
    rw [List.getElem_set]
    simp only [addTo, List.getElem_map, List.getElem_range]
    by_cases e : i = j
    · subst e
      simp
    · rw [if_neg e]
      by_cases h3 : j < i
      · rw [if_pos h3, if_pos (by omega)]
      · rw [if_neg h3, if_neg (by omega)]
theorem addTo_all (ks s b : List Nat) : addTo s (Sha.rounds (Sha.wordsTo b 64) ks s 64) 8 = Sha.blockL ks s b := by
  unfold addTo Sha.blockL
  apply List.map_congr_left
  intro j hj
  rw [if_pos (List.mem_range.1 hj)]

/-- What stands while Block runs. -/
structure BB (w wr : World) (s ws L : List Nat) (gw gs : Nat) : Prop where
  bel : Below w.heap.size w wr
  st : Blk32 wr w.heap.size 61 s
  res : Blk32 wr (w.heap.size + 1 + 1) 61 (zerW 8)
  wd : Blk32 wr gw 84 ws
  sb : Blk32 wr gs 61 L
  n1 : w.heap.size + 1 + 1 < gs
  n2 : gw ≠ gs
theorem BB.put {w wr : World} {s ws L L' : List Nat} {gw gs : Nat} (h : BB w wr s ws L gw gs) : BB w (wr.setRow gs (u32s L').toArray) s ws L' gw gs where
  bel := setRow_belS h.bel (by have := h.n1; omega) _
  st := (setRow_other wr gs w.heap.size _ (by have := h.n1; omega)).trans h.st
  res := (setRow_other wr gs (w.heap.size + 1 + 1) _ (by have := h.n1; omega)).trans h.res
  wd := (setRow_other wr gs gw _ h.n2).trans h.wd
  sb := setRow_heap wr gs _ _ _ _ h.sb
  n1 := h.n1
  n2 := h.n2
theorem BB.set {w wr : World} {s ws L : List Nat} {gw gs : Nat} (h : BB w wr s ws L gw gs) (k x : Nat) : BB w (wr.setCell ⟨gs, k, none⟩ (.int .u32 (x : Int))) s ws (L.set k x) gw gs where
  bel := h.bel.setCell (p := ⟨gs, k, none⟩) (by have := h.n1; simp; omega) _
  st := h.st.far (p := ⟨gs, k, none⟩) (by have := h.n1; simp; omega) _
  res := h.res.far (p := ⟨gs, k, none⟩) (by have := h.n1; simp; omega) _
  wd := h.wd.far (p := ⟨gs, k, none⟩) h.n2 _
  sb := h.sb.set k x
  n1 := h.n1
  n2 := h.n2
theorem BB.drewN {w wr : World} {s ws L : List Nat} {gw gs : Nat} (h : BB w wr s ws L gw gs) (n : Nat) : BB w (wr.drewN n) s ws L gw gs := ⟨below_drewN h.bel n, h.st, h.res, h.wd, h.sb, h.n1, h.n2⟩
theorem BB.drew {w wr : World} {s ws L : List Nat} {gw gs : Nat} (h : BB w wr s ws L gw gs) : BB w wr.drew s ws L gw gs := ⟨h.bel.drew, h.st, h.res, h.wd, h.sb, h.n1, h.n2⟩

set_option maxRecDepth 100000 in
set_option maxHeartbeats 4000000 in
theorem block_any (s b ks : List Nat) (w : World) (hs : s.length = 8) (hsl : ∀ x ∈ s, x < 4294967296) (hb : ∀ x ∈ b, x < 256) (hn : b.length = 64)
    (hk : ks.length = 64) (hkl : ∀ x ∈ ks, x < 4294967296) (hT : ∀ wr : World, Below w.heap.size w wr → ∀ t, t < 64 → wr.cell? ⟨3, t, none⟩ = some (.int .u32 ((ks[t]?.getD 0 : Nat) : Int))) :
    Calls Tryd.prog 45 #[.agg (u32s s).toArray, .agg (u8row b)] w fun e w' => e = .returned (.agg (u32s (Sha.blockL ks s b)).toArray) ∧ Below w.heap.size w w' := by
  have hz := zero8
  have hz2 := zero64
  have hsp := Lib.hid fun w => spread_any b w hb hn
  have hs' := Lib.hid hs
  have hsl' := Lib.hid hsl
  have hk' := Lib.hid hk
  have hkl' := Lib.hid hkl
  have hT' := Lib.hid hT
  have hwl := Lib.hid (wordsTo_lt hb 64)
  have hwn : Hid (∀ _ : Unit, (Sha.wordsTo b 64).length = 64) := Lib.hid fun _ => Sha.wordsTo_length b 64
  have hbn : (u8row b).size = 64 := by simp [u8row, u8s, hn]
  have hsn : (u32s s).toArray.size = 8 := by simp [u32s, hs]
  have hfin : Hid (∀ _ : Unit, addTo s (Sha.rounds (Sha.wordsTo b 64) ks s 64) 8 = Sha.blockL ks s b) := Lib.hid fun _ => addTo_all ks s b
  have hi8 : (Tryd.prog.info? 61).map (·.size) = some 8 := by kernel_rfl
  have hi64 : (Tryd.prog.info? 84).map (·.size) = some 64 := by kernel_rfl
  have hib : (Tryd.prog.info? 62).map (·.size) = some 64 := by kernel_rfl
  have hbn' := Lib.hid hbn
  have hsn' := Lib.hid hsn
  have hi8' := Lib.hid hi8
  have hi64' := Lib.hid hi64
  have hib' := Lib.hid hib
  have hB0 : Below w.heap.size w (((w.alloc (.cells (u32s s).toArray 61)).alloc (.cells (u8row b) 62)).alloc (.cells (u32s (zerW 8)).toArray 61)) := (((Below.refl _ _).alloc (Nat.le_refl _) _).alloc (by simp) _).alloc (by simp; omega) _
  have h0 : Blk32 (((w.alloc (.cells (u32s s).toArray 61)).alloc (.cells (u8row b) 62)).alloc (.cells (u32s (zerW 8)).toArray 61)) w.heap.size 61 s := (Below.heap_alloc _ _ w.heap.size (by simp; omega)).trans (heap_alloc2_old w _ _)
  have h1 : (((w.alloc (.cells (u32s s).toArray 61)).alloc (.cells (u8row b) 62)).alloc (.cells (u32s (zerW 8)).toArray 61)).heap[w.heap.size + 1]? = some (.cells (u8row b) 62 (0, 0)) := (Below.heap_alloc _ _ (w.heap.size + 1) (by simp)).trans (heap_alloc2_new w _ _)
  have h2 : Blk32 (((w.alloc (.cells (u32s s).toArray 61)).alloc (.cells (u8row b) 62)).alloc (.cells (u32s (zerW 8)).toArray 61)) (w.heap.size + 1 + 1) 61 (zerW 8) := by
    have := heap_alloc_new ((w.alloc (.cells (u32s s).toArray 61)).alloc (.cells (u8row b) 62)) (.cells (u32s (zerW 8)).toArray 61)
    rwa [World.size_alloc, World.size_alloc] at this
  have hsz : (((w.alloc (.cells (u32s s).toArray 61)).alloc (.cells (u8row b) 62)).alloc (.cells (u32s (zerW 8)).toArray 61)).heap.size = w.heap.size + 3 := by simp
  have hB0' := Lib.hid hB0
  have h0' := Lib.hid h0
  have h1' := Lib.hid h1
  have h2' := Lib.hid h2
  have hsz' := Lib.hid hsz
  clear hs hsl hb hn hk hkl hT hbn hsn hi8 hi64 hib hB0 h0 h1 h2 hsz
  generalize Sha.wordsTo b 64 = ws at hsp hwl hwn hfin
  go_enter Tryd.func45, Tryd.ntmps45
  go_wp2_with (first
    | (refine wpList_load_row rfl 62 _ rfl (w.heap.size + 1) rfl 62 (u8row b) (0, 0) _ h1'.out Tryd.underlying62 rfl (by rw [hbn'.out]; exact hib'.out) ?_))
  refine (hsp.out _).mono ?_
  rintro e w3 ⟨rfl, hb3⟩
  rw [hsz'.out] at hb3
  have hsz3 : w.heap.size + 3 ≤ w3.heap.size := by have := hb3.size; rw [hsz'.out] at this; exact this
  have hB3 := Lib.hid (hB0'.out.trans (hb3.mono (by omega)))
  have s3 := Lib.hid (h0'.out.below hb3 (by omega))
  have r3 := Lib.hid (h2'.out.below hb3 (by omega))
  have hwn2 := hwn.out ()
  have hwsz : (u32s ws).toArray.size = 64 := by simp [u32s, hwn2]
  have hzsz : (u32s (zerW 64)).toArray.size = 64 := by simp [u32s, zerW]
  have hz8 : (u32s (zerW 8)).toArray.size = 8 := by simp [u32s, zerW]
  have y1 : Hid (Blk32 ((w3.alloc (.cells (u32s (zerW 64)).toArray 84)).setRow w3.heap.size (u32s ws).toArray) w.heap.size 61 s) := Lib.hid ((setRow_other _ w3.heap.size w.heap.size _ (by omega)).trans (s3.out.alloc _))
  have y2 : Hid (Blk32 ((w3.alloc (.cells (u32s (zerW 64)).toArray 84)).setRow w3.heap.size (u32s ws).toArray) (w.heap.size + 1 + 1) 61 (zerW 8)) := Lib.hid ((setRow_other _ w3.heap.size (w.heap.size + 1 + 1) _ (by omega)).trans (r3.out.alloc _))
  have y3 : Hid (Blk32 ((w3.alloc (.cells (u32s (zerW 64)).toArray 84)).setRow w3.heap.size (u32s ws).toArray) w3.heap.size 84 ws) := Lib.hid (setRow_heap _ w3.heap.size _ _ _ _ (heap_alloc_new w3 _))
  have y4 : Hid (Below w.heap.size w ((w3.alloc (.cells (u32s (zerW 64)).toArray 84)).setRow w3.heap.size (u32s ws).toArray)) := Lib.hid (setRow_belS (hB3.out.alloc (by omega) _) (by omega) _)
  have y5 : Hid (((w3.alloc (.cells (u32s (zerW 64)).toArray 84)).setRow w3.heap.size (u32s ws).toArray).heap.size = w3.heap.size + 1) := Lib.hid (by simp)
  clear hB0' h0' h1' h2' hsz' hb3 hsp hwn2 s3 r3 hB3
  go_wp2_with (first
    | (refine wpList_store_row rfl 84 _ _ rfl w3.heap.size (u32s ws).toArray rfl rfl 84 _ (heap_alloc_new w3 _) (by rw [hwsz]; exact hi64'.out) (by rw [hwsz, hzsz]) (by simp [u32s, Value.oneCell']) ?_; generalize ((w3.alloc (.cells (u32s (zerW 64)).toArray 84)).setRow w3.heap.size (u32s ws).toArray) = w4 at y1 y2 y3 y4 y5 ⊢)
    | (refine wpList_load_row rfl 61 _ rfl w.heap.size rfl 61 (u32s s).toArray (0, 0) _ y1.out Tryd.underlying61 rfl (by rw [hsn'.out]; exact hi8'.out) ?_)
    | (refine wpList_store_row rfl 61 _ _ rfl w4.heap.size (u32s s).toArray rfl rfl 61 _ (heap_alloc_new w4 _) (by rw [hsn'.out]; exact hi8'.out) (by rw [hsn'.out, hz8]) (by simp [u32s, Value.oneCell']) ?_))
  have h4 := heap_alloc_new w4 (.cells (u32s (zerW 8)).toArray 61)
  have y6 := y5.out
  have hBB := Lib.hid (BB.put (L' := s) (BB.mk (gs := w4.heap.size) (y4.out.alloc y4.out.size _) (y1.out.alloc _) (y2.out.alloc _) (y3.out.alloc _) h4 (by omega) (by omega)))
  clear h4 y1 y2 y3 y4 y5 hwsz hzsz hz8 hz hz2
  generalize ((w4.alloc (.cells (u32s (zerW 8)).toArray 61)).setRow w4.heap.size (u32s s).toArray) = w5 at hBB ⊢
  have hgg : w.heap.size + 1 + 1 < w4.heap.size := by omega
  clear y6
  generalize w4.heap.size = gs at hBB hgg ⊢
  generalize w3.heap.size = gw at hBB ⊢
  go_wp2_with fail
  go_loopw [20] (fun i wr => ∃ t : Nat, t ≤ 64 ∧ i = .int .i64 t ∧ Hid (BB w wr s ws (Sha.rounds ws ks s t) gw gs)) (fun i _ => 64 - (intOf i).toNat)
  case atStart => exact ⟨0, by omega, rfl, hBB⟩
  case round =>
    clear hBB
    obtain ⟨t, ht, rfl, hB⟩ := hrel
    by_cases hlt : t < 64
    · have hlen := rounds_len ws ks hs'.out t
      have hrl := rounds_lt ws ks hsl'.out t
      have hnext : Hid (∀ _ : Unit, Sha.rounds ws ks s (t + 1) = Sha.round (Sha.rounds ws ks s t) (ws[t]?.getD 0) (ks[t]?.getD 0)) := Lib.hid fun _ => rfl
      have qk := hT'.out wr hB.out.bel t hlt
      have qw := hB.out.wd.cell (k := t) (by rw [hwn.out ()]; exact hlt)
      have lw := getD_lt (by decide) hwl.out t
      have lk := getD_lt (by decide) hkl'.out t
      generalize Sha.rounds ws ks s t = S at hlen hrl hnext hB
      obtain ⟨a, b1, c1, d, e, f, g, h, rfl⟩ := list8 hlen
      have hwt : ∃ x, Hid (∀ _ : Unit, ws[t]?.getD 0 = x) := ⟨_, Lib.hid fun _ => rfl⟩
      have hkt : ∃ x, Hid (∀ _ : Unit, ks[t]?.getD 0 = x) := ⟨_, Lib.hid fun _ => rfl⟩
      obtain ⟨wt, hwt⟩ := hwt
      obtain ⟨kt, hkt⟩ := hkt
      rw [hwt.out ()] at qw lw hnext
      rw [hkt.out ()] at qk lk hnext
      have la : a < 4294967296 := hrl a (by simp)
      have lb : b1 < 4294967296 := hrl b1 (by simp)
      have lc : c1 < 4294967296 := hrl c1 (by simp)
      have ld : d < 4294967296 := hrl d (by simp)
      have le : e < 4294967296 := hrl e (by simp)
      have lf : f < 4294967296 := hrl f (by simp)
      have lg : g < 4294967296 := hrl g (by simp)
      have lh : h < 4294967296 := hrl h (by simp)
      have q0 := hB.out.sb.cell (k := 0) (by simp)
      have q1 := hB.out.sb.cell (k := 1) (by simp)
      have q2 := hB.out.sb.cell (k := 2) (by simp)
      have q3 := hB.out.sb.cell (k := 3) (by simp)
      have q4 := hB.out.sb.cell (k := 4) (by simp)
      have q5 := hB.out.sb.cell (k := 5) (by simp)
      have q6 := hB.out.sb.cell (k := 6) (by simp)
      have q7 := hB.out.sb.cell (k := 7) (by simp)
      simp only [List.getElem?_cons_zero, List.getElem?_cons_succ, Option.getD_some] at q0 q1 q2 q3 q4 q5 q6 q7
      clear hlen hrl
      obtain ⟨r1, lr1, u1, c6⟩ := turned_some e 6 le (by omega)
      obtain ⟨r2, lr2, u2, c11⟩ := turned_some e 11 le (by omega)
      obtain ⟨r3, lr3, u3, c25⟩ := turned_some e 25 le (by omega)
      obtain ⟨r4, f1, lr4, u4⟩ := xor32_some lr1 lr2
      obtain ⟨r5, f2, lr5, u5⟩ := xor32_some lr4 lr3
      obtain ⟨x1, lx1, v1, ev1, ew1⟩ := add32_some h wt
      obtain ⟨x2, lx2, v2, ev2, ew2⟩ := add32_some x1 kt
      obtain ⟨x3, lx3, v3, ev3, ew3⟩ := add32_some x2 r5
      obtain ⟨p1, f3, lp1, u6⟩ := and32_some le lf
      obtain ⟨p2, f4, lp2, u7⟩ := not32_some le
      obtain ⟨p3, f5, lp3, u8⟩ := and32_some lp2 lg
      obtain ⟨p4, f6, lp4, u9⟩ := xor32_some lp1 lp3
      obtain ⟨x4, lx4, v4, ev4, ew4⟩ := add32_some x3 p4
      obtain ⟨s1, ls1, u10, c2⟩ := turned_some a 2 la (by omega)
      obtain ⟨s2, ls2, u11, c13⟩ := turned_some a 13 la (by omega)
      obtain ⟨s3, ls3, u12, c22⟩ := turned_some a 22 la (by omega)
      obtain ⟨s4, f7, ls4, u13⟩ := xor32_some ls1 ls2
      obtain ⟨s5, f8, ls5, u14⟩ := xor32_some ls4 ls3
      obtain ⟨m1, f9, lm1, u15⟩ := and32_some la lb
      obtain ⟨m2, f10, lm2, u16⟩ := and32_some la lc
      obtain ⟨m3, f11, lm3, u17⟩ := xor32_some lm1 lm2
      obtain ⟨m4, f12, lm4, u18⟩ := and32_some lb lc
      obtain ⟨m5, f13, lm5, u19⟩ := xor32_some lm3 lm4
      obtain ⟨y1, ly1, v5, ev5, ew5⟩ := add32_some s5 m5
      obtain ⟨a2, la2, v6, ev6, ew6⟩ := add32_some x4 y1
      obtain ⟨e2, le2, v7, ev7, ew7⟩ := add32_some d x4
      have hround : Hid (∀ _ : Unit, Sha.round [a, b1, c1, d, e, f, g, h] wt kt = [a2, a, b1, c1, e2, e, f, g]) := Lib.hid fun _ => by
        have k1 : Sha.big1 e = r5 := by rw [u5, u4, u3, u2, u1]; rfl
        have k2 : Sha.choose e f g = p4 := by rw [u9, u6, u8, u7]; exact (Sha.choose_xor f g le).symm
        have k3 : Sha.big0 a = s5 := by rw [u14, u13, u12, u11, u10]; rfl
        have k4 : Sha.most a b1 c1 = m5 := by rw [u19, u17, u15, u16, u18]; exact (Sha.most_xor a b1 c1).symm
        simp only [Sha.round, Sha.xOf, Sha.yOf, List.getElem?_cons_zero, List.getElem?_cons_succ, Option.getD_some, k1, k2, k3, k4, List.cons.injEq, true_and, and_true]
        omega
      have c6' := Lib.hid c6
      have c11' := Lib.hid c11
      have c25' := Lib.hid c25
      have c2' := Lib.hid c2
      have c13' := Lib.hid c13
      have c22' := Lib.hid c22
      have i0 : (0 : Int) ≤ (t : Int) := by omega
      have i1 : (t : Int) < 64 := by omega
      clear u1 u2 u3 u4 u5 u6 u7 u8 u9 u10 u11 u12 u13 u14 u15 u16 u17 u18 u19 v1 v2 v3 v4 v5 v6 v7 c6 c11 c25 c2 c13 c22
      go_wp2_with fail
      go_quiet (fail)
      have hB6 := Lib.hid (hB.out.drewN nq)
      clear q0 q1 q2 q3 q4 q5 q6 q7 qk qw hB
      generalize wr.drewN nq = w6 at hB6 ⊢
      have q7 := hB6.out.sb.cell (k := 7) (by simp)
      simp only [List.getElem?_cons_zero, List.getElem?_cons_succ, Option.getD_some] at q7
      have qk := hT'.out w6 hB6.out.bel t hlt
      rw [hkt.out ()] at qk
      have qw := hB6.out.wd.cell (k := t) (by rw [hwn.out ()]; exact hlt)
      rw [hwt.out ()] at qw
      go_wp2_with fail
      go_quiet (fail)
      have hB7 := Lib.hid (hB6.out.drewN nq)
      clear q7 qk qw hB6
      generalize w6.drewN nq = w7 at hB7 ⊢
      have q3 := hB7.out.sb.cell (k := 3) (by simp)
      simp only [List.getElem?_cons_zero, List.getElem?_cons_succ, Option.getD_some] at q3
      go_wp2_with fail
      refine (c6'.out _).mono ?_
      rintro e' w' ⟨rfl, rfl⟩
      go_wp2_with fail
      refine (c11'.out _).mono ?_
      rintro e' w' ⟨rfl, rfl⟩
      go_wp2_with fail
      refine (c25'.out _).mono ?_
      rintro e' w' ⟨rfl, rfl⟩
      go_wp2_with fail
      refine (c2'.out _).mono ?_
      rintro e' w' ⟨rfl, rfl⟩
      go_wp2_with fail
      refine (c13'.out _).mono ?_
      rintro e' w' ⟨rfl, rfl⟩
      go_wp2_with fail
      refine (c22'.out _).mono ?_
      rintro e' w' ⟨rfl, rfl⟩
      have hsb := Lib.hid hB7.out.sb
      go_wp2_with (refine wpList_store_row rfl 61 _ _ rfl gs (u32s [a2, a, b1, c1, e2, e, f, g]).toArray rfl rfl 61 _ hsb.out (by exact hi8'.out) (by simp [u32s]) (by simp [u32s, Value.oneCell']) ?_)
      go_roundw
      case rel => exact ⟨t + 1, by omega, by go_num, Lib.hid (by rw [hnext.out (), hround.out ()]; exact hB7.out.put)⟩
      case measure => simp [intOf]; omega
    · rw [show t = 64 by omega] at hB
      rw [show (t : Int) = (64 : Int) by omega]
      obtain ⟨wo, rfl⟩ : ∃ wo : World, wo = wr := ⟨_, rfl⟩
      have hrl := Lib.hid (rounds_lt ws ks hsl'.out 64)
      have hrn := Lib.hid (rounds_len ws ks hs'.out 64)
      generalize Sha.rounds ws ks s 64 = r at hB hrl hrn hfin
      rw [← addTo_zero s hrn.out] at hB
      go_wp2_with fail
      go_loopw [101] (fun i wr => ∃ k : Nat, k ≤ 8 ∧ i = .int .i64 k ∧ Hid (BB w wr s ws (addTo s r k) gw gs)) (fun i _ => 8 - (intOf i).toNat)
      case atStart => exact ⟨0, by omega, rfl, hB⟩
      case round =>
        clear hB ht hlt
        obtain ⟨k, hk, rfl, hB⟩ := hrel
        by_cases hlt : k < 8
        · have l1 := getD_lt (by decide) hsl'.out k
          have l2 := getD_lt (by decide) hrl.out k
          have q1 := hB.out.st.cell (k := k) (by rw [hs'.out]; exact hlt)
          have q2 := hB.out.sb.cell (k := k) (by rw [addTo_len]; exact hlt)
          rw [addTo_get s r hlt] at q2
          have qf := hB.out.sb.frozen k
          have hset : Hid (∀ x : Nat, x = (s[k]?.getD 0 + r[k]?.getD 0) % 4294967296 → (addTo s r k).set k x = addTo s r (k + 1)) := Lib.hid fun x e => by rw [e]; exact addTo_set s r hlt
          have hx : ∃ x, Hid (∀ _ : Unit, s[k]?.getD 0 = x) := ⟨_, Lib.hid fun _ => rfl⟩
          have hy : ∃ x, Hid (∀ _ : Unit, r[k]?.getD 0 = x) := ⟨_, Lib.hid fun _ => rfl⟩
          obtain ⟨x, hx⟩ := hx
          obtain ⟨y, hy⟩ := hy
          rw [hx.out ()] at q1 l1 hset
          rw [hy.out ()] at q2 l2 hset
          obtain ⟨v, lv, hv, ev, ew⟩ := add32_some y x
          have hv' : Hid (∀ _ : Unit, v = (x + y) % 4294967296) := Lib.hid fun _ => by rw [hv, Nat.add_comm]
          clear hv
          have k0 : (0 : Int) ≤ (k : Int) := by omega
          have k1 : (k : Int) < 8 := by omega
          go_wp2_with fail
          refine wp_region_still_tail 8 (by kernel_rfl) (by kernel_rfl) ?_
          simp only [List.take_succ_cons, List.take_zero, List.drop_succ_cons, List.drop_zero]
          repeat still_step
          refine wpStill_nil ?_
          change wpList _ _ _ _ _ wr.drew
          have hB2 := Lib.hid hB.out.drew
          clear hB q1 q2 qf
          generalize wr.drew = w8 at hB2 ⊢
          have q2 := hB2.out.sb.cell (k := k) (by rw [addTo_len]; exact hlt)
          have qf := hB2.out.sb.frozen k
          go_wp2_with fail
          have hB3 := hB2.out.set k v
          rw [hset.out v (hv'.out ())] at hB3
          go_roundw
          case rel => exact ⟨k + 1, by omega, by go_num, Lib.hid hB3⟩
          case measure => simp [intOf]; omega
        · rw [show k = 8 by omega, hfin.out ()] at hB
          rw [show (k : Int) = (8 : Int) by omega]
          have hLn : (Sha.blockL ks s b).length = 8 := by rw [Sha.blockL]; simp
          have hL : ∃ L, Hid (∀ _ : Unit, Sha.blockL ks s b = L) := ⟨_, Lib.hid fun _ => rfl⟩
          obtain ⟨L, hL⟩ := hL
          rw [hL.out ()] at hB hLn
          have hsL := Lib.hid hB.out.sb
          have hRs := Lib.hid hB.out.res
          have hszL : (u32s L).toArray.size = 8 := by simp [u32s, hLn]
          have hszz : (u32s (zerW 8)).toArray.size = 8 := by simp [u32s, zerW]
          clear hLn
          go_wp2_with (first
            | (refine wpList_load_row rfl 61 _ rfl gs rfl 61 (u32s L).toArray (0, 0) _ hsL.out Tryd.underlying61 rfl (by rw [hszL]; exact hi8'.out) ?_)
            | (refine wpList_store_row rfl 61 _ _ rfl (w.heap.size + 1 + 1) (u32s L).toArray rfl rfl 61 _ hRs.out (by rw [hszL]; exact hi8'.out) (by rw [hszL, hszz]) (by simp [u32s, Value.oneCell']) ?_))
          have hset := setRow_heap wr (w.heap.size + 1 + 1) _ (u32s L).toArray 61 _ hRs.out
          refine bodyPost_ret (results_cell_row rfl _ _ (w.heap.size + 1 + 1) 61 (u32s L).toArray (0, 0) _ rfl hset Tryd.underlying61 rfl (by rw [hszL]; exact hi8'.out)) rfl ⟨?_, setRow_belS hB.out.bel (by omega) _⟩
          rw [hL.out ()]
end Go.Proofs.YtlolnpilpdkbkaaDoor

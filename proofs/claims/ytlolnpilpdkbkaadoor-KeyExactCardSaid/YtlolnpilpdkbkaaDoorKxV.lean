/- The document's value, Parse. -/
import Derived.Test.YtlolnpilpdkbkaaDoorKxF
import Derived.Test.YtlolnpilpdkbkaaDoorKxH
namespace Go.Proofs.YtlolnpilpdkbkaaDoor
open Go.RowKit
set_option linter.unusedSimpArgs false
set_option linter.unusedVariables false

theorem index_dig (i : Nat) (hi : i < 16) (W : World) : (Instr.index 9 (.string ⟨#[48, 49, 50, 51, 52, 53, 54, 55, 56, 57, 97, 98, 99, 100, 101, 102]⟩) (.int .i64 (i : Int))).run Tryd.prog W = .ok (.int .u8 ((dg i).toNat : Int)) W := by
  rcases (show i = 0 ∨ i = 1 ∨ i = 2 ∨ i = 3 ∨ i = 4 ∨ i = 5 ∨ i = 6 ∨ i = 7 ∨ i = 8 ∨ i = 9 ∨ i = 10 ∨ i = 11 ∨ i = 12 ∨ i = 13 ∨ i = 14 ∨ i = 15 by omega) with rfl | rfl | rfl | rfl | rfl | rfl | rfl | rfl | rfl | rfl | rfl | rfl | rfl | rfl | rfl | rfl <;> kernel_rfl
theorem val_none {c : UInt8} (h : ∀ j, j < 16 → dg j ≠ c) : val c = -1 := by
  have h1 := val_ge c
  rcases Int.lt_or_le (val c) 0 with h2 | h2
  · omega
  · obtain ⟨h3, h4⟩ := val_lt c h2
    exact absurd h4 (h _ (by omega))
set_option maxRecDepth 100000 in
set_option maxHeartbeats 1000000 in
theorem refValue_any (c : UInt8) (w : World) : Calls Tryd.prog 27 #[.int .u8 (c.toNat : Int)] w fun e w' => e = .returned (.int .i64 (val c)) ∧ w' = w := by
  obtain ⟨T, hT⟩ : ∃ T, Hid (val c = T) := ⟨_, Lib.hid rfl⟩
  rw [hT.out]
  obtain ⟨n, hn⟩ : ∃ n, c.toNat = n := ⟨_, rfl⟩
  have hn' := Lib.hid hn
  rw [hn]
  clear hn
  go_enter Tryd.func27, Tryd.ntmps27
  go_wp2_with fail
  go_loopw [3] (fun iv wr => ∃ i : Nat, i ≤ 16 ∧ iv = .int .i64 (i : Int) ∧ Hid (∀ j, j < i → dg j ≠ c) ∧ wr = w) (fun iv _ => 16 - (intOf iv).toNat)
  case atStart => exact ⟨0, by omega, rfl, Lib.hid fun j hj => by omega, rfl⟩
  case round =>
    obtain ⟨i, hi, rfl, hno, rfl⟩ := hrel
    by_cases hlt : i < 16
    · have hix := index_dig i hlt
      obtain ⟨d, hd⟩ : ∃ d, (dg i).toNat = d := ⟨_, rfl⟩
      rw [hd] at hix
      by_cases he : d = n
      · have hv : Hid (T = (i : Int)) := Lib.hid (by
          have : dg i = c := UInt8.toNat_inj.1 (by rw [hd, he, hn'.out])
          rw [← hT.out, ← this]
          exact val_dg i hlt)
        have q1 : ((d : Int) == (n : Int)) = true := by simp [he]
        clear hd he
        go_wp2_with fail
        go_ret
        exact ⟨ret_int (by first | rw [hv.out] | rw [hv]), rfl⟩
      · have q1 : ((d : Int) == (n : Int)) = false := by simp; omega
        have hno2 : Hid (∀ j, j < i + 1 → dg j ≠ c) := Lib.hid fun j hj e => by
          rcases Nat.lt_or_ge j i with h | h
          · exact hno.out j h e
          · rw [show j = i by omega] at e
            exact he (by rw [← hd, e, hn'.out])
        clear hd he
        go_wp2_with fail
        go_roundw
        case rel => exact ⟨i + 1, by omega, by go_num, hno2, trivial⟩
        case measure => simp [intOf]; omega
    · have hv : Hid (T = -1) := Lib.hid (by rw [← hT.out]; exact val_none fun j hj => hno.out j (by omega))
      go_wp2_with fail
      go_ret
      exact ⟨ret_int (by first | rw [hv.out] | rw [hv]), rfl⟩
/-- The bytes behind i digits. -/
def halfV (s : List UInt8) (i t : Nat) : Nat := if 2 * t + 1 < i then unhex (s[2 * t]?.getD 0) (s[2 * t + 1]?.getD 0) else if 2 * t < i then (val (s[2 * t]?.getD 0)).toNat else 0
def halfL (s : List UInt8) (i : Nat) : List Nat := (List.range 32).map (halfV s i)
theorem halfL_length (s : List UInt8) (i : Nat) : (halfL s i).length = 32 := by simp [halfL]
theorem halfL_at (s : List UInt8) (i t : Nat) (h : t < 32) : (halfL s i)[t]? = some (halfV s i t) := by simp [halfL, h]
theorem halfL_zero (s : List UInt8) : halfL s 0 = zeros 32 := by
  apply List.ext_getElem?
  intro t
  rcases Nat.lt_or_ge t 32 with h | h
  · rw [halfL_at s 0 t h]
    unfold zeros halfV
    rw [List.getElem?_replicate, if_pos h, if_neg (by omega), if_neg (by omega)]
  · rw [List.getElem?_eq_none (by rw [halfL_length]; exact h), List.getElem?_eq_none (by simp [zeros]; exact h)]
theorem halfL_step (s : List UInt8) (i : Nat) (hi : i < 64) : (halfL s i).set (i / 2) (halfV s i (i / 2) * 16 + (val (s[i]?.getD 0)).toNat) = halfL s (i + 1) := by
  apply List.ext_getElem?
  intro t
  rcases Nat.lt_or_ge t 32 with h | h
  · rw [halfL_at s (i + 1) t h]
    by_cases ht : i / 2 = t
    · subst ht
      rw [List.getElem?_set_self (by rw [halfL_length]; omega)]
      congr 1
      unfold halfV
      rcases Nat.mod_two_eq_zero_or_one i with h2 | h2
      · rw [if_neg (by omega), if_neg (by omega), if_neg (by omega), if_pos (by omega), show 2 * (i / 2) = i by omega]
        omega
      · rw [if_neg (by omega), if_pos (by omega), if_pos (by omega), show 2 * (i / 2) + 1 = i by omega]
        rfl
    · rw [List.getElem?_set_ne ht, halfL_at s i t h]
      congr 1
      unfold halfV
      by_cases h1 : 2 * t + 1 < i
      · rw [if_pos h1, if_pos (by omega)]
      · rw [if_neg h1, if_neg (show ¬ 2 * t < i by omega), if_neg (show ¬ 2 * t + 1 < i + 1 by omega), if_neg (show ¬ 2 * t < i + 1 by omega)]
  · rw [List.getElem?_eq_none (by rw [List.length_set, halfL_length]; exact h), List.getElem?_eq_none (by rw [halfL_length]; exact h)]
theorem halfL_all (s : List UInt8) (h : s.length = 64) : halfL s 64 = parsedL s := by
  have hl := parsedL_length 32 s (by omega)
  apply List.ext_getElem?
  intro t
  rcases Nat.lt_or_ge t 32 with ht | ht
  · rw [halfL_at s 64 t ht, List.getElem?_eq_getElem (by omega)]
    have := parsedL_get 32 s (by omega) t ht
    rw [List.getElem?_eq_getElem (by omega), Option.getD_some] at this
    rw [this]
    unfold halfV
    rw [if_pos (by omega)]
  · rw [List.getElem?_eq_none (by rw [halfL_length]; exact ht), List.getElem?_eq_none (by omega)]
theorem halfV_lt (s : List UInt8) (i : Nat) (hd : ∀ j, j < i → 0 ≤ val (s[j]?.getD 0)) (hi : i < 64) : halfV s i (i / 2) < 16 := by
  unfold halfV
  rw [if_neg (by omega)]
  split
  · have := val_lt _ (hd (2 * (i / 2)) (by omega))
    omega
  · omega
set_option maxRecDepth 100000 in
set_option maxHeartbeats 4000000 in
theorem refParse_any (s : ByteArray) (w : World) (hm : s.size ≤ 9223372036854775807) :
    Calls Tryd.prog 16 #[.string s] w fun e w' => e = .returned (.tuple #[.agg (u8s (parseR s.data.toList)).toArray, .int .i64 (parseE s.data.toList : Nat)]) ∧ Below w.heap.size w w' := by
  obtain ⟨g, hg⟩ : ∃ g, w.heap.size = g := ⟨_, rfl⟩
  obtain ⟨zv, hzv⟩ : ∃ zv, (u8s (zeros 32)).toArray = zv := ⟨_, rfl⟩
  obtain ⟨w1, hw1⟩ : ∃ w1, w.alloc (.cells zv 24) = w1 := ⟨_, rfl⟩
  obtain ⟨w2, hw2⟩ : ∃ w2, w1.alloc (.cells zv 24) = w2 := ⟨_, rfl⟩
  have hs1 : w1.heap.size = g + 1 := by rw [← hw1, ← hg]; simp
  have hk1 : Hid (w2.heap[g]? = some (.cells zv 24 (0, 0))) := Lib.hid (by
    rw [← hw2, Below.heap_alloc w1 _ g (by rw [hs1]; omega), ← hw1, ← hg]
    exact heap_alloc_new w _)
  have hk2 : Hid (BlkY w2 (g + 1) (zeros 32)) := Lib.hid (by rw [← hw2, ← hs1, ← hzv]; exact BlkY.new w1 _)
  have hk2z : Hid (w2.heap[g + 1]? = some (.cells zv 24 (0, 0))) := Lib.hid (by rw [← hzv]; exact hk2.out)
  have hB : Hid (Below w.heap.size w w2) := Lib.hid (by rw [← hw2, ← hw1]; exact ((Below.refl _ _).alloc (Nat.le_refl _) _).alloc (by simp) _)
  have hi32 : Hid ((Tryd.prog.info? 24).map (·.size) = some 32) := Lib.hid (by kernel_rfl)
  have hgz : Hid (w.heap.size ≤ g) := Lib.hid (Nat.le_of_eq hg)
  have hz := zeroKy
  have hzb := zeroKb
  have hone : Hid (zv.all (·.oneCell') = true) := Lib.hid (by rw [← hzv]; exact one_u8s _)
  have hs32 : Hid (zv.size = 32) := Lib.hid (by rw [← hzv]; simp [u8s, zeros])
  have hfin : Hid (∀ W c, Below w.heap.size w W → Below w.heap.size w (W.setRow g c)) := Lib.hid fun W c h => setRow_below h hgz.out c
  have hvl := Lib.hid (fun c W => refValue_any c W)
  have hlen : Hid (s.data.toList.length = s.size) := Lib.hid (Lib.size_eq s).symm
  have hat : Hid (∀ k, (h : k < s.size) → s.data.toList[k]?.getD 0 = s[k]) := Lib.hid fun k h => by rw [at_get h, Option.getD_some]
  by_cases h64 : s.size = 64
  · obtain ⟨kv, hkv⟩ : ∃ kv, (u8s (parseR s.data.toList)).toArray = kv := ⟨_, rfl⟩
    obtain ⟨E, hE⟩ : ∃ E, parseE s.data.toList = E := ⟨_, rfl⟩
    have hkv' := Lib.hid hkv
    have hE' := Lib.hid hE
    have hgood : Hid (allDig s.data.toList = true → parseR s.data.toList = parsedL s.data.toList ∧ E = 0) := Lib.hid fun h => by
      have : good s.data.toList = true := by unfold good; rw [h, hlen.out, h64]; decide
      rw [← hE]
      unfold parseR parseE
      rw [if_pos this, if_pos this]
      exact ⟨rfl, rfl⟩
    have hbad : Hid (allDig s.data.toList = false → zv = kv ∧ E = 30) := Lib.hid fun h => by
      have : ¬ good s.data.toList = true := by unfold good; rw [h]; simp
      rw [← hE, ← hkv, ← hzv]
      unfold parseR parseE
      rw [if_neg this, if_neg this]
      exact ⟨rfl, rfl⟩
    rw [hkv, hE]
    rw [hzv] at hz hzb
    have h64' := Lib.hid h64
    clear hkv hE hm
    go_enter Tryd.func16, Tryd.ntmps16
    go_wp2_with fail
    clear hw1 hw2
    go_loopw [5] (fun iv wr => ∃ i : Nat, i ≤ 64 ∧ iv = .int .i64 (i : Int) ∧ Hid (∀ j, j < i → 0 ≤ val (s.data.toList[j]?.getD 0)) ∧ Hid (BlkY wr (g + 1) (halfL s.data.toList i)) ∧ Hid (wr.heap[g]? = some (.cells zv 24 (0, 0))) ∧ Hid (Below w.heap.size w wr)) (fun iv _ => 64 - (intOf iv).toNat)
    case atStart => exact ⟨0, by omega, rfl, Lib.hid fun j hj => by omega, Lib.hid (by rw [halfL_zero]; exact hk2.out), hk1, hB⟩
    case round =>
      obtain ⟨i, hi, rfl, hds, hk, hkg, hbel⟩ := hrel
      by_cases hlt : i < 64
      · have hlts : i < s.size := by omega
        have hix := fun W => index_str (s := s) (k := i) (c := s.data.toList[i]?.getD 0) hlts (hat.out i hlts).symm W
        obtain ⟨c, hc⟩ : ∃ c, s.data.toList[i]?.getD 0 = c := ⟨_, rfl⟩
        rw [hc] at hix
        have hc' := Lib.hid hc
        by_cases hneg : val c < 0
        · obtain ⟨hb1, hb2⟩ := hbad.out (allDig_not (k := i) (x := c) (by rw [List.getElem?_eq_getElem (by rw [hlen.out]; exact hlts)]; rw [List.getElem?_eq_getElem (by rw [hlen.out]; exact hlts), Option.getD_some] at hc; rw [hc]) hneg)
          have hb1' := Lib.hid hb1
          have hb2' := Lib.hid hb2
          have q1 : decide (val c < 0) = true := by simp [hneg]
          clear hb1 hb2 hc hlts
          go_wp2_with (first
            | (go_at_call 27; refine (hvl.out _ _).mono ?_; rintro e w5 ⟨rfl, rfl⟩)
            | (refine wpList_built rfl 24 _ #[] rfl (by simp) _ hzb ?_)
            | (refine wpList_store_row rfl 24 _ _ rfl g zv rfl rfl 24 _ hkg.out (by rw [hs32.out]; exact hi32.out) rfl hone.out ?_))
          have hres := setRow_heap _ g _ zv 24 _ hkg.out
          refine bodyPost_ret (results_row_tmp rfl _ _ g 24 _ (0, 0) _ (.int .i64 30) rfl rfl hres Tryd.underlying24 rfl (by rw [hs32.out]; exact hi32.out)) rfl ?_
          exact ⟨by rw [hb1'.out, hb2'.out]; rfl, hfin.out _ _ hbel.out⟩
        · obtain ⟨v, hv⟩ : ∃ v : Nat, val c = (v : Int) := ⟨(val c).toNat, by omega⟩
          have hv16 : v < 16 := by have := (val_lt c (by omega)).1; omega
          obtain ⟨j, hj⟩ : ∃ j, i / 2 = j := ⟨_, rfl⟩
          have hj32 : j < 32 := by omega
          obtain ⟨cur, hcur⟩ : ∃ cur, halfV s.data.toList i j = cur := ⟨_, rfl⟩
          have hcl : cur < 16 := by rw [← hcur, ← hj]; exact halfV_lt _ i hds.out hlt
          have ck := hk.out.cell (k := j) (by rw [halfL_length]; exact hj32)
          rw [halfL_at _ _ _ hj32, Option.getD_some, hcur] at ck
          have fk := hk.out.frozen j
          obtain ⟨y, hy⟩ : ∃ y, cur * 16 + v = y := ⟨_, rfl⟩
          obtain ⟨c16, hc16⟩ : ∃ c16, cur * 16 = c16 := ⟨_, rfl⟩
          have d1 : (i : Int).tdiv 2 = (j : Int) := by rw [Int.tdiv_eq_ediv_of_nonneg (by omega)]; omega
          have d2 : (i : Int) / 2 = (j : Int) := by omega
          have d3 : IntKind.u8.wrap ((cur : Int) * 16) = (c16 : Int) := by rw [IntKind.wrap_u8]; omega
          have d4 : IntKind.u8.wrap (v : Int) = (v : Int) := by rw [IntKind.wrap_u8]; omega
          have d5 : IntKind.u8.wrap ((c16 : Int) + (v : Int)) = (y : Int) := by rw [IntKind.wrap_u8]; omega
          have hds2 : Hid (∀ t, t < i + 1 → 0 ≤ val (s.data.toList[t]?.getD 0)) := Lib.hid fun t ht => by
            rcases Nat.lt_or_ge t i with h | h
            · exact hds.out t h
            · rw [show t = i by omega, hc]; omega
          have hstep : Hid ((halfL s.data.toList i).set j y = halfL s.data.toList (i + 1)) := Lib.hid (by
            have := halfL_step s.data.toList i hlt
            rw [hj, hcur, hc, hv, Int.toNat_natCast, hy] at this
            exact this)
          have hk5 : Hid (BlkY (wr.setCell ⟨g + 1, j, none⟩ (.int .u8 (y : Int))) (g + 1) (halfL s.data.toList (i + 1))) := Lib.hid (by
            have := hk.out.set j y
            rwa [hstep.out] at this)
          have hg5 : Hid ((wr.setCell ⟨g + 1, j, none⟩ (.int .u8 (y : Int))).heap[g]? = some (.cells zv 24 (0, 0))) := Lib.hid ((heap_setCell_other wr ⟨g + 1, j, none⟩ g _ (by simp)).trans hkg.out)
          have hb5 : Hid (Below w.heap.size w (wr.setCell ⟨g + 1, j, none⟩ (.int .u8 (y : Int)))) := Lib.hid (hbel.out.setCell (p := ⟨g + 1, j, none⟩) (by have := hgz.out; show w.heap.size ≤ g + 1; omega) _)
          have hvlc := Lib.hid (fun W => refValue_any c W)
          rw [hv] at hvlc
          clear hk hkg hbel hc hj hcur hy hc16 hneg hv hlts hds
          go_wp2_with (go_at_call 27; refine (hvlc.out _).mono ?_; rintro e w5 ⟨rfl, rfl⟩)
          go_roundw
          case rel => exact ⟨i + 1, by omega, by go_num, hds2, hk5, hg5, hb5⟩
          case measure => simp [intOf]; omega
      · have hall : Hid (kv = (u8s (parsedL s.data.toList)).toArray ∧ E = 0) := Lib.hid (by
          have ha : allDig s.data.toList = true := by
            unfold allDig
            rw [List.all_eq_true]
            intro x hx
            obtain ⟨k, hk1, rfl⟩ := List.mem_iff_getElem.1 hx
            have := hds.out k (by rw [hlen.out, h64'.out] at hk1; omega)
            rw [List.getElem?_eq_getElem hk1, Option.getD_some] at this
            simpa using this
          obtain ⟨h1, h2⟩ := hgood.out ha
          exact ⟨by rw [← hkv'.out, h1], h2⟩)
        have hk6 : Hid (wr.heap[g + 1]? = some (.cells kv 24 (0, 0))) := Lib.hid (by
          have := hk.out
          rw [show i = 64 by omega, halfL_all _ (by rw [hlen.out, h64'.out])] at this
          rw [hall.out.1]
          exact this)
        have hkl : Hid (kv.size = 32) := Lib.hid (by rw [hall.out.1]; simp [u8s, parsedL_length 32 s.data.toList (by rw [hlen.out, h64'.out])])
        have hko : Hid (kv.all (·.oneCell') = true) := Lib.hid (by rw [hall.out.1]; exact one_u8s _)
        clear hk hds
        go_wp2_with (first
          | (refine wpList_load_row rfl 24 _ rfl (g + 1) rfl 24 kv (0, 0) _ hk6.out Tryd.underlying24 rfl (by rw [hkl.out]; exact hi32.out) ?_)
          | (refine wpList_store_row rfl 24 _ _ rfl g kv rfl rfl 24 _ hkg.out (by rw [hkl.out]; exact hi32.out) (by rw [hs32.out, hkl.out]) hko.out ?_))
        have hres := setRow_heap _ g _ kv 24 _ hkg.out
        refine bodyPost_ret (results_row_tmp rfl _ _ g 24 _ (0, 0) _ (.int .i64 0) rfl rfl hres Tryd.underlying24 rfl (by rw [hkl.out]; exact hi32.out)) rfl ?_
        exact ⟨by rw [hall.out.2]; rfl, hfin.out _ _ hbel.out⟩
  · have hno : Hid (parseR s.data.toList = zeros 32 ∧ parseE s.data.toList = 30) := Lib.hid (by
      have : ¬ good s.data.toList = true := by
        unfold good
        rw [hlen.out, decide_eq_false h64]
        simp
      unfold parseR parseE
      rw [if_neg this, if_neg this]
      exact ⟨rfl, rfl⟩)
    rw [hno.out.1, hno.out.2, hzv]
    rw [hzv] at hz hzb
    have q1 : ((s.size : Int) != 64) = true := by simp; omega
    go_enter Tryd.func16, Tryd.ntmps16
    go_wp2_with (first
      | (refine wpList_load_row rfl 24 _ rfl (g + 1) rfl 24 zv (0, 0) _ hk2z.out Tryd.underlying24 rfl (by rw [hs32.out]; exact hi32.out) ?_)
      | (refine wpList_store_row rfl 24 _ _ rfl g zv rfl rfl 24 _ hk1.out (by rw [hs32.out]; exact hi32.out) rfl hone.out ?_))
    have hres := setRow_heap _ g _ zv 24 _ hk1.out
    refine bodyPost_ret (results_row_tmp rfl _ _ g 24 _ (0, 0) _ (.int .i64 30) rfl rfl hres Tryd.underlying24 rfl (by rw [hs32.out]; exact hi32.out)) rfl ?_
    exact ⟨rfl, hfin.out _ _ hB.out⟩
end Go.Proofs.YtlolnpilpdkbkaaDoor

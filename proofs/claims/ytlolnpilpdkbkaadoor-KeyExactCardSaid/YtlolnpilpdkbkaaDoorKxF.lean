/- From, the document's From; Of. -/
import Derived.Test.YtlolnpilpdkbkaaDoorKxC
import Derived.Deep.MidRow
import Derived.Laws.Tables
namespace Go.Proofs.YtlolnpilpdkbkaaDoor
open Go.RowKit
set_option linter.unusedSimpArgs false
set_option linter.unusedVariables false

theorem one_u8s (l : List Nat) : (u8s l).toArray.all (·.oneCell') = true := by
  simp [u8s, Value.oneCell']
theorem byt_range {w : World} {B b off : Nat} {l : List Nat} (h : Byt w B (some ⟨b, off, none⟩) l) : w.rangeAt b off (u8s l) := by
  intro j v hv
  have hj : j < l.length := by
    have := (List.getElem?_eq_some_iff.1 hv).1
    rw [u8s_length] at this
    exact this
  obtain ⟨b', off', e, _, hc⟩ := h (by omega)
  injection e with e
  injection e with e1 e2
  subst e1 e2
  rw [hc j hj]
  simp [u8s, hj] at hv
  simp [hj, hv]
theorem arrayAt32 (a : Addr) (c : Nat) (w : World) : (Instr.arrayAt 24 (.slice (some a) 32 c)).run Tryd.prog w = .ok (.pointer (some a)) w := by
  simp [Instr.arrayAt, run_underlying Tryd.underlying24]
set_option maxRecDepth 100000 in
set_option maxHeartbeats 1000000 in
theorem from_any (w : World) (A : Option Addr) (l : List Nat) (n c : Nat) (hn : l.length = n) (hc : n ≤ c) (hb : Byt w w.heap.size A l) : Calls Tryd.prog 12 #[.slice A n c] w (FromP w l) := by
  obtain ⟨g, hg⟩ : ∃ g, w.heap.size = g := ⟨_, rfl⟩
  obtain ⟨w1, hw1⟩ : ∃ w1, w.alloc (.cells (u8s (zeros 32)).toArray 24) = w1 := ⟨_, rfl⟩
  have hk1 : Hid (w1.heap[g]? = some (.cells (u8s (zeros 32)).toArray 24 (0, 0))) := Lib.hid (by rw [← hw1, ← hg]; exact heap_alloc_new w _)
  have hB : Hid (Below w.heap.size w w1) := Lib.hid (by rw [← hw1]; exact (Below.refl _ _).alloc (Nat.le_refl _) _)
  have hi32 : Hid ((Tryd.prog.info? 24).map (·.size) = some 32) := Lib.hid (by kernel_rfl)
  have hgz : Hid (w.heap.size ≤ g) := Lib.hid (Nat.le_of_eq hg)
  have hz := zeroKy
  have hzb := zeroKb
  have har := arrayAt32
  have hw1' := Lib.hid hw1
  unfold FromP
  by_cases h32 : n = 32
  · have hl32 := hn.trans h32
    have hR : Hid (fromR l = l ∧ fromE l = 0) := Lib.hid (by unfold fromR fromE; rw [if_pos hl32, if_pos hl32]; exact ⟨rfl, rfl⟩)
    rw [hR.out.1, hR.out.2]
    obtain ⟨b, off, rfl, _, _⟩ := hb (by omega)
    have hr := Lib.hid (byt_range (hb.below hB.out))
    obtain ⟨kv, hkv⟩ : ∃ kv, u8s l = kv := ⟨_, rfl⟩
    have hl : Hid (kv.length = 32) := Lib.hid (by rw [← hkv, u8s_length, hl32])
    have hone : Hid (kv.toArray.all (·.oneCell') = true) := Lib.hid (by rw [← hkv]; exact one_u8s l)
    have hz32 : Hid ((u8s (zeros 32)).toArray.size = kv.toArray.size) := Lib.hid (by simp [hl.out, u8s, zeros])
    rw [hkv] at hr ⊢
    subst h32
    clear hb hkv hn hl32 hw1
    go_enter Tryd.func12, Tryd.ntmps12
    go_wp2_with (first
      | (rw [hw1'.out]; refine wpList_load_mid rfl 24 _ rfl b off rfl kv _ hr.out Tryd.underlying24 rfl (by rw [hl.out]; exact hi32.out) ?_)
      | (rw [hw1'.out]; refine wpList_store_row rfl 24 _ _ rfl g kv.toArray rfl rfl 24 _ hk1.out (by simp [hl.out, hi32.out]) hz32.out hone.out ?_)
      | (refine wpList_store_row rfl 24 _ _ rfl g kv.toArray rfl rfl 24 _ hk1.out (by simp [hl.out, hi32.out]) hz32.out hone.out ?_))
    have hres := setRow_heap _ g _ kv.toArray 24 _ hk1.out
    refine bodyPost_ret (results_row_tmp rfl _ _ g 24 _ (0, 0) _ (.int .i64 0) rfl rfl hres Tryd.underlying24 rfl (by simp [hl.out, hi32.out])) rfl ?_
    exact ⟨rfl, (setRow_below hB.out hgz.out _).mono (Nat.le_of_eq hg.symm)⟩
  · have hR : Hid (fromR l = zeros 32 ∧ fromE l = 2) := Lib.hid (by unfold fromR fromE; rw [if_neg (by omega), if_neg (by omega)]; exact ⟨rfl, rfl⟩)
    rw [hR.out.1, hR.out.2]
    have h32' : ((n : Int) != 32) = true := by simp; omega
    obtain ⟨zv, hzv⟩ : ∃ zv, (u8s (zeros 32)).toArray = zv := ⟨_, rfl⟩
    have hone : Hid (zv.all (·.oneCell') = true) := Lib.hid (by rw [← hzv]; exact one_u8s _)
    have hs32 : Hid (zv.size = 32) := Lib.hid (by rw [← hzv]; simp [u8s, zeros])
    rw [hzv] at hk1 hz hzb hw1' ⊢
    clear hb hn hw1 hzv
    go_enter Tryd.func12, Tryd.ntmps12
    go_wp2_with (first
      | (rw [hw1'.out]; refine wpList_store_row rfl 24 _ _ rfl g zv rfl rfl 24 _ hk1.out (by rw [hs32.out]; exact hi32.out) rfl hone.out ?_)
      | (refine wpList_store_row rfl 24 _ _ rfl g zv rfl rfl 24 _ hk1.out (by rw [hs32.out]; exact hi32.out) rfl hone.out ?_))
    have hres := setRow_heap _ g _ zv 24 _ hk1.out
    refine bodyPost_ret (results_row_tmp rfl _ _ g 24 _ (0, 0) _ (.int .i64 2) rfl rfl hres Tryd.underlying24 rfl (by rw [hs32.out]; exact hi32.out)) rfl ?_
    exact ⟨rfl, setRow_below hB.out hgz.out _⟩
theorem take_set (l : List Nat) (i x : Nat) (h : l[i]? = some x) (hl : l.length ≤ 32) : (l.take i ++ zeros (32 - i)).set i x = l.take (i + 1) ++ zeros (32 - (i + 1)) := by
  have hi := (List.getElem?_eq_some_iff.1 h).1
  have e : zeros (32 - i) = 0 :: zeros (32 - (i + 1)) := by
    unfold zeros
    rw [show 32 - i = (32 - (i + 1)) + 1 by omega, List.replicate_succ]
  rw [e, List.set_append_right _ _ (by rw [List.length_take]; omega), List.take_add_one, h]
  simp [List.length_take, Nat.min_eq_left (Nat.le_of_lt hi)]
set_option maxRecDepth 100000 in
set_option maxHeartbeats 1000000 in
theorem refFrom_any (w : World) (A : Option Addr) (l : List Nat) (n c : Nat) (hn : l.length = n) (hb : Byt w w.heap.size A l) : Calls Tryd.prog 13 #[.slice A n c] w (FromP w l) := by
  obtain ⟨g, hg⟩ : ∃ g, w.heap.size = g := ⟨_, rfl⟩
  obtain ⟨w1, hw1⟩ : ∃ w1, w.alloc (.cells (u8s (zeros 32)).toArray 24) = w1 := ⟨_, rfl⟩
  obtain ⟨w2, hw2⟩ : ∃ w2, w1.alloc (.cells (u8s (zeros 32)).toArray 24) = w2 := ⟨_, rfl⟩
  have hs1 : w1.heap.size = g + 1 := by rw [← hw1, ← hg]; simp
  have hk1 : Hid (BlkY w2 g (zeros 32)) := Lib.hid (by
    have h1 : BlkY w1 g (zeros 32) := by rw [← hw1, ← hg]; exact BlkY.new w _
    rw [← hw2]
    exact h1.alloc _)
  have hk2 : Hid (BlkY w2 (g + 1) (zeros 32)) := Lib.hid (by rw [← hw2, ← hs1]; exact BlkY.new w1 _)
  have hB : Hid (Below w.heap.size w w2) := Lib.hid (by rw [← hw2, ← hw1]; exact ((Below.refl _ _).alloc (Nat.le_refl _) _).alloc (by simp) _)
  have hi32 : Hid ((Tryd.prog.info? 24).map (·.size) = some 32) := Lib.hid (by kernel_rfl)
  have hgz : Hid (w.heap.size ≤ g) := Lib.hid (Nat.le_of_eq hg)
  have hz := zeroKy
  unfold FromP
  have hb' := Lib.hid hb
  have hn' := Lib.hid hn
  have hw2' := Lib.hid hw2
  obtain ⟨zv, hzv⟩ : ∃ zv, (u8s (zeros 32)).toArray = zv := ⟨_, rfl⟩
  have hone : Hid (zv.all (·.oneCell') = true) := Lib.hid (by rw [← hzv]; exact one_u8s _)
  have hs32 : Hid (zv.size = 32) := Lib.hid (by rw [← hzv]; simp [u8s, zeros])
  have hk1z : Hid (w2.heap[g]? = some (.cells zv 24 (0, 0))) := Lib.hid (by rw [← hzv]; exact hk1.out)
  have hk2z : Hid (w2.heap[g + 1]? = some (.cells zv 24 (0, 0))) := Lib.hid (by rw [← hzv]; exact hk2.out)
  by_cases h32 : n = 32
  · have hl32 := Lib.hid (hn.trans h32)
    have hR : Hid (fromR l = l ∧ fromE l = 0) := Lib.hid (by unfold fromR fromE; rw [if_pos hl32.out, if_pos hl32.out]; exact ⟨rfl, rfl⟩)
    rw [hR.out.1, hR.out.2]
    obtain ⟨bb, off, rfl, hbb, _⟩ := hb (by omega)
    have hbb' := Lib.hid hbb
    obtain ⟨kv, hkv⟩ : ∃ kv, (u8s l).toArray = kv := ⟨_, rfl⟩
    have hkl : Hid (kv.size = 32) := Lib.hid (by rw [← hkv]; simp [u8s, hl32.out])
    have hko : Hid (kv.all (·.oneCell') = true) := Lib.hid (by rw [← hkv]; exact one_u8s l)
    have hkv' := Lib.hid hkv
    rw [hkv]
    clear hkv
    subst h32
    rw [hzv] at hw1 hw2 hz hw2'
    clear hb hn hbb
    go_enter Tryd.func13, Tryd.ntmps13
    go_wp2_with fail
    clear hw1 hw2
    go_loopw [5] (fun iv wr => ∃ i : Nat, i ≤ 32 ∧ iv = .int .i64 (i : Int) ∧ Hid (BlkY wr (g + 1) (l.take i ++ zeros (32 - i))) ∧ Hid (wr.heap[g]? = some (.cells zv 24 (0, 0))) ∧ Hid (Below w.heap.size w wr)) (fun iv _ => 32 - (intOf iv).toNat)
    case atStart => exact ⟨0, by omega, rfl, by simpa using hk2, hk1z, hB⟩
    case round =>
      obtain ⟨i, hi, rfl, hk, hkg, hbel⟩ := hrel
      by_cases hlt : i < 32
      · obtain ⟨x, hx⟩ : ∃ x, Hid (l[i]? = some x) := ⟨_, Lib.hid (List.getElem?_eq_getElem (by rw [hl32.out]; exact hlt))⟩
        have cx : wr.cell? ⟨bb, off + i, none⟩ = some (.int .u8 (x : Int)) := by
          obtain ⟨b', o', e, _, hc⟩ := (hb'.out.below hbel.out) (by rw [hl32.out]; omega)
          injection e with e
          injection e with e1 e2
          subst e1 e2
          have := hc i (by rw [hl32.out]; exact hlt)
          simp only [hx.out, Option.getD_some] at this
          exact this
        have hlen : Hid ((l.take i ++ zeros (32 - i)).length = 32) := Lib.hid (by simp [zeros, hl32.out]; omega)
        have ck := hk.out.cell (k := i) (by rw [hlen.out]; exact hlt)
        have fk := hk.out.frozen i
        have hk5 : Hid (BlkY (wr.setCell ⟨g + 1, i, none⟩ (.int .u8 (x : Int))) (g + 1) (l.take (i + 1) ++ zeros (32 - (i + 1)))) := Lib.hid (by
          have := hk.out.set i x
          rwa [take_set l i x hx.out (by rw [hl32.out]; exact Nat.le_refl _)] at this)
        have hg5 : Hid ((wr.setCell ⟨g + 1, i, none⟩ (.int .u8 (x : Int))).heap[g]? = some (.cells zv 24 (0, 0))) := Lib.hid ((heap_setCell_other wr ⟨g + 1, i, none⟩ g _ (by simp)).trans hkg.out)
        have hb5 : Hid (Below w.heap.size w (wr.setCell ⟨g + 1, i, none⟩ (.int .u8 (x : Int)))) := Lib.hid (hbel.out.setCell (p := ⟨g + 1, i, none⟩) (by have := hgz.out; show w.heap.size ≤ g + 1; omega) _)
        clear hk hkg hbel
        go_wp2_with fail
        go_roundw
        case rel => exact ⟨i + 1, by omega, by go_num, hk5, hg5, hb5⟩
        case measure => simp [intOf]; omega
      · have hk6 : Hid (wr.heap[g + 1]? = some (.cells kv 24 (0, 0))) := Lib.hid (by
          have := hk.out
          rw [show i = 32 by omega, List.take_of_length_le (by rw [hl32.out]; exact Nat.le_refl _)] at this
          have this2 : BlkY wr (g + 1) l := by simpa [zeros] using this
          rw [← hkv'.out]
          exact this2)
        clear hk
        go_wp2_with (first
          | (refine wpList_load_row rfl 24 _ rfl (g + 1) rfl 24 kv (0, 0) _ hk6.out Tryd.underlying24 rfl (by rw [hkl.out]; exact hi32.out) ?_)
          | (refine wpList_store_row rfl 24 _ _ rfl g kv rfl rfl 24 _ hkg.out (by rw [hkl.out]; exact hi32.out) (by rw [hs32.out, hkl.out]) hko.out ?_))
        have hres := setRow_heap _ g _ kv 24 _ hkg.out
        refine bodyPost_ret (results_row_tmp rfl _ _ g 24 _ (0, 0) _ (.int .i64 0) rfl rfl hres Tryd.underlying24 rfl (by rw [hkl.out]; exact hi32.out)) rfl ?_
        exact ⟨rfl, setRow_below hbel.out hgz.out _⟩
  · have hR : Hid (fromR l = zeros 32 ∧ fromE l = 2) := Lib.hid (by unfold fromR fromE; rw [if_neg (by omega), if_neg (by omega)]; exact ⟨rfl, rfl⟩)
    rw [hR.out.1, hR.out.2]
    have h32' : ((n : Int) != 32) = true := by simp; omega
    rw [hzv] at hw1 hw2 hz hw2' ⊢
    clear hb hn
    go_enter Tryd.func13, Tryd.ntmps13
    go_wp2_with (first
      | (refine wpList_load_row rfl 24 _ rfl (g + 1) rfl 24 zv (0, 0) _ hk2z.out Tryd.underlying24 rfl (by rw [hs32.out]; exact hi32.out) ?_)
      | (refine wpList_store_row rfl 24 _ _ rfl g zv rfl rfl 24 _ hk1z.out (by rw [hs32.out]; exact hi32.out) rfl hone.out ?_))
    have hres := setRow_heap _ g _ zv 24 _ hk1z.out
    refine bodyPost_ret (results_row_tmp rfl _ _ g 24 _ (0, 0) _ (.int .i64 2) rfl rfl hres Tryd.underlying24 rfl (by rw [hs32.out]; exact hi32.out)) rfl ?_
    exact ⟨rfl, setRow_below hB.out hgz.out _⟩
end Go.Proofs.YtlolnpilpdkbkaaDoor

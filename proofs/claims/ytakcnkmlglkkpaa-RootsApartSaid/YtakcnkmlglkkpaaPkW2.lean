/- zip, kind by kind. (Printed by tools/genask.py.) zip, kind by kind. (Printed by tools/genask.py.) zip, kind by kind. (Printed by tools/genask.py.) zip, kind by kind. (Printed by tools/genask.py.) zip, kind by kind. (Printed by tools/genask.py.) zip, kind by kind. (Printed by tools/genask.py.) asked of no table: any step. Two tables of each side, apart. -/
import Derived.Test.YtakcnkmlglkkpaaPkW1

namespace Go.Proofs.Ytakcnkmlglkkpaa
open Go.RowKit
set_option linter.unusedSimpArgs false
set_option linter.unusedVariables false
open Classical

set_option maxRecDepth 100000 in
set_option maxHeartbeats 4000000 in
theorem zip_k5 (w : World) {P : Value} (h : Zip w P) (s : ByteArray) (k : RKey) (a : Bool) (u v : Nat) :
    Calls Try.prog 14 #[P, .agg (encS ⟨5, s, k, a, u, v⟩).toArray] w (ZipP w ⟨5, s, k, a, u, v⟩) := by
  have hz := zeroAn
  have l32 : Hid (∀ k : RKey, (encKy k).length = 32) := Lib.hid encKy_length
  have a32 : Hid (∀ k : RKey, (encKy k).toArray.size = 32) := Lib.hid fun k => by simp [encKy_length]
  have hi32 : Hid ((Try.prog.info? 35).map (·.size) = some 32) := Lib.hid (by kernel_rfl)
  have l36 : Hid (∀ x : AnsT, (encA x).length = 36) := Lib.hid encA_length
  have a36 : Hid (∀ x : AnsT, (encA x).toArray.size = 36) := Lib.hid fun k => by simp [encA_length]
  have hi36 : Hid ((Try.prog.info? 38).map (·.size) = some 36) := Lib.hid (by kernel_rfl)
  have oneA := Lib.hid encA_all
  have oneK := Lib.hid encKy_all
  have hT := Lib.hid h
  obtain ⟨wa, hwa⟩ : ∃ wa, w.alloc (.cells (encS ⟨5, s, k, a, u, v⟩).toArray 41) = wa := ⟨_, rfl⟩
  obtain ⟨wb, hwb⟩ : ∃ wb, wa.alloc (.cells (encA zA).toArray 38) = wb := ⟨_, rfl⟩
  obtain ⟨w0, hw0⟩ : ∃ w0, wb.alloc (.cells (encA zA).toArray 38) = w0 := ⟨_, rfl⟩
  have sa : wa.heap.size = w.heap.size + 1 := by rw [← hwa]; simp
  have sb : wb.heap.size = w.heap.size + 2 := by rw [← hwb]; simp [sa]
  have hA : Hid (AS w w0 ⟨5, s, k, a, u, v⟩ zA) := Lib.hid (by rw [← hw0, ← hwb, ← hwa]; exact AS.new w _)
  have hT0 := Lib.hid (h.below hA.out.lo)
  have ck : w0.cell? ⟨w.heap.size, 0, none⟩ = some (.int .i64 5) := hA.out.ab.kind
  clear h
  obtain ⟨N, hN⟩ : ∃ N : Nat, Hid (∀ _ : Unit, 0 = N) := ⟨_, Lib.hid fun _ => rfl⟩
  have h64 : N ≤ 64 := by rw [← hN.out ()]; omega
  have hC : Hid (Calls Try.prog 24 #[P] w0 fun e w' => e = .returned (.int .i64 (N : Nat)) ∧ Below w0.heap.size w0 w') := Lib.hid (by
    rw [← hN.out ()]
    exact (len_zip hT0.out).mono fun e w' ⟨h1, h2⟩ => ⟨h1, by rw [← h2]; exact Below.refl _ _⟩)
  have hq : Hid (∀ _ : Unit, zipQ ⟨5, s, k, a, u, v⟩ = ⟨0, kZ, N, false, ⟨#[]⟩⟩) := Lib.hid fun _ => by rw [← hN.out ()]; rfl
  have wN : IntKind.u64.wrap (N : Int) = (N : Int) := by rw [IntKind.wrap_u64]; omega
  go_enter Try.func14, Try.ntmps14
  go_wp2_with (first
    | (go_at_call 24
       refine hC.out.mono ?_
       rintro e w1 ⟨rfl, hc⟩
       have h1 := Lib.hid (hA.out.next hc)
       clear hc
       have f0 := h1.out.ab.fz 33
       have c0 := h1.out.ab.c33)
    | (refine wpList_load_mid rfl 38 _ rfl (w.heap.size + 2) 0 rfl (encA ⟨0, kZ, N, false, ⟨#[]⟩⟩) _ (range_blk (h1.out.putN N).ab.ou) Try.underlying38 rfl (by rw [l36.out]; exact hi36.out) ?_)
    | (refine wpList_store_row rfl 38 _ _ rfl (w.heap.size + 1) (encA ⟨0, kZ, N, false, ⟨#[]⟩⟩).toArray rfl rfl 38 _ (h1.out.putN N).ab.rs (by rw [a36.out]; exact hi36.out) (by simp only [a36.out]) (oneA.out _) ?_))
  refine bodyPost_ret (results_cell_row rfl _ _ (w.heap.size + 1) 38 _ (0, 0) _ rfl ((h1.out.putN N).res _) Try.underlying38 rfl (by rw [a36.out]; exact hi36.out)) rfl ?_
  exact ⟨by rw [hq.out ()], (h1.out.putN N).fin _⟩
end Go.Proofs.Ytakcnkmlglkkpaa

namespace Go.Proofs.Ytakcnkmlglkkpaa
open Go.RowKit
set_option linter.unusedSimpArgs false
set_option linter.unusedVariables false
open Classical

set_option maxRecDepth 100000 in
set_option maxHeartbeats 4000000 in
theorem zip_k6 (w : World) {P : Value} (h : Zip w P) (s : ByteArray) (k : RKey) (a : Bool) (u v : Nat) :
    Calls Try.prog 14 #[P, .agg (encS ⟨6, s, k, a, u, v⟩).toArray] w (ZipP w ⟨6, s, k, a, u, v⟩) := by
  have hz := zeroAn
  have l32 : Hid (∀ k : RKey, (encKy k).length = 32) := Lib.hid encKy_length
  have a32 : Hid (∀ k : RKey, (encKy k).toArray.size = 32) := Lib.hid fun k => by simp [encKy_length]
  have hi32 : Hid ((Try.prog.info? 35).map (·.size) = some 32) := Lib.hid (by kernel_rfl)
  have l36 : Hid (∀ x : AnsT, (encA x).length = 36) := Lib.hid encA_length
  have a36 : Hid (∀ x : AnsT, (encA x).toArray.size = 36) := Lib.hid fun k => by simp [encA_length]
  have hi36 : Hid ((Try.prog.info? 38).map (·.size) = some 36) := Lib.hid (by kernel_rfl)
  have oneA := Lib.hid encA_all
  have oneK := Lib.hid encKy_all
  have hT := Lib.hid h
  obtain ⟨wa, hwa⟩ : ∃ wa, w.alloc (.cells (encS ⟨6, s, k, a, u, v⟩).toArray 41) = wa := ⟨_, rfl⟩
  obtain ⟨wb, hwb⟩ : ∃ wb, wa.alloc (.cells (encA zA).toArray 38) = wb := ⟨_, rfl⟩
  obtain ⟨w0, hw0⟩ : ∃ w0, wb.alloc (.cells (encA zA).toArray 38) = w0 := ⟨_, rfl⟩
  have sa : wa.heap.size = w.heap.size + 1 := by rw [← hwa]; simp
  have sb : wb.heap.size = w.heap.size + 2 := by rw [← hwb]; simp [sa]
  have hA : Hid (AS w w0 ⟨6, s, k, a, u, v⟩ zA) := Lib.hid (by rw [← hw0, ← hwb, ← hwa]; exact AS.new w _)
  have hT0 := Lib.hid (h.below hA.out.lo)
  have ck : w0.cell? ⟨w.heap.size, 0, none⟩ = some (.int .i64 6) := hA.out.ab.kind
  clear h
  obtain ⟨l, hq, hl1, hl2, hC⟩ : ∃ (l : List RootT), Hid (∀ _ : Unit, zipQ ⟨6, s, k, a, u, v⟩ = ⟨0, kZ, 0, false, listS l⟩) ∧ l.length ≤ 200 ∧ (∀ r ∈ l, Name r.1) ∧ Hid (Calls Try.prog 17 #[P] w0 fun e w' => ∃ A1 c1, e = .returned (.slice A1 l.length c1) ∧ Own w' w0.heap.size 61 33 A1 l.length c1 (rowsR l) ∧ Below w0.heap.size w0 w') := by
    exact ⟨[], Lib.hid fun _ => rfl, by simp, by simp, Lib.hid ((all_zip hT0.out).mono fun e w1 ⟨⟨A1, c1, h1, h2⟩, h3⟩ => ⟨A1, c1, h1, h2, h3⟩)⟩
  have htot := totS_named hl2
  obtain ⟨n, hn⟩ : ∃ n, Hid (∀ _ : Unit, l.length = n) := ⟨_, Lib.hid fun _ => rfl⟩
  obtain ⟨tx, htx⟩ : ∃ tx, Hid (∀ _ : Unit, listS l = tx) := ⟨_, Lib.hid fun _ => rfl⟩
  rw [hn.out ()] at hC hl1 htot
  rw [htx.out ()] at hq
  have hlist : Hid (∀ W A1 c1, Own W w0.heap.size 61 33 A1 n c1 (rowsR l) → Calls Try.prog 16 #[.slice A1 n c1] W fun e w' => e = .returned (.string tx) ∧ Below W.heap.size W w') := Lib.hid fun W A1 c1 ho => by
    rw [← htx.out ()]
    exact listed_txt W l A1 n c1 W.heap.size (hn.out ()) (by omega) (RowR.of_own (by rw [hn.out ()]; exact ho)) (Nat.le_refl _) (by omega)
  have hsp : Hid (∀ W A1 c1, Own W w0.heap.size 61 33 A1 n c1 (rowsR l) → w0.heap.size ≤ W.heap.size → Calls Try.prog 33 #[.slice A1 n c1] W fun e w' => (∃ v, e = .returned v) ∧ Gro (fun j => blockOf A1 = some j) W w') := Lib.hid fun W A1 c1 ho hle => spoilt_any W _ A1 n c1 _ ho (by have := Shp.rows l; rwa [hn.out ()] at this) (by omega) hle
  clear hl1 hl2 htot
  go_enter Try.func14, Try.ntmps14
  go_wp2_with (first
    | (go_at_call 17
       refine hC.out.mono ?_
       rintro e w1 ⟨A1, c1, rfl, ho, hc⟩
       have h1 := Lib.hid (hA.out.next hc)
       have ho1 := Lib.hid ho
       have hs1 := Lib.hid hc.size
       clear ho hc)
    | (go_at_call 16
       refine (hlist.out _ _ _ ho1.out).mono ?_
       rintro e w2 ⟨rfl, hc⟩
       have h2 := Lib.hid (h1.out.next hc)
       have hs2 := Lib.hid (Nat.le_trans hs1.out hc.size)
       have ho2 := Lib.hid (ho1.out.below hc fun j hj => (ho1.out.lt j hj).2)
       clear hc
       have f1 := h2.out.ab.fz 35
       have cc1 := h2.out.ab.c35)
    | (go_at_call 33
       refine (hsp.out _ _ _ (ho2.out.setFar (p := ⟨w.heap.size + 2, 35, none⟩) (by have := hA.out.le; show w.heap.size + 2 < w0.heap.size; omega) _) (by simpa using hs2.out)).mono ?_
       rintro e w3 ⟨⟨v9, rfl⟩, hg⟩
       have h3 := Lib.hid ((h2.out.putL tx).gro hg fun j hj => by have := hA.out.le; have := (ho1.out.lt j hj).1; omega)
       clear hg)
    | (refine wpList_load_mid rfl 38 _ rfl (w.heap.size + 2) 0 rfl (encA ⟨0, kZ, 0, false, tx⟩) _ (range_blk h3.out.ab.ou) Try.underlying38 rfl (by rw [l36.out]; exact hi36.out) ?_)
    | (refine wpList_store_row rfl 38 _ _ rfl (w.heap.size + 1) (encA ⟨0, kZ, 0, false, tx⟩).toArray rfl rfl 38 _ h3.out.ab.rs (by rw [a36.out]; exact hi36.out) (by simp only [a36.out]) (oneA.out _) ?_))
  refine bodyPost_ret (results_cell_row rfl _ _ (w.heap.size + 1) 38 _ (0, 0) _ rfl (h3.out.res _) Try.underlying38 rfl (by rw [a36.out]; exact hi36.out)) rfl ?_
  exact ⟨by rw [hq.out ()], h3.out.fin _⟩
end Go.Proofs.Ytakcnkmlglkkpaa

namespace Go.Proofs.Ytakcnkmlglkkpaa
open Go.RowKit
set_option linter.unusedSimpArgs false
set_option linter.unusedVariables false
open Classical

set_option maxRecDepth 100000 in
set_option maxHeartbeats 4000000 in
theorem zip_k7 (w : World) {P : Value} (h : Zip w P) (s : ByteArray) (k : RKey) (a : Bool) (u v : Nat) :
    Calls Try.prog 14 #[P, .agg (encS ⟨7, s, k, a, u, v⟩).toArray] w (ZipP w ⟨7, s, k, a, u, v⟩) := by
  have hz := zeroAn
  have l32 : Hid (∀ k : RKey, (encKy k).length = 32) := Lib.hid encKy_length
  have a32 : Hid (∀ k : RKey, (encKy k).toArray.size = 32) := Lib.hid fun k => by simp [encKy_length]
  have hi32 : Hid ((Try.prog.info? 35).map (·.size) = some 32) := Lib.hid (by kernel_rfl)
  have l36 : Hid (∀ x : AnsT, (encA x).length = 36) := Lib.hid encA_length
  have a36 : Hid (∀ x : AnsT, (encA x).toArray.size = 36) := Lib.hid fun k => by simp [encA_length]
  have hi36 : Hid ((Try.prog.info? 38).map (·.size) = some 36) := Lib.hid (by kernel_rfl)
  have oneA := Lib.hid encA_all
  have oneK := Lib.hid encKy_all
  have hT := Lib.hid h
  obtain ⟨wa, hwa⟩ : ∃ wa, w.alloc (.cells (encS ⟨7, s, k, a, u, v⟩).toArray 41) = wa := ⟨_, rfl⟩
  obtain ⟨wb, hwb⟩ : ∃ wb, wa.alloc (.cells (encA zA).toArray 38) = wb := ⟨_, rfl⟩
  obtain ⟨w0, hw0⟩ : ∃ w0, wb.alloc (.cells (encA zA).toArray 38) = w0 := ⟨_, rfl⟩
  have sa : wa.heap.size = w.heap.size + 1 := by rw [← hwa]; simp
  have sb : wb.heap.size = w.heap.size + 2 := by rw [← hwb]; simp [sa]
  have hA : Hid (AS w w0 ⟨7, s, k, a, u, v⟩ zA) := Lib.hid (by rw [← hw0, ← hwb, ← hwa]; exact AS.new w _)
  have hT0 := Lib.hid (h.below hA.out.lo)
  have ck : w0.cell? ⟨w.heap.size, 0, none⟩ = some (.int .i64 7) := hA.out.ab.kind
  clear h
  obtain ⟨N, hN⟩ : ∃ N : Nat, Hid (∀ _ : Unit, 0 = N) := ⟨_, Lib.hid fun _ => rfl⟩
  have hC : Hid (Calls Try.prog 18 #[P] w0 fun e w' => e = .returned (.int .u64 (N : Nat)) ∧ Below w0.heap.size w0 w') := Lib.hid (by
    rw [← hN.out ()]
    exact (version_zip hT0.out).mono fun e w' ⟨h1, h2⟩ => ⟨h1, by rw [← h2]; exact Below.refl _ _⟩)
  have hq : Hid (∀ _ : Unit, zipQ ⟨7, s, k, a, u, v⟩ = ⟨0, kZ, N, false, ⟨#[]⟩⟩) := Lib.hid fun _ => by rw [← hN.out ()]; rfl
  go_enter Try.func14, Try.ntmps14
  go_wp2_with (first
    | (go_at_call 18
       refine hC.out.mono ?_
       rintro e w1 ⟨rfl, hc⟩
       have h1 := Lib.hid (hA.out.next hc)
       clear hc
       have f0 := h1.out.ab.fz 33
       have c0 := h1.out.ab.c33)
    | (refine wpList_load_mid rfl 38 _ rfl (w.heap.size + 2) 0 rfl (encA ⟨0, kZ, N, false, ⟨#[]⟩⟩) _ (range_blk (h1.out.putN N).ab.ou) Try.underlying38 rfl (by rw [l36.out]; exact hi36.out) ?_)
    | (refine wpList_store_row rfl 38 _ _ rfl (w.heap.size + 1) (encA ⟨0, kZ, N, false, ⟨#[]⟩⟩).toArray rfl rfl 38 _ (h1.out.putN N).ab.rs (by rw [a36.out]; exact hi36.out) (by simp only [a36.out]) (oneA.out _) ?_))
  refine bodyPost_ret (results_cell_row rfl _ _ (w.heap.size + 1) 38 _ (0, 0) _ rfl ((h1.out.putN N).res _) Try.underlying38 rfl (by rw [a36.out]; exact hi36.out)) rfl ?_
  exact ⟨by rw [hq.out ()], (h1.out.putN N).fin _⟩
end Go.Proofs.Ytakcnkmlglkkpaa

namespace Go.Proofs.Ytakcnkmlglkkpaa
open Go.RowKit
set_option linter.unusedSimpArgs false
set_option linter.unusedVariables false
open Classical

set_option maxRecDepth 100000 in
set_option maxHeartbeats 4000000 in
theorem zip_k8 (w : World) {P : Value} (h : Zip w P) (s : ByteArray) (k : RKey) (a : Bool) (u v : Nat) :
    Calls Try.prog 14 #[P, .agg (encS ⟨8, s, k, a, u, v⟩).toArray] w (ZipP w ⟨8, s, k, a, u, v⟩) := by
  have hz := zeroAn
  have l32 : Hid (∀ k : RKey, (encKy k).length = 32) := Lib.hid encKy_length
  have a32 : Hid (∀ k : RKey, (encKy k).toArray.size = 32) := Lib.hid fun k => by simp [encKy_length]
  have hi32 : Hid ((Try.prog.info? 35).map (·.size) = some 32) := Lib.hid (by kernel_rfl)
  have l36 : Hid (∀ x : AnsT, (encA x).length = 36) := Lib.hid encA_length
  have a36 : Hid (∀ x : AnsT, (encA x).toArray.size = 36) := Lib.hid fun k => by simp [encA_length]
  have hi36 : Hid ((Try.prog.info? 38).map (·.size) = some 36) := Lib.hid (by kernel_rfl)
  have oneA := Lib.hid encA_all
  have oneK := Lib.hid encKy_all
  have hT := Lib.hid h
  obtain ⟨wa, hwa⟩ : ∃ wa, w.alloc (.cells (encS ⟨8, s, k, a, u, v⟩).toArray 41) = wa := ⟨_, rfl⟩
  obtain ⟨wb, hwb⟩ : ∃ wb, wa.alloc (.cells (encA zA).toArray 38) = wb := ⟨_, rfl⟩
  obtain ⟨w0, hw0⟩ : ∃ w0, wb.alloc (.cells (encA zA).toArray 38) = w0 := ⟨_, rfl⟩
  have sa : wa.heap.size = w.heap.size + 1 := by rw [← hwa]; simp
  have sb : wb.heap.size = w.heap.size + 2 := by rw [← hwb]; simp [sa]
  have hA : Hid (AS w w0 ⟨8, s, k, a, u, v⟩ zA) := Lib.hid (by rw [← hw0, ← hwb, ← hwa]; exact AS.new w _)
  have hT0 := Lib.hid (h.below hA.out.lo)
  have ck : w0.cell? ⟨w.heap.size, 0, none⟩ = some (.int .i64 8) := hA.out.ab.kind
  clear h
  have cv : w0.cell? ⟨w.heap.size, 35, none⟩ = some (.int .u64 (u : Int)) := hA.out.ab.v
  obtain ⟨l, E, hq, hl1, hl2, hC⟩ : ∃ (l : List RootT) (E : Nat), Hid (∀ _ : Unit, zipQ ⟨8, s, k, a, u, v⟩ = ⟨E, kZ, 0, false, listS l⟩) ∧ l.length ≤ 200 ∧ (∀ r ∈ l, Name r.1) ∧ Hid (Calls Try.prog 19 #[P, .int .u64 (u : Int)] w0 fun e w' => ∃ A1 c1, e = .returned (.tuple #[.slice A1 l.length c1, .int .i64 (E : Int)]) ∧ Own w' w0.heap.size 61 33 A1 l.length c1 (rowsR l) ∧ Below w0.heap.size w0 w') := by
    exact ⟨[], 1, Lib.hid fun _ => rfl, by simp, by simp, Lib.hid ((at_zip hT0.out u).mono fun e w1 ⟨h1, h2⟩ => ⟨none, 0, h1, Own.nil _ _ _ _, by rw [← h2]; exact Below.refl _ _⟩)⟩
  have htot := totS_named hl2
  obtain ⟨n, hn⟩ : ∃ n, Hid (∀ _ : Unit, l.length = n) := ⟨_, Lib.hid fun _ => rfl⟩
  obtain ⟨tx, htx⟩ : ∃ tx, Hid (∀ _ : Unit, listS l = tx) := ⟨_, Lib.hid fun _ => rfl⟩
  rw [hn.out ()] at hC hl1 htot
  rw [htx.out ()] at hq
  have hlist : Hid (∀ W A1 c1, Own W w0.heap.size 61 33 A1 n c1 (rowsR l) → Calls Try.prog 16 #[.slice A1 n c1] W fun e w' => e = .returned (.string tx) ∧ Below W.heap.size W w') := Lib.hid fun W A1 c1 ho => by
    rw [← htx.out ()]
    exact listed_txt W l A1 n c1 W.heap.size (hn.out ()) (by omega) (RowR.of_own (by rw [hn.out ()]; exact ho)) (Nat.le_refl _) (by omega)
  have hsp : Hid (∀ W A1 c1, Own W w0.heap.size 61 33 A1 n c1 (rowsR l) → w0.heap.size ≤ W.heap.size → Calls Try.prog 33 #[.slice A1 n c1] W fun e w' => (∃ v, e = .returned v) ∧ Gro (fun j => blockOf A1 = some j) W w') := Lib.hid fun W A1 c1 ho hle => spoilt_any W _ A1 n c1 _ ho (by have := Shp.rows l; rwa [hn.out ()] at this) (by omega) hle
  clear hl1 hl2 htot
  go_enter Try.func14, Try.ntmps14
  go_wp2_with (first
    | (go_at_call 19
       refine hC.out.mono ?_
       rintro e w1 ⟨A1, c1, rfl, ho, hc⟩
       have h1 := Lib.hid (hA.out.next hc)
       have ho1 := Lib.hid ho
       have hs1 := Lib.hid hc.size
       clear ho hc)
    | (go_at_call 16
       refine (hlist.out _ _ _ ho1.out).mono ?_
       rintro e w2 ⟨rfl, hc⟩
       have h2 := Lib.hid (h1.out.next hc)
       have hs2 := Lib.hid (Nat.le_trans hs1.out hc.size)
       have ho2 := Lib.hid (ho1.out.below hc fun j hj => (ho1.out.lt j hj).2)
       clear hc
       have f1 := h2.out.ab.fz 35
       have cc1 := h2.out.ab.c35
       have f2 := (h2.out.putL tx).ab.fz 0
       have cc2 := (h2.out.putL tx).ab.c0)
    | (go_at_call 33
       refine (hsp.out _ _ _ ((ho2.out.setFar (p := ⟨w.heap.size + 2, 35, none⟩) (by have := hA.out.le; show w.heap.size + 2 < w0.heap.size; omega) _).setFar (p := ⟨w.heap.size + 2, 0, none⟩) (by have := hA.out.le; show w.heap.size + 2 < w0.heap.size; omega) _) (by simpa using hs2.out)).mono ?_
       rintro e w3 ⟨⟨v9, rfl⟩, hg⟩
       have h3 := Lib.hid (((h2.out.putL tx).putE E).gro hg fun j hj => by have := hA.out.le; have := (ho1.out.lt j hj).1; omega)
       clear hg)
    | (refine wpList_load_mid rfl 38 _ rfl (w.heap.size + 2) 0 rfl (encA ⟨E, kZ, 0, false, tx⟩) _ (range_blk h3.out.ab.ou) Try.underlying38 rfl (by rw [l36.out]; exact hi36.out) ?_)
    | (refine wpList_store_row rfl 38 _ _ rfl (w.heap.size + 1) (encA ⟨E, kZ, 0, false, tx⟩).toArray rfl rfl 38 _ h3.out.ab.rs (by rw [a36.out]; exact hi36.out) (by simp only [a36.out]) (oneA.out _) ?_))
  refine bodyPost_ret (results_cell_row rfl _ _ (w.heap.size + 1) 38 _ (0, 0) _ rfl (h3.out.res _) Try.underlying38 rfl (by rw [a36.out]; exact hi36.out)) rfl ?_
  exact ⟨by rw [hq.out ()], h3.out.fin _⟩
end Go.Proofs.Ytakcnkmlglkkpaa

namespace Go.Proofs.Ytakcnkmlglkkpaa
open Go.RowKit
set_option linter.unusedSimpArgs false
set_option linter.unusedVariables false
open Classical

set_option maxRecDepth 100000 in
set_option maxHeartbeats 4000000 in
theorem zip_k9 (w : World) {P : Value} (h : Zip w P) (s : ByteArray) (k : RKey) (a : Bool) (u v : Nat) :
    Calls Try.prog 14 #[P, .agg (encS ⟨9, s, k, a, u, v⟩).toArray] w (ZipP w ⟨9, s, k, a, u, v⟩) := by
  have hz := zeroAn
  have l32 : Hid (∀ k : RKey, (encKy k).length = 32) := Lib.hid encKy_length
  have a32 : Hid (∀ k : RKey, (encKy k).toArray.size = 32) := Lib.hid fun k => by simp [encKy_length]
  have hi32 : Hid ((Try.prog.info? 35).map (·.size) = some 32) := Lib.hid (by kernel_rfl)
  have l36 : Hid (∀ x : AnsT, (encA x).length = 36) := Lib.hid encA_length
  have a36 : Hid (∀ x : AnsT, (encA x).toArray.size = 36) := Lib.hid fun k => by simp [encA_length]
  have hi36 : Hid ((Try.prog.info? 38).map (·.size) = some 36) := Lib.hid (by kernel_rfl)
  have oneA := Lib.hid encA_all
  have oneK := Lib.hid encKy_all
  have hT := Lib.hid h
  obtain ⟨wa, hwa⟩ : ∃ wa, w.alloc (.cells (encS ⟨9, s, k, a, u, v⟩).toArray 41) = wa := ⟨_, rfl⟩
  obtain ⟨wb, hwb⟩ : ∃ wb, wa.alloc (.cells (encA zA).toArray 38) = wb := ⟨_, rfl⟩
  obtain ⟨w0, hw0⟩ : ∃ w0, wb.alloc (.cells (encA zA).toArray 38) = w0 := ⟨_, rfl⟩
  have sa : wa.heap.size = w.heap.size + 1 := by rw [← hwa]; simp
  have sb : wb.heap.size = w.heap.size + 2 := by rw [← hwb]; simp [sa]
  have hA : Hid (AS w w0 ⟨9, s, k, a, u, v⟩ zA) := Lib.hid (by rw [← hw0, ← hwb, ← hwa]; exact AS.new w _)
  have hT0 := Lib.hid (h.below hA.out.lo)
  have ck : w0.cell? ⟨w.heap.size, 0, none⟩ = some (.int .i64 9) := hA.out.ab.kind
  clear h
  have cv : w0.cell? ⟨w.heap.size, 35, none⟩ = some (.int .u64 (u : Int)) := hA.out.ab.v
  have cw : w0.cell? ⟨w.heap.size, 36, none⟩ = some (.int .u64 (v : Int)) := hA.out.ab.w
  obtain ⟨l, E, hq, hl1, hl2, hC⟩ : ∃ (l : List TurnT) (E : Nat), Hid (∀ _ : Unit, zipQ ⟨9, s, k, a, u, v⟩ = ⟨E, kZ, 0, false, turnsS l⟩) ∧ l.length ≤ 200 ∧ (∀ r ∈ l, Name r.name) ∧ Hid (Calls Try.prog 22 #[P, .int .u64 (u : Int), .int .u64 (v : Int)] w0 fun e w' => ∃ A1 c1, e = .returned (.tuple #[.slice A1 l.length c1, .int .i64 (E : Int)]) ∧ Own w' w0.heap.size 55 67 A1 l.length c1 (rowsT l) ∧ Below w0.heap.size w0 w') := by
    exact ⟨[], 1, Lib.hid fun _ => rfl, by simp, by simp, Lib.hid ((turns_zip hT0.out u v).mono fun e w1 ⟨h1, h2⟩ => ⟨none, 0, h1, Own.nil _ _ _ _, by rw [← h2]; exact Below.refl _ _⟩)⟩
  have htot := totT_named hl2
  obtain ⟨n, hn⟩ : ∃ n, Hid (∀ _ : Unit, l.length = n) := ⟨_, Lib.hid fun _ => rfl⟩
  obtain ⟨tx, htx⟩ : ∃ tx, Hid (∀ _ : Unit, turnsS l = tx) := ⟨_, Lib.hid fun _ => rfl⟩
  rw [hn.out ()] at hC hl1 htot
  rw [htx.out ()] at hq
  have hlist : Hid (∀ W A1 c1, Own W w0.heap.size 55 67 A1 n c1 (rowsT l) → Calls Try.prog 34 #[.slice A1 n c1] W fun e w' => e = .returned (.string tx) ∧ Below W.heap.size W w') := Lib.hid fun W A1 c1 ho => by
    rw [← htx.out ()]
    exact turns_txt W l A1 n c1 (hn.out ()) (by omega) (RowT.of_own (by rw [hn.out ()]; exact ho)) (by omega)
  have hsp : Hid (∀ W A1 c1, Own W w0.heap.size 55 67 A1 n c1 (rowsT l) → w0.heap.size ≤ W.heap.size → Calls Try.prog 35 #[.slice A1 n c1] W fun e w' => (∃ v, e = .returned v) ∧ Gro (fun j => blockOf A1 = some j) W w') := Lib.hid fun W A1 c1 ho hle => spoiltT_any W _ A1 n c1 _ ho (by omega) hle
  clear hl1 hl2 htot
  go_enter Try.func14, Try.ntmps14
  go_wp2_with (first
    | (go_at_call 22
       refine hC.out.mono ?_
       rintro e w1 ⟨A1, c1, rfl, ho, hc⟩
       have h1 := Lib.hid (hA.out.next hc)
       have ho1 := Lib.hid ho
       have hs1 := Lib.hid hc.size
       clear ho hc)
    | (go_at_call 34
       refine (hlist.out _ _ _ ho1.out).mono ?_
       rintro e w2 ⟨rfl, hc⟩
       have h2 := Lib.hid (h1.out.next hc)
       have hs2 := Lib.hid (Nat.le_trans hs1.out hc.size)
       have ho2 := Lib.hid (ho1.out.below hc fun j hj => (ho1.out.lt j hj).2)
       clear hc
       have f1 := h2.out.ab.fz 35
       have cc1 := h2.out.ab.c35
       have f2 := (h2.out.putL tx).ab.fz 0
       have cc2 := (h2.out.putL tx).ab.c0)
    | (go_at_call 35
       refine (hsp.out _ _ _ ((ho2.out.setFar (p := ⟨w.heap.size + 2, 35, none⟩) (by have := hA.out.le; show w.heap.size + 2 < w0.heap.size; omega) _).setFar (p := ⟨w.heap.size + 2, 0, none⟩) (by have := hA.out.le; show w.heap.size + 2 < w0.heap.size; omega) _) (by simpa using hs2.out)).mono ?_
       rintro e w3 ⟨⟨v9, rfl⟩, hg⟩
       have h3 := Lib.hid (((h2.out.putL tx).putE E).gro hg fun j hj => by have := hA.out.le; have := (ho1.out.lt j hj).1; omega)
       clear hg)
    | (refine wpList_load_mid rfl 38 _ rfl (w.heap.size + 2) 0 rfl (encA ⟨E, kZ, 0, false, tx⟩) _ (range_blk h3.out.ab.ou) Try.underlying38 rfl (by rw [l36.out]; exact hi36.out) ?_)
    | (refine wpList_store_row rfl 38 _ _ rfl (w.heap.size + 1) (encA ⟨E, kZ, 0, false, tx⟩).toArray rfl rfl 38 _ h3.out.ab.rs (by rw [a36.out]; exact hi36.out) (by simp only [a36.out]) (oneA.out _) ?_))
  refine bodyPost_ret (results_cell_row rfl _ _ (w.heap.size + 1) 38 _ (0, 0) _ rfl (h3.out.res _) Try.underlying38 rfl (by rw [a36.out]; exact hi36.out)) rfl ?_
  exact ⟨by rw [hq.out ()], h3.out.fin _⟩
end Go.Proofs.Ytakcnkmlglkkpaa

namespace Go.Proofs.Ytakcnkmlglkkpaa
open Go.RowKit
set_option linter.unusedSimpArgs false
set_option linter.unusedVariables false
open Classical

set_option maxRecDepth 100000 in
set_option maxHeartbeats 4000000 in
theorem zip_other (w : World) {P : Value} (h : Zip w P) (s : ByteArray) (k : RKey) (a : Bool) (u v : Nat) (K : Int) (hK : K < 1 ∨ 9 < K) :
    Calls Try.prog 14 #[P, .agg (encS ⟨K, s, k, a, u, v⟩).toArray] w (ZipP w ⟨K, s, k, a, u, v⟩) := by
  have hz := zeroAn
  have l32 : Hid (∀ k : RKey, (encKy k).length = 32) := Lib.hid encKy_length
  have a32 : Hid (∀ k : RKey, (encKy k).toArray.size = 32) := Lib.hid fun k => by simp [encKy_length]
  have hi32 : Hid ((Try.prog.info? 35).map (·.size) = some 32) := Lib.hid (by kernel_rfl)
  have l36 : Hid (∀ x : AnsT, (encA x).length = 36) := Lib.hid encA_length
  have a36 : Hid (∀ x : AnsT, (encA x).toArray.size = 36) := Lib.hid fun k => by simp [encA_length]
  have hi36 : Hid ((Try.prog.info? 38).map (·.size) = some 36) := Lib.hid (by kernel_rfl)
  have oneA := Lib.hid encA_all
  have oneK := Lib.hid encKy_all
  have hT := Lib.hid h
  obtain ⟨wa, hwa⟩ : ∃ wa, w.alloc (.cells (encS ⟨K, s, k, a, u, v⟩).toArray 41) = wa := ⟨_, rfl⟩
  obtain ⟨wb, hwb⟩ : ∃ wb, wa.alloc (.cells (encA zA).toArray 38) = wb := ⟨_, rfl⟩
  obtain ⟨w0, hw0⟩ : ∃ w0, wb.alloc (.cells (encA zA).toArray 38) = w0 := ⟨_, rfl⟩
  have sa : wa.heap.size = w.heap.size + 1 := by rw [← hwa]; simp
  have sb : wb.heap.size = w.heap.size + 2 := by rw [← hwb]; simp [sa]
  have hA : Hid (AS w w0 ⟨K, s, k, a, u, v⟩ zA) := Lib.hid (by rw [← hw0, ← hwb, ← hwa]; exact AS.new w _)
  have hT0 := Lib.hid (h.below hA.out.lo)
  have ck : w0.cell? ⟨w.heap.size, 0, none⟩ = some (.int .i64 K) := hA.out.ab.kind
  clear h
  have hq : Hid (∀ _ : Unit, zipQ ⟨K, s, k, a, u, v⟩ = zA) := Lib.hid fun _ => by unfold zipQ; simp only []; rw [if_neg (by omega), if_neg (by omega)]
  have n1 : (K == 1) = false := by simp; omega
  have n2 : (K == 2) = false := by simp; omega
  have n3 : (K == 3) = false := by simp; omega
  have n4 : (K == 4) = false := by simp; omega
  have n5 : (K == 5) = false := by simp; omega
  have n6 : (K == 6) = false := by simp; omega
  have n7 : (K == 7) = false := by simp; omega
  have n8 : (K == 8) = false := by simp; omega
  have n9 : (K == 9) = false := by simp; omega
  clear hK
  go_enter Try.func14, Try.ntmps14
  go_wp2_with (first
    | (refine wpList_load_mid rfl 38 _ rfl (w.heap.size + 2) 0 rfl (encA zA) _ (range_blk hA.out.ab.ou) Try.underlying38 rfl (by rw [l36.out]; exact hi36.out) ?_)
    | (refine wpList_store_row rfl 38 _ _ rfl (w.heap.size + 1) (encA zA).toArray rfl rfl 38 _ hA.out.ab.rs (by rw [a36.out]; exact hi36.out) (by simp only [a36.out]) (oneA.out _) ?_))
  refine bodyPost_ret (results_cell_row rfl _ _ (w.heap.size + 1) 38 _ (0, 0) _ rfl (hA.out.res _) Try.underlying38 rfl (by rw [a36.out]; exact hi36.out)) rfl ?_
  exact ⟨by rw [hq.out ()], hA.out.fin _⟩
end Go.Proofs.Ytakcnkmlglkkpaa

namespace Go.Proofs.Ytakcnkmlglkkpaa
open Go.RowKit
set_option linter.unusedSimpArgs false
set_option linter.unusedVariables false
open Classical

theorem asked_zip (w : World) {P : Value} (h : Zip w P) (s : StepT) :
    Calls Try.prog 14 #[P, .agg (encS s).toArray] w (ZipP w s) := by
  obtain ⟨K, n, k, a, u, v⟩ := s
  by_cases hK : K < 1 ∨ 9 < K
  · exact zip_other w h n k a u v K hK
  · obtain rfl | rfl | rfl | rfl | rfl | rfl | rfl | rfl | rfl : K = 1 ∨ K = 2 ∨ K = 3 ∨ K = 4 ∨ K = 5 ∨ K = 6 ∨ K = 7 ∨ K = 8 ∨ K = 9 := by omega
    · exact zip_k1 w h n k a u v
    · exact zip_k2 w h n k a u v
    · exact zip_k3 w h n k a u v
    · exact zip_k4 w h n k a u v
    · exact zip_k5 w h n k a u v
    · exact zip_k6 w h n k a u v
    · exact zip_k7 w h n k a u v
    · exact zip_k8 w h n k a u v
    · exact zip_k9 w h n k a u v
end Go.Proofs.Ytakcnkmlglkkpaa

namespace Go.Proofs.Ytakcnkmlglkkpaa
open Go.RowKit
set_option linter.unusedSimpArgs false
set_option linter.unusedVariables false
open Classical

/-- Two of the program's tables that have nothing in common. -/
structure TwoP (w0 W : World) (g h : Nat) (L M : Lists) : Prop where
  lo : Below w0.heap.size w0 W
  ab : ∃ A C, TblL W w0.heap.size g A L ∧ TblL W w0.heap.size h C M ∧ g ≠ h ∧ Dis A C
structure TwoD (w0 W : World) (g h : Nat) (L M : Lists) : Prop where
  lo : Below w0.heap.size w0 W
  ab : ∃ A C, DocL W w0.heap.size g A L ∧ DocL W w0.heap.size h C M ∧ g ≠ h ∧ Dis A C
section
variable {w0 W W' : World} {g h g' h' : Nat} {L M L' M' : Lists}
theorem TwoP.symm (p : TwoP w0 W g h L M) : TwoP w0 W h g M L := by
  obtain ⟨lo, A, C, t, u, hne, hd⟩ := p
  exact ⟨lo, C, A, u, t, fun e => hne e.symm, hd.symm⟩
theorem TwoD.symm (p : TwoD w0 W g h L M) : TwoD w0 W h g M L := by
  obtain ⟨lo, A, C, t, u, hne, hd⟩ := p
  exact ⟨lo, C, A, u, t, fun e => hne e.symm, hd.symm⟩
theorem TwoP.ok (p : TwoP w0 W g h L M) : okLs L := by
  obtain ⟨lo, A, C, t, u, hne, hd⟩ := p
  exact t.ok
theorem TwoP.gro (p : TwoP w0 W g h L M) (hg : Gro (fun j => TchD W j ∧ w0.heap.size ≤ j) W W') : TwoP w0 W' g h L M := by
  obtain ⟨lo, A, C, t, u, hne, hd⟩ := p
  have k : ∀ {B g : Nat} {A : Option Addr} {L : Lists}, TblL W B g A L → TblL W' B g A L := fun t => t.gro hg fun j hj => ⟨fun e => tch_not (t.tch j (.inl e)) hj.1, fun e => tch_not (t.tch j (.inr e)) hj.1, fun cs fr hc => by
    rcases tchD_type hj.1 hc with h | h <;> exact absurd h (by decide)⟩
  exact ⟨lo.trans (hg.below lo.size fun j hj => hj.2), A, C, k t, k u, hne, hd⟩
theorem TwoD.gro (p : TwoD w0 W g h L M) (hg : Gro (fun j => Tch W j ∧ w0.heap.size ≤ j) W W') : TwoD w0 W' g h L M := by
  obtain ⟨lo, A, C, t, u, hne, hd⟩ := p
  have k : ∀ {B g : Nat} {A : Option Addr} {L : Lists}, DocL W B g A L → DocL W' B g A L := fun t => t.gro hg fun j hj => ⟨fun e => tch_not hj.1 (t.tch j (.inl e)), fun e => tch_not hj.1 (t.tch j (.inr e)), fun cs fr hc => by
    rcases tch_type hj.1 hc with h | h <;> exact absurd h (by decide)⟩
  exact ⟨lo.trans (hg.below lo.size fun j hj => hj.2), A, C, k t, k u, hne, hd⟩
theorem TwoP.below (p : TwoP w0 W g h L M) (hb : Below W.heap.size W W') : TwoP w0 W' g h L M := by
  obtain ⟨lo, A, C, t, u, hne, hd⟩ := p
  exact ⟨lo.trans (hb.mono lo.size), A, C, t.below hb, u.below hb, hne, hd⟩
theorem TwoD.below (p : TwoD w0 W g h L M) (hb : Below W.heap.size W W') : TwoD w0 W' g h L M := by
  obtain ⟨lo, A, C, t, u, hne, hd⟩ := p
  exact ⟨lo.trans (hb.mono lo.size), A, C, t.below hb, u.below hb, hne, hd⟩
theorem TblL.ty {w : World} {B g : Nat} {A : Option Addr} {L : Lists} (t : TblL w B g A L) : (∃ cs fr, w.heap[g]? = some (.cells cs 68 fr)) ∧ ∀ j, blockOf A = some j → ∃ cs fr, w.heap[j]? = some (.cells cs 81 fr) := by
  obtain ⟨c, vs, ps, e, h⟩ := t
  exact ⟨⟨_, _, h.blk⟩, fun j hj => h.own.type hj⟩
theorem DocL.ty {w : World} {B g : Nat} {A : Option Addr} {L : Lists} (t : DocL w B g A L) : (∃ cs fr, w.heap[g]? = some (.cells cs 96 fr)) ∧ ∀ j, blockOf A = some j → ∃ cs fr, w.heap[j]? = some (.cells cs 24 fr) := by
  obtain ⟨c, ps, h⟩ := t
  exact ⟨⟨_, _, h.blk⟩, fun j hj => h.own.type hj⟩
theorem ty_ne {w : World} {i j : Nat} {t u : TypeId} (ht : ∃ cs fr, w.heap[i]? = some (.cells cs t fr)) (hu : ∃ cs fr, w.heap[j]? = some (.cells cs u fr)) (h : t ≠ u) : i ≠ j := fun e => by
  obtain ⟨cs, fr, h1⟩ := ht
  obtain ⟨cs', fr', h2⟩ := hu
  rw [e, h2] at h1
  injection h1 with h1
  injection h1 with _ h1 _
  exact h h1.symm
theorem asked_twoP (p : TwoP w0 W g h L M) (hm : L.length < 100000) (s : StepT) :
    Calls Try.prog 14 #[.pointer (some ⟨g, 0, none⟩), .agg (encS s).toArray] W fun e w' => e = .returned (.agg (encA (stepQ L s).1).toArray) ∧ TwoP w0 w' g h (stepQ L s).2 M ∧ Gro (fun j => Tch W j ∧ w0.heap.size ≤ j) W w' := by
  obtain ⟨lo, A, C, t, u, hne, hd⟩ := p
  refine (asked_any W t hm s).mono ?_
  rintro e w' ⟨h1, A', h2, h3, h4⟩
  have hg : Gro (fun j => Tch W j ∧ w0.heap.size ≤ j) W w' := h3.sub fun j hj => .inl ⟨t.tch j hj, by
    rcases hj with rfl | hj
    · exact t.gB.1
    · exact t.gB.2 j hj⟩
  refine ⟨h1, ⟨lo.trans (hg.below lo.size fun j hj => hj.2), A', C, h2, u.gro h3 ?_, hne, ?_⟩, hg⟩
  · rintro j (rfl | hj)
    · refine ⟨hne, fun e => ?_, fun cs fr hc => ?_⟩
      · exact ty_ne t.ty.1 (u.ty.2 j e) (by decide) rfl
      · exact ty_ne t.ty.1 ⟨cs, fr, hc⟩ (by decide) rfl
    · refine ⟨fun e => ?_, fun e => hd j hj e, fun cs fr hc => ?_⟩
      · subst e
        exact ty_ne (t.ty.2 j hj) u.ty.1 (by decide) rfl
      · exact ty_ne (t.ty.2 j hj) ⟨cs, fr, hc⟩ (by decide) rfl
  · intro j hj e
    rcases h4 j hj with h5 | h5
    · exact hd j h5 e
    · have := u.lts.2 j e
      omega
theorem wanted_twoD (p : TwoD w0 W g h L M) (hok : okLs L) (hm : L.length < 100000) (s : StepT) :
    Calls Try.prog 15 #[.pointer (some ⟨g, 0, none⟩), .agg (encS s).toArray] W fun e w' => e = .returned (.agg (encA (stepQ L s).1).toArray) ∧ TwoD w0 w' g h (stepQ L s).2 M ∧ Gro (fun j => TchD W j ∧ w0.heap.size ≤ j) W w' := by
  obtain ⟨lo, A, C, t, u, hne, hd⟩ := p
  refine (wanted_any W t hok hm s).mono ?_
  rintro e w' ⟨h1, A', h2, h3, h4⟩
  have hg : Gro (fun j => TchD W j ∧ w0.heap.size ≤ j) W w' := h3.sub fun j hj => .inl ⟨t.tch j hj, by
    rcases hj with rfl | hj
    · exact t.gB.1
    · exact t.gB.2 j hj⟩
  refine ⟨h1, ⟨lo.trans (hg.below lo.size fun j hj => hj.2), A', C, h2, u.gro h3 ?_, hne, ?_⟩, hg⟩
  · rintro j (rfl | hj)
    · refine ⟨hne, fun e => ?_, fun cs fr hc => ?_⟩
      · exact ty_ne t.ty.1 (u.ty.2 j e) (by decide) rfl
      · exact ty_ne t.ty.1 ⟨cs, fr, hc⟩ (by decide) rfl
    · refine ⟨fun e => ?_, fun e => hd j hj e, fun cs fr hc => ?_⟩
      · subst e
        exact ty_ne (t.ty.2 j hj) u.ty.1 (by decide) rfl
      · exact ty_ne (t.ty.2 j hj) ⟨cs, fr, hc⟩ (by decide) rfl
  · intro j hj e
    rcases h4 j hj with h5 | h5
    · exact hd j h5 e
    · have := u.lts.2 j e
      omega
/-- Both pairs. -/
structure Four (w0 W : World) (g h g' h' : Nat) (L M L' M' : Lists) : Prop where
  p : TwoP w0 W g h L M
  d : TwoD w0 W g' h' L' M'
theorem Four.below (f : Four w0 W g h g' h' L M L' M') (hb : Below W.heap.size W W') : Four w0 W' g h g' h' L M L' M' := ⟨f.p.below hb, f.d.below hb⟩
theorem Four.lo (f : Four w0 W g h g' h' L M L' M') : Below w0.heap.size w0 W := f.p.lo
theorem Four.askX (f : Four w0 W g h g' h' L M L' M') (hm : L.length < 100000) (s : StepT) :
    Calls Try.prog 14 #[.pointer (some ⟨g, 0, none⟩), .agg (encS s).toArray] W fun e w' => e = .returned (.agg (encA (stepQ L s).1).toArray) ∧ Four w0 w' g h g' h' (stepQ L s).2 M L' M' :=
  (asked_twoP f.p hm s).mono fun e w' ⟨h1, h2, h3⟩ => ⟨h1, h2, f.d.gro h3⟩
theorem Four.askY (f : Four w0 W g h g' h' L M L' M') (hm : M.length < 100000) (s : StepT) :
    Calls Try.prog 14 #[.pointer (some ⟨h, 0, none⟩), .agg (encS s).toArray] W fun e w' => e = .returned (.agg (encA (stepQ M s).1).toArray) ∧ Four w0 w' g h g' h' L (stepQ M s).2 L' M' :=
  (asked_twoP f.p.symm hm s).mono fun e w' ⟨h1, h2, h3⟩ => ⟨h1, h2.symm, f.d.gro h3⟩
theorem Four.wantX (f : Four w0 W g h g' h' L M L' M') (hok : okLs L') (hm : L'.length < 100000) (s : StepT) :
    Calls Try.prog 15 #[.pointer (some ⟨g', 0, none⟩), .agg (encS s).toArray] W fun e w' => e = .returned (.agg (encA (stepQ L' s).1).toArray) ∧ Four w0 w' g h g' h' L M (stepQ L' s).2 M' :=
  (wanted_twoD f.d hok hm s).mono fun e w' ⟨h1, h2, h3⟩ => ⟨h1, f.p.gro h3, h2⟩
theorem Four.wantY (f : Four w0 W g h g' h' L M L' M') (hok : okLs M') (hm : M'.length < 100000) (s : StepT) :
    Calls Try.prog 15 #[.pointer (some ⟨h', 0, none⟩), .agg (encS s).toArray] W fun e w' => e = .returned (.agg (encA (stepQ M' s).1).toArray) ∧ Four w0 w' g h g' h' L M L' (stepQ M' s).2 :=
  (wanted_twoD f.d.symm hok hm s).mono fun e w' ⟨h1, h2, h3⟩ => ⟨h1, f.p.gro h3, h2.symm⟩
/-- Tables made behind others. -/
theorem Two.four (t : Two w0 W g g' L L') (hb : Below W.heap.size W W') {C C' : Option Addr} (u : TblL W' W.heap.size h C M) (u' : DocL W' W.heap.size h' C' M') : Four w0 W' g h g' h' L M L' M' := by
  obtain ⟨⟨lo, A, tp⟩, ⟨_, A', td⟩⟩ := t
  have hlo := lo.trans (hb.mono lo.size)
  refine ⟨⟨hlo, A, C, tp.below hb, u.base lo.size, ?_, fun j h1 h2 => ?_⟩, ⟨hlo, A', C', td.below hb, u'.base lo.size, ?_, fun j h1 h2 => ?_⟩⟩
  · have := tp.lts.1
    have := u.gB.1
    omega
  · have := tp.lts.2 j h1
    have := u.gB.2 j h2
    omega
  · have := td.lts.1
    have := u'.gB.1
    omega
  · have := td.lts.2 j h1
    have := u'.gB.2 j h2
    omega
end
theorem buildAE (W : World) : (Instr.build 38 #[(0, .int .i64 1)]).run Try.prog W = .ok (.agg (encA ⟨1, kZ, 0, false, ⟨#[]⟩⟩).toArray) W := run_build W _ _ _ (by kernel_rfl)
theorem buildA4 (s : ByteArray) (W : World) : (Instr.build 38 #[(4, .string s)]).run Try.prog W = .ok (.agg (encA ⟨0, kZ, 0, false, s⟩).toArray) W := run_build W _ _ _ (by kernel_rfl)
theorem buildA0 (W : World) : (Instr.build 38 #[]).run Try.prog W = .ok (.agg (encA zA).toArray) W := run_build W _ _ _ (by kernel_rfl)
theorem buildRs (W : World) : (Instr.build 68 #[]).run Try.prog W = .ok (.agg #[.slice none 0 0]) W := run_build W _ _ _ (by kernel_rfl)
end Go.Proofs.Ytakcnkmlglkkpaa

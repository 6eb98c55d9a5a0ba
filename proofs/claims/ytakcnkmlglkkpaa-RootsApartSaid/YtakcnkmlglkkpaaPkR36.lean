/- asked, kind by kind. (Printed by tools/genask.py.) asked, kind by kind. (Printed by tools/genask.py.) asked, kind by kind. (Printed by tools/genask.py.) asked, kind by kind. (Printed by tools/genask.py.) -/
import Derived.Test.YtakcnkmlglkkpaaPkR33

namespace Go.Proofs.Ytakcnkmlglkkpaa
open Go.RowKit
set_option linter.unusedSimpArgs false
set_option linter.unusedVariables false
open Classical

set_option maxRecDepth 100000 in
set_option maxHeartbeats 4000000 in
theorem asked_k6 (w : World) {B g : Nat} {A : Option Addr} {L : Lists} (h : TblL w B g A L) (hok : okLs L) (hm : L.length < 100000) (s : ByteArray) (k : RKey) (a : Bool) (u v : Nat) :
    Calls Try.prog 14 #[.pointer (some ⟨g, 0, none⟩), .agg (encS ⟨6, s, k, a, u, v⟩).toArray] w (AskP w B g A L ⟨6, s, k, a, u, v⟩) := by
  have hz := zeroAn
  have l32 : Hid (∀ k : RKey, (encKy k).length = 32) := Lib.hid encKy_length
  have a32 : Hid (∀ k : RKey, (encKy k).toArray.size = 32) := Lib.hid fun k => by simp [encKy_length]
  have hi32 : Hid ((Try.prog.info? 35).map (·.size) = some 32) := Lib.hid (by kernel_rfl)
  have l36 : Hid (∀ x : AnsT, (encA x).length = 36) := Lib.hid encA_length
  have a36 : Hid (∀ x : AnsT, (encA x).toArray.size = 36) := Lib.hid fun k => by simp [encA_length]
  have hi36 : Hid ((Try.prog.info? 38).map (·.size) = some 36) := Lib.hid (by kernel_rfl)
  have oneA := Lib.hid encA_all
  have oneK := Lib.hid encKy_all
  have hT := Lib.hid h
  have hS := Lib.hid (okLs_present hok)
  have hO := Lib.hid hok
  have hL := Lib.hid hm
  obtain ⟨wa, hwa⟩ : ∃ wa, w.alloc (.cells (encS ⟨6, s, k, a, u, v⟩).toArray 41) = wa := ⟨_, rfl⟩
  obtain ⟨wb, hwb⟩ : ∃ wb, wa.alloc (.cells (encA zA).toArray 38) = wb := ⟨_, rfl⟩
  obtain ⟨w0, hw0⟩ : ∃ w0, wb.alloc (.cells (encA zA).toArray 38) = w0 := ⟨_, rfl⟩
  have sa : wa.heap.size = w.heap.size + 1 := by rw [← hwa]; simp
  have sb : wb.heap.size = w.heap.size + 2 := by rw [← hwb]; simp [sa]
  have hA : Hid (AS w w0 ⟨6, s, k, a, u, v⟩ zA) := Lib.hid (by rw [← hw0, ← hwb, ← hwa]; exact AS.new w _)
  have hT0 := Lib.hid (h.below hA.out.lo)
  have ck : w0.cell? ⟨w.heap.size, 0, none⟩ = some (.int .i64 6) := hA.out.ab.kind
  clear h hok hm
  obtain ⟨l, hq, hl1, hl2, hC⟩ : ∃ (l : List RootT), Hid (∀ _ : Unit, stepQ L ⟨6, s, k, a, u, v⟩ = (⟨0, kZ, 0, false, listS l⟩, L)) ∧ l.length ≤ 200 ∧ (∀ r ∈ l, Name r.1) ∧ Hid (Calls Try.prog 17 #[.pointer (some ⟨g, 0, none⟩)] w0 fun e w' => ∃ A1 c1, e = .returned (.slice A1 l.length c1) ∧ Own w' w0.heap.size 61 33 A1 l.length c1 (rowsR l) ∧ Below w0.heap.size w0 w') := by
    refine ⟨present L, Lib.hid fun _ => rfl, by have := hS.out.2; omega, hS.out.1.2, Lib.hid ((allL_any hT0.out).mono ?_)⟩
    rintro e w1 ⟨⟨A1, c1, h1, h2⟩, h3⟩
    exact ⟨A1, c1, h1, h2, h3⟩
  have htot := totS_named hl2
  obtain ⟨n, hn⟩ : ∃ n, Hid (∀ _ : Unit, l.length = n) := ⟨_, Lib.hid fun _ => rfl⟩
  obtain ⟨tx, htx⟩ : ∃ tx, Hid (∀ _ : Unit, listS l = tx) := ⟨_, Lib.hid fun _ => rfl⟩
  rw [hn.out ()] at hC hl1 htot
  rw [htx.out ()] at hq
  have hlist : Hid (∀ W A1 c1, Own W w0.heap.size 61 33 A1 n c1 (rowsR l) → Calls Try.prog 16 #[.slice A1 n c1] W fun e w' => e = .returned (.string tx) ∧ Below W.heap.size W w') := Lib.hid fun W A1 c1 ho => by
    rw [← htx.out ()]
    exact listed_txt W l A1 n c1 W.heap.size (hn.out ()) (by omega) (RowR.of_own (by rw [hn.out ()]; exact ho)) (Nat.le_refl _) (by omega)
  have hsp : Hid (∀ W A1 c1, Own W w0.heap.size 61 33 A1 n c1 (rowsR l) → w0.heap.size ≤ W.heap.size → Calls Try.prog 33 #[.slice A1 n c1] W fun e w' => (∃ v, e = .returned v) ∧ Gro (fun j => blockOf A1 = some j) W w') := Lib.hid fun W A1 c1 ho hle => spoilt_any W _ A1 n c1 _ ho (by have := Shp.rows l; rwa [hn.out ()] at this) (by omega) hle
  clear hl1 hl2 htot
  go_enter Try.func14, Try.ntmps14
  go_wp2_with (first
    | (go_at_call 17
       refine hC.out.mono ?_
       rintro e w1 ⟨A1, c1, rfl, ho, hc⟩
       have h1 := Lib.hid (hA.out.next hc)
       have ho1 := Lib.hid ho
       have hs1 := Lib.hid hc.size
       clear ho hc)
    | (go_at_call 16
       refine (hlist.out _ _ _ ho1.out).mono ?_
       rintro e w2 ⟨rfl, hc⟩
       have h2 := Lib.hid (h1.out.next hc)
       have hs2 := Lib.hid (Nat.le_trans hs1.out hc.size)
       have ho2 := Lib.hid (ho1.out.below hc fun j hj => (ho1.out.lt j hj).2)
       clear hc
       have f1 := h2.out.ab.fz 35
       have cc1 := h2.out.ab.c35)
    | (go_at_call 33
       refine (hsp.out _ _ _ (ho2.out.setFar (p := ⟨w.heap.size + 2, 35, none⟩) (by have := hA.out.le; show w.heap.size + 2 < w0.heap.size; omega) _) (by simpa using hs2.out)).mono ?_
       rintro e w3 ⟨⟨v9, rfl⟩, hg⟩
       have h3 := Lib.hid ((h2.out.putL tx).gro hg fun j hj => by have := hA.out.le; have := (ho1.out.lt j hj).1; omega)
       clear hg)
    | (refine wpList_load_mid rfl 38 _ rfl (w.heap.size + 2) 0 rfl (encA ⟨0, kZ, 0, false, tx⟩) _ (range_blk h3.out.ab.ou) Try.underlying38 rfl (by rw [l36.out]; exact hi36.out) ?_)
    | (refine wpList_store_row rfl 38 _ _ rfl (w.heap.size + 1) (encA ⟨0, kZ, 0, false, tx⟩).toArray rfl rfl 38 _ h3.out.ab.rs (by rw [a36.out]; exact hi36.out) (by simp only [a36.out]) (oneA.out _) ?_))
  refine bodyPost_ret (results_cell_row rfl _ _ (w.heap.size + 1) 38 _ (0, 0) _ rfl (h3.out.res _) Try.underlying38 rfl (by rw [a36.out]; exact hi36.out)) rfl ?_
  refine ⟨by rw [hq.out ()], ?_⟩
  rw [hq.out ()]
  exact hT.out.still (h3.out.fin _)
end Go.Proofs.Ytakcnkmlglkkpaa

namespace Go.Proofs.Ytakcnkmlglkkpaa
open Go.RowKit
set_option linter.unusedSimpArgs false
set_option linter.unusedVariables false
open Classical

set_option maxRecDepth 100000 in
set_option maxHeartbeats 4000000 in
theorem asked_k7 (w : World) {B g : Nat} {A : Option Addr} {L : Lists} (h : TblL w B g A L) (hok : okLs L) (hm : L.length < 100000) (s : ByteArray) (k : RKey) (a : Bool) (u v : Nat) :
    Calls Try.prog 14 #[.pointer (some ⟨g, 0, none⟩), .agg (encS ⟨7, s, k, a, u, v⟩).toArray] w (AskP w B g A L ⟨7, s, k, a, u, v⟩) := by
  have hz := zeroAn
  have l32 : Hid (∀ k : RKey, (encKy k).length = 32) := Lib.hid encKy_length
  have a32 : Hid (∀ k : RKey, (encKy k).toArray.size = 32) := Lib.hid fun k => by simp [encKy_length]
  have hi32 : Hid ((Try.prog.info? 35).map (·.size) = some 32) := Lib.hid (by kernel_rfl)
  have l36 : Hid (∀ x : AnsT, (encA x).length = 36) := Lib.hid encA_length
  have a36 : Hid (∀ x : AnsT, (encA x).toArray.size = 36) := Lib.hid fun k => by simp [encA_length]
  have hi36 : Hid ((Try.prog.info? 38).map (·.size) = some 36) := Lib.hid (by kernel_rfl)
  have oneA := Lib.hid encA_all
  have oneK := Lib.hid encKy_all
  have hT := Lib.hid h
  have hS := Lib.hid (okLs_present hok)
  have hO := Lib.hid hok
  have hL := Lib.hid hm
  obtain ⟨wa, hwa⟩ : ∃ wa, w.alloc (.cells (encS ⟨7, s, k, a, u, v⟩).toArray 41) = wa := ⟨_, rfl⟩
  obtain ⟨wb, hwb⟩ : ∃ wb, wa.alloc (.cells (encA zA).toArray 38) = wb := ⟨_, rfl⟩
  obtain ⟨w0, hw0⟩ : ∃ w0, wb.alloc (.cells (encA zA).toArray 38) = w0 := ⟨_, rfl⟩
  have sa : wa.heap.size = w.heap.size + 1 := by rw [← hwa]; simp
  have sb : wb.heap.size = w.heap.size + 2 := by rw [← hwb]; simp [sa]
  have hA : Hid (AS w w0 ⟨7, s, k, a, u, v⟩ zA) := Lib.hid (by rw [← hw0, ← hwb, ← hwa]; exact AS.new w _)
  have hT0 := Lib.hid (h.below hA.out.lo)
  have ck : w0.cell? ⟨w.heap.size, 0, none⟩ = some (.int .i64 7) := hA.out.ab.kind
  clear h hok hm
  have hC : Hid (Calls Try.prog 18 #[.pointer (some ⟨g, 0, none⟩)] w0 fun e w' => e = .returned (.int .u64 (L.length - 1 : Nat)) ∧ Below w0.heap.size w0 w') := Lib.hid (versionL_any hT0.out)
  have hq : Hid (∀ _ : Unit, stepQ L ⟨7, s, k, a, u, v⟩ = (⟨0, kZ, L.length - 1, false, ⟨#[]⟩⟩, L)) := Lib.hid fun _ => rfl
  obtain ⟨N, hN⟩ : ∃ N, Hid (∀ _ : Unit, L.length - 1 = N) := ⟨_, Lib.hid fun _ => rfl⟩
  rw [hN.out ()] at hq hC
  go_enter Try.func14, Try.ntmps14
  go_wp2_with (first
    | (go_at_call 18
       refine hC.out.mono ?_
       rintro e w1 ⟨rfl, hc⟩
       have h1 := Lib.hid (hA.out.next hc)
       clear hc
       have f0 := h1.out.ab.fz 33
       have c0 := h1.out.ab.c33)
    | (refine wpList_load_mid rfl 38 _ rfl (w.heap.size + 2) 0 rfl (encA ⟨0, kZ, N, false, ⟨#[]⟩⟩) _ (range_blk (h1.out.putN N).ab.ou) Try.underlying38 rfl (by rw [l36.out]; exact hi36.out) ?_)
    | (refine wpList_store_row rfl 38 _ _ rfl (w.heap.size + 1) (encA ⟨0, kZ, N, false, ⟨#[]⟩⟩).toArray rfl rfl 38 _ (h1.out.putN N).ab.rs (by rw [a36.out]; exact hi36.out) (by simp only [a36.out]) (oneA.out _) ?_))
  refine bodyPost_ret (results_cell_row rfl _ _ (w.heap.size + 1) 38 _ (0, 0) _ rfl ((h1.out.putN N).res _) Try.underlying38 rfl (by rw [a36.out]; exact hi36.out)) rfl ?_
  refine ⟨by rw [hq.out ()], ?_⟩
  rw [hq.out ()]
  exact hT.out.still ((h1.out.putN N).fin _)
end Go.Proofs.Ytakcnkmlglkkpaa

namespace Go.Proofs.Ytakcnkmlglkkpaa
open Go.RowKit
set_option linter.unusedSimpArgs false
set_option linter.unusedVariables false
open Classical

set_option maxRecDepth 100000 in
set_option maxHeartbeats 4000000 in
theorem asked_k8 (w : World) {B g : Nat} {A : Option Addr} {L : Lists} (h : TblL w B g A L) (hok : okLs L) (hm : L.length < 100000) (s : ByteArray) (k : RKey) (a : Bool) (u v : Nat) :
    Calls Try.prog 14 #[.pointer (some ⟨g, 0, none⟩), .agg (encS ⟨8, s, k, a, u, v⟩).toArray] w (AskP w B g A L ⟨8, s, k, a, u, v⟩) := by
  have hz := zeroAn
  have l32 : Hid (∀ k : RKey, (encKy k).length = 32) := Lib.hid encKy_length
  have a32 : Hid (∀ k : RKey, (encKy k).toArray.size = 32) := Lib.hid fun k => by simp [encKy_length]
  have hi32 : Hid ((Try.prog.info? 35).map (·.size) = some 32) := Lib.hid (by kernel_rfl)
  have l36 : Hid (∀ x : AnsT, (encA x).length = 36) := Lib.hid encA_length
  have a36 : Hid (∀ x : AnsT, (encA x).toArray.size = 36) := Lib.hid fun k => by simp [encA_length]
  have hi36 : Hid ((Try.prog.info? 38).map (·.size) = some 36) := Lib.hid (by kernel_rfl)
  have oneA := Lib.hid encA_all
  have oneK := Lib.hid encKy_all
  have hT := Lib.hid h
  have hS := Lib.hid (okLs_present hok)
  have hO := Lib.hid hok
  have hL := Lib.hid hm
  obtain ⟨wa, hwa⟩ : ∃ wa, w.alloc (.cells (encS ⟨8, s, k, a, u, v⟩).toArray 41) = wa := ⟨_, rfl⟩
  obtain ⟨wb, hwb⟩ : ∃ wb, wa.alloc (.cells (encA zA).toArray 38) = wb := ⟨_, rfl⟩
  obtain ⟨w0, hw0⟩ : ∃ w0, wb.alloc (.cells (encA zA).toArray 38) = w0 := ⟨_, rfl⟩
  have sa : wa.heap.size = w.heap.size + 1 := by rw [← hwa]; simp
  have sb : wb.heap.size = w.heap.size + 2 := by rw [← hwb]; simp [sa]
  have hA : Hid (AS w w0 ⟨8, s, k, a, u, v⟩ zA) := Lib.hid (by rw [← hw0, ← hwb, ← hwa]; exact AS.new w _)
  have hT0 := Lib.hid (h.below hA.out.lo)
  have ck : w0.cell? ⟨w.heap.size, 0, none⟩ = some (.int .i64 8) := hA.out.ab.kind
  clear h hok hm
  have cv : w0.cell? ⟨w.heap.size, 35, none⟩ = some (.int .u64 (u : Int)) := hA.out.ab.v
  obtain ⟨l, E, hq, hl1, hl2, hC⟩ : ∃ (l : List RootT) (E : Nat), Hid (∀ _ : Unit, stepQ L ⟨8, s, k, a, u, v⟩ = (⟨E, kZ, 0, false, listS l⟩, L)) ∧ l.length ≤ 200 ∧ (∀ r ∈ l, Name r.1) ∧ Hid (Calls Try.prog 19 #[.pointer (some ⟨g, 0, none⟩), .int .u64 (u : Int)] w0 fun e w' => ∃ A1 c1, e = .returned (.tuple #[.slice A1 l.length c1, .int .i64 (E : Int)]) ∧ Own w' w0.heap.size 61 33 A1 l.length c1 (rowsR l) ∧ Below w0.heap.size w0 w') := by
    cases hu : L[u]? with
    | some l =>
      have hl := hO.out.2 l (List.mem_of_getElem? hu)
      refine ⟨l, 0, Lib.hid fun _ => by simp [stepQ, hu], by have := hl.2; omega, hl.1.2, Lib.hid ((atL_any hT0.out u).mono ?_)⟩
      rintro e w1 ⟨h1 | h1, h3⟩
      · obtain ⟨l', A1, c1, h4, h5, h6⟩ := h1
        rw [hu] at h4
        cases h4
        exact ⟨A1, c1, h5, h6, h3⟩
      · have := (List.getElem?_eq_some_iff.1 hu).1
        omega
    | none =>
      refine ⟨[], 133, Lib.hid fun _ => by simp [stepQ, hu]; rfl, by simp, by simp, Lib.hid ((atL_any hT0.out u).mono ?_)⟩
      rintro e w1 ⟨h1 | h1, h3⟩
      · obtain ⟨l', A1, c1, h4, h5, h6⟩ := h1
        rw [hu] at h4
        cases h4
      · exact ⟨none, 0, h1.2, Own.nil _ _ _ _, h3⟩
  have htot := totS_named hl2
  obtain ⟨n, hn⟩ : ∃ n, Hid (∀ _ : Unit, l.length = n) := ⟨_, Lib.hid fun _ => rfl⟩
  obtain ⟨tx, htx⟩ : ∃ tx, Hid (∀ _ : Unit, listS l = tx) := ⟨_, Lib.hid fun _ => rfl⟩
  rw [hn.out ()] at hC hl1 htot
  rw [htx.out ()] at hq
  have hlist : Hid (∀ W A1 c1, Own W w0.heap.size 61 33 A1 n c1 (rowsR l) → Calls Try.prog 16 #[.slice A1 n c1] W fun e w' => e = .returned (.string tx) ∧ Below W.heap.size W w') := Lib.hid fun W A1 c1 ho => by
    rw [← htx.out ()]
    exact listed_txt W l A1 n c1 W.heap.size (hn.out ()) (by omega) (RowR.of_own (by rw [hn.out ()]; exact ho)) (Nat.le_refl _) (by omega)
  have hsp : Hid (∀ W A1 c1, Own W w0.heap.size 61 33 A1 n c1 (rowsR l) → w0.heap.size ≤ W.heap.size → Calls Try.prog 33 #[.slice A1 n c1] W fun e w' => (∃ v, e = .returned v) ∧ Gro (fun j => blockOf A1 = some j) W w') := Lib.hid fun W A1 c1 ho hle => spoilt_any W _ A1 n c1 _ ho (by have := Shp.rows l; rwa [hn.out ()] at this) (by omega) hle
  clear hl1 hl2 htot
  go_enter Try.func14, Try.ntmps14
  go_wp2_with (first
    | (go_at_call 19
       refine hC.out.mono ?_
       rintro e w1 ⟨A1, c1, rfl, ho, hc⟩
       have h1 := Lib.hid (hA.out.next hc)
       have ho1 := Lib.hid ho
       have hs1 := Lib.hid hc.size
       clear ho hc)
    | (go_at_call 16
       refine (hlist.out _ _ _ ho1.out).mono ?_
       rintro e w2 ⟨rfl, hc⟩
       have h2 := Lib.hid (h1.out.next hc)
       have hs2 := Lib.hid (Nat.le_trans hs1.out hc.size)
       have ho2 := Lib.hid (ho1.out.below hc fun j hj => (ho1.out.lt j hj).2)
       clear hc
       have f1 := h2.out.ab.fz 35
       have cc1 := h2.out.ab.c35
       have f2 := (h2.out.putL tx).ab.fz 0
       have cc2 := (h2.out.putL tx).ab.c0)
    | (go_at_call 33
       refine (hsp.out _ _ _ ((ho2.out.setFar (p := ⟨w.heap.size + 2, 35, none⟩) (by have := hA.out.le; show w.heap.size + 2 < w0.heap.size; omega) _).setFar (p := ⟨w.heap.size + 2, 0, none⟩) (by have := hA.out.le; show w.heap.size + 2 < w0.heap.size; omega) _) (by simpa using hs2.out)).mono ?_
       rintro e w3 ⟨⟨v9, rfl⟩, hg⟩
       have h3 := Lib.hid (((h2.out.putL tx).putE E).gro hg fun j hj => by have := hA.out.le; have := (ho1.out.lt j hj).1; omega)
       clear hg)
    | (refine wpList_load_mid rfl 38 _ rfl (w.heap.size + 2) 0 rfl (encA ⟨E, kZ, 0, false, tx⟩) _ (range_blk h3.out.ab.ou) Try.underlying38 rfl (by rw [l36.out]; exact hi36.out) ?_)
    | (refine wpList_store_row rfl 38 _ _ rfl (w.heap.size + 1) (encA ⟨E, kZ, 0, false, tx⟩).toArray rfl rfl 38 _ h3.out.ab.rs (by rw [a36.out]; exact hi36.out) (by simp only [a36.out]) (oneA.out _) ?_))
  refine bodyPost_ret (results_cell_row rfl _ _ (w.heap.size + 1) 38 _ (0, 0) _ rfl (h3.out.res _) Try.underlying38 rfl (by rw [a36.out]; exact hi36.out)) rfl ?_
  refine ⟨by rw [hq.out ()], ?_⟩
  rw [hq.out ()]
  exact hT.out.still (h3.out.fin _)
end Go.Proofs.Ytakcnkmlglkkpaa

namespace Go.Proofs.Ytakcnkmlglkkpaa
open Go.RowKit
set_option linter.unusedSimpArgs false
set_option linter.unusedVariables false
open Classical

set_option maxRecDepth 100000 in
set_option maxHeartbeats 4000000 in
theorem asked_k9 (w : World) {B g : Nat} {A : Option Addr} {L : Lists} (h : TblL w B g A L) (hok : okLs L) (hm : L.length < 100000) (s : ByteArray) (k : RKey) (a : Bool) (u v : Nat) :
    Calls Try.prog 14 #[.pointer (some ⟨g, 0, none⟩), .agg (encS ⟨9, s, k, a, u, v⟩).toArray] w (AskP w B g A L ⟨9, s, k, a, u, v⟩) := by
  have hz := zeroAn
  have l32 : Hid (∀ k : RKey, (encKy k).length = 32) := Lib.hid encKy_length
  have a32 : Hid (∀ k : RKey, (encKy k).toArray.size = 32) := Lib.hid fun k => by simp [encKy_length]
  have hi32 : Hid ((Try.prog.info? 35).map (·.size) = some 32) := Lib.hid (by kernel_rfl)
  have l36 : Hid (∀ x : AnsT, (encA x).length = 36) := Lib.hid encA_length
  have a36 : Hid (∀ x : AnsT, (encA x).toArray.size = 36) := Lib.hid fun k => by simp [encA_length]
  have hi36 : Hid ((Try.prog.info? 38).map (·.size) = some 36) := Lib.hid (by kernel_rfl)
  have oneA := Lib.hid encA_all
  have oneK := Lib.hid encKy_all
  have hT := Lib.hid h
  have hS := Lib.hid (okLs_present hok)
  have hO := Lib.hid hok
  have hL := Lib.hid hm
  obtain ⟨wa, hwa⟩ : ∃ wa, w.alloc (.cells (encS ⟨9, s, k, a, u, v⟩).toArray 41) = wa := ⟨_, rfl⟩
  obtain ⟨wb, hwb⟩ : ∃ wb, wa.alloc (.cells (encA zA).toArray 38) = wb := ⟨_, rfl⟩
  obtain ⟨w0, hw0⟩ : ∃ w0, wb.alloc (.cells (encA zA).toArray 38) = w0 := ⟨_, rfl⟩
  have sa : wa.heap.size = w.heap.size + 1 := by rw [← hwa]; simp
  have sb : wb.heap.size = w.heap.size + 2 := by rw [← hwb]; simp [sa]
  have hA : Hid (AS w w0 ⟨9, s, k, a, u, v⟩ zA) := Lib.hid (by rw [← hw0, ← hwb, ← hwa]; exact AS.new w _)
  have hT0 := Lib.hid (h.below hA.out.lo)
  have ck : w0.cell? ⟨w.heap.size, 0, none⟩ = some (.int .i64 9) := hA.out.ab.kind
  clear h hok hm
  have cv : w0.cell? ⟨w.heap.size, 35, none⟩ = some (.int .u64 (u : Int)) := hA.out.ab.v
  have cw : w0.cell? ⟨w.heap.size, 36, none⟩ = some (.int .u64 (v : Int)) := hA.out.ab.w
  obtain ⟨l, E, hq, hl1, hl2, hC⟩ : ∃ (l : List TurnT) (E : Nat), Hid (∀ _ : Unit, stepQ L ⟨9, s, k, a, u, v⟩ = (⟨E, kZ, 0, false, turnsS l⟩, L)) ∧ l.length ≤ 200 ∧ (∀ r ∈ l, Name r.name) ∧ Hid (Calls Try.prog 22 #[.pointer (some ⟨g, 0, none⟩), .int .u64 (u : Int), .int .u64 (v : Int)] w0 fun e w' => ∃ A1 c1, e = .returned (.tuple #[.slice A1 l.length c1, .int .i64 (E : Int)]) ∧ Own w' w0.heap.size 55 67 A1 l.length c1 (rowsT l) ∧ Below w0.heap.size w0 w') := by
    have hn : (L.length ≤ u ∨ L.length ≤ v) → ∃ (l : List TurnT) (E : Nat), Hid (∀ _ : Unit, stepQ L ⟨9, s, k, a, u, v⟩ = (⟨E, kZ, 0, false, turnsS l⟩, L)) ∧ l.length ≤ 200 ∧ (∀ r ∈ l, Name r.name) ∧ Hid (Calls Try.prog 22 #[.pointer (some ⟨g, 0, none⟩), .int .u64 (u : Int), .int .u64 (v : Int)] w0 fun e w' => ∃ A1 c1, e = .returned (.tuple #[.slice A1 l.length c1, .int .i64 (E : Int)]) ∧ Own w' w0.heap.size 55 67 A1 l.length c1 (rowsT l) ∧ Below w0.heap.size w0 w') := fun hno => by
      have hst : stepQ L ⟨9, s, k, a, u, v⟩ = (⟨133, kZ, 0, false, turnsS []⟩, L) := by
        have h5 : L[u]? = none ∨ L[v]? = none := hno.imp (fun h => List.getElem?_eq_none h) (fun h => List.getElem?_eq_none h)
        unfold stepQ
        rcases h5 with h5 | h5
        · simp [h5]; rfl
        · simp only [h5]
          cases L[u]? <;> rfl
      refine ⟨[], 133, Lib.hid fun _ => hst, by simp, by simp, Lib.hid ((turns_any w0 hT0.out u v).mono ?_)⟩
      rintro e w1 ⟨h1 | h1, h3⟩
      · obtain ⟨a', b', A1, c1, h4, h5, h6⟩ := h1
        have := (List.getElem?_eq_some_iff.1 h4).1
        have := (List.getElem?_eq_some_iff.1 h5).1
        omega
      · exact ⟨none, 0, h1.2, Own.nil _ _ _ _, h3⟩
    cases hu : L[u]? with
    | none => exact hn (.inl (List.getElem?_eq_none_iff.1 hu))
    | some l1 =>
      cases hv : L[v]? with
      | none => exact hn (.inr (List.getElem?_eq_none_iff.1 hv))
      | some l2 =>
        have p1 := hO.out.2 l1 (List.mem_of_getElem? hu)
        have p2 := hO.out.2 l2 (List.mem_of_getElem? hv)
        have p3 := mergeQ_len (l1.length + l2.length) l1 l2 (Nat.le_refl _)
        refine ⟨mergeQ l1 l2, 0, Lib.hid fun _ => by simp [stepQ, hu, hv], by have := p1.2; have := p2.2; omega, merge_named _ _ _ (Nat.le_refl _) p1.1.2 p2.1.2, Lib.hid ((turns_any w0 hT0.out u v).mono ?_)⟩
        rintro e w1 ⟨h1 | h1, h3⟩
        · obtain ⟨a', b', A1, c1, h4, h5, h6, h7⟩ := h1
          rw [hu] at h4
          rw [hv] at h5
          cases h4
          cases h5
          exact ⟨A1, c1, h6, h7, h3⟩
        · have := (List.getElem?_eq_some_iff.1 hu).1
          have := (List.getElem?_eq_some_iff.1 hv).1
          omega
  have htot := totT_named hl2
  obtain ⟨n, hn⟩ : ∃ n, Hid (∀ _ : Unit, l.length = n) := ⟨_, Lib.hid fun _ => rfl⟩
  obtain ⟨tx, htx⟩ : ∃ tx, Hid (∀ _ : Unit, turnsS l = tx) := ⟨_, Lib.hid fun _ => rfl⟩
  rw [hn.out ()] at hC hl1 htot
  rw [htx.out ()] at hq
  have hlist : Hid (∀ W A1 c1, Own W w0.heap.size 55 67 A1 n c1 (rowsT l) → Calls Try.prog 34 #[.slice A1 n c1] W fun e w' => e = .returned (.string tx) ∧ Below W.heap.size W w') := Lib.hid fun W A1 c1 ho => by
    rw [← htx.out ()]
    exact turns_txt W l A1 n c1 (hn.out ()) (by omega) (RowT.of_own (by rw [hn.out ()]; exact ho)) (by omega)
  have hsp : Hid (∀ W A1 c1, Own W w0.heap.size 55 67 A1 n c1 (rowsT l) → w0.heap.size ≤ W.heap.size → Calls Try.prog 35 #[.slice A1 n c1] W fun e w' => (∃ v, e = .returned v) ∧ Gro (fun j => blockOf A1 = some j) W w') := Lib.hid fun W A1 c1 ho hle => spoiltT_any W _ A1 n c1 _ ho (by omega) hle
  clear hl1 hl2 htot
  go_enter Try.func14, Try.ntmps14
  go_wp2_with (first
    | (go_at_call 22
       refine hC.out.mono ?_
       rintro e w1 ⟨A1, c1, rfl, ho, hc⟩
       have h1 := Lib.hid (hA.out.next hc)
       have ho1 := Lib.hid ho
       have hs1 := Lib.hid hc.size
       clear ho hc)
    | (go_at_call 34
       refine (hlist.out _ _ _ ho1.out).mono ?_
       rintro e w2 ⟨rfl, hc⟩
       have h2 := Lib.hid (h1.out.next hc)
       have hs2 := Lib.hid (Nat.le_trans hs1.out hc.size)
       have ho2 := Lib.hid (ho1.out.below hc fun j hj => (ho1.out.lt j hj).2)
       clear hc
       have f1 := h2.out.ab.fz 35
       have cc1 := h2.out.ab.c35
       have f2 := (h2.out.putL tx).ab.fz 0
       have cc2 := (h2.out.putL tx).ab.c0)
    | (go_at_call 35
       refine (hsp.out _ _ _ ((ho2.out.setFar (p := ⟨w.heap.size + 2, 35, none⟩) (by have := hA.out.le; show w.heap.size + 2 < w0.heap.size; omega) _).setFar (p := ⟨w.heap.size + 2, 0, none⟩) (by have := hA.out.le; show w.heap.size + 2 < w0.heap.size; omega) _) (by simpa using hs2.out)).mono ?_
       rintro e w3 ⟨⟨v9, rfl⟩, hg⟩
       have h3 := Lib.hid (((h2.out.putL tx).putE E).gro hg fun j hj => by have := hA.out.le; have := (ho1.out.lt j hj).1; omega)
       clear hg)
    | (refine wpList_load_mid rfl 38 _ rfl (w.heap.size + 2) 0 rfl (encA ⟨E, kZ, 0, false, tx⟩) _ (range_blk h3.out.ab.ou) Try.underlying38 rfl (by rw [l36.out]; exact hi36.out) ?_)
    | (refine wpList_store_row rfl 38 _ _ rfl (w.heap.size + 1) (encA ⟨E, kZ, 0, false, tx⟩).toArray rfl rfl 38 _ h3.out.ab.rs (by rw [a36.out]; exact hi36.out) (by simp only [a36.out]) (oneA.out _) ?_))
  refine bodyPost_ret (results_cell_row rfl _ _ (w.heap.size + 1) 38 _ (0, 0) _ rfl (h3.out.res _) Try.underlying38 rfl (by rw [a36.out]; exact hi36.out)) rfl ?_
  refine ⟨by rw [hq.out ()], ?_⟩
  rw [hq.out ()]
  exact hT.out.still (h3.out.fin _)
end Go.Proofs.Ytakcnkmlglkkpaa

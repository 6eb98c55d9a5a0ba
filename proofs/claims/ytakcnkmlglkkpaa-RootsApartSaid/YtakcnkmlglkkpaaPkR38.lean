/- wanted, kind by kind. (Printed by tools/genask.py.) wanted, kind by kind. (Printed by tools/genask.py.) wanted, kind by kind. (Printed by tools/genask.py.) wanted, kind by kind. (Printed by tools/genask.py.) -/
import Derived.Test.YtakcnkmlglkkpaaPkR33

namespace Go.Proofs.Ytakcnkmlglkkpaa
open Go.RowKit
set_option linter.unusedSimpArgs false
set_option linter.unusedVariables false
open Classical

set_option maxRecDepth 100000 in
set_option maxHeartbeats 4000000 in
theorem wanted_k5 (w : World) {B g : Nat} {A : Option Addr} {L : Lists} (h : DocL w B g A L) (hok : okLs L) (hm : L.length < 100000) (s : ByteArray) (k : RKey) (a : Bool) (u v : Nat) :
    Calls Try.prog 15 #[.pointer (some ⟨g, 0, none⟩), .agg (encS ⟨5, s, k, a, u, v⟩).toArray] w (WantP w B g A L ⟨5, s, k, a, u, v⟩) := by
  have hz := zeroAn
  have l32 : Hid (∀ k : RKey, (encKy k).length = 32) := Lib.hid encKy_length
  have a32 : Hid (∀ k : RKey, (encKy k).toArray.size = 32) := Lib.hid fun k => by simp [encKy_length]
  have hi32 : Hid ((Try.prog.info? 35).map (·.size) = some 32) := Lib.hid (by kernel_rfl)
  have l36 : Hid (∀ x : AnsT, (encA x).length = 36) := Lib.hid encA_length
  have a36 : Hid (∀ x : AnsT, (encA x).toArray.size = 36) := Lib.hid fun k => by simp [encA_length]
  have hi36 : Hid ((Try.prog.info? 38).map (·.size) = some 36) := Lib.hid (by kernel_rfl)
  have oneA := Lib.hid encA_all
  have oneK := Lib.hid encKy_all
  have hT := Lib.hid h
  have hS := Lib.hid (okLs_present hok)
  have hO := Lib.hid hok
  have hL := Lib.hid hm
  obtain ⟨wa, hwa⟩ : ∃ wa, w.alloc (.cells (encS ⟨5, s, k, a, u, v⟩).toArray 41) = wa := ⟨_, rfl⟩
  obtain ⟨wb, hwb⟩ : ∃ wb, wa.alloc (.cells (encA zA).toArray 38) = wb := ⟨_, rfl⟩
  obtain ⟨w0, hw0⟩ : ∃ w0, wb.alloc (.cells (encA zA).toArray 38) = w0 := ⟨_, rfl⟩
  have sa : wa.heap.size = w.heap.size + 1 := by rw [← hwa]; simp
  have sb : wb.heap.size = w.heap.size + 2 := by rw [← hwb]; simp [sa]
  have hA : Hid (AS w w0 ⟨5, s, k, a, u, v⟩ zA) := Lib.hid (by rw [← hw0, ← hwb, ← hwa]; exact AS.new w _)
  have hT0 := Lib.hid (h.below hA.out.lo)
  have ck : w0.cell? ⟨w.heap.size, 0, none⟩ = some (.int .i64 5) := hA.out.ab.kind
  clear h hok hm
  have hC : Hid (Calls Try.prog 40 #[.pointer (some ⟨g, 0, none⟩)] w0 fun e w' => (∃ A' c', e = .returned (.slice A' (present L).length c')) ∧ Below w0.heap.size w0 w') := Lib.hid (by
    obtain ⟨c, ps, hD⟩ := hT0.out
    refine (dall_any w0 hD).mono ?_
    rintro e w1 ⟨⟨A1, c1, h1, h2⟩, h3⟩
    exact ⟨⟨A1, c1, h1⟩, h3⟩)
  have hq : Hid (∀ _ : Unit, stepQ L ⟨5, s, k, a, u, v⟩ = (⟨0, kZ, (present L).length, false, ⟨#[]⟩⟩, L)) := Lib.hid fun _ => rfl
  have h64 := hS.out.2
  obtain ⟨N, hN⟩ : ∃ N, Hid (∀ _ : Unit, (present L).length = N) := ⟨_, Lib.hid fun _ => rfl⟩
  rw [hN.out ()] at hq hC h64
  have wN : IntKind.u64.wrap (N : Int) = (N : Int) := by rw [IntKind.wrap_u64]; omega
  go_enter Try.func15, Try.ntmps15
  go_wp2_with (first
    | (go_at_call 40
       refine hC.out.mono ?_
       rintro e w1 ⟨⟨A1, c1, rfl⟩, hc⟩
       have h1 := Lib.hid (hA.out.next hc)
       clear hc
       have f0 := h1.out.ab.fz 33
       have c0 := h1.out.ab.c33)
    | (refine wpList_load_mid rfl 38 _ rfl (w.heap.size + 2) 0 rfl (encA ⟨0, kZ, N, false, ⟨#[]⟩⟩) _ (range_blk (h1.out.putN N).ab.ou) Try.underlying38 rfl (by rw [l36.out]; exact hi36.out) ?_)
    | (refine wpList_store_row rfl 38 _ _ rfl (w.heap.size + 1) (encA ⟨0, kZ, N, false, ⟨#[]⟩⟩).toArray rfl rfl 38 _ (h1.out.putN N).ab.rs (by rw [a36.out]; exact hi36.out) (by simp only [a36.out]) (oneA.out _) ?_))
  refine bodyPost_ret (results_cell_row rfl _ _ (w.heap.size + 1) 38 _ (0, 0) _ rfl ((h1.out.putN N).res _) Try.underlying38 rfl (by rw [a36.out]; exact hi36.out)) rfl ?_
  refine ⟨by rw [hq.out ()], ?_⟩
  rw [hq.out ()]
  exact hT.out.still ((h1.out.putN N).fin _)
end Go.Proofs.Ytakcnkmlglkkpaa

namespace Go.Proofs.Ytakcnkmlglkkpaa
open Go.RowKit
set_option linter.unusedSimpArgs false
set_option linter.unusedVariables false
open Classical

set_option maxRecDepth 100000 in
set_option maxHeartbeats 4000000 in
theorem wanted_k6 (w : World) {B g : Nat} {A : Option Addr} {L : Lists} (h : DocL w B g A L) (hok : okLs L) (hm : L.length < 100000) (s : ByteArray) (k : RKey) (a : Bool) (u v : Nat) :
    Calls Try.prog 15 #[.pointer (some ⟨g, 0, none⟩), .agg (encS ⟨6, s, k, a, u, v⟩).toArray] w (WantP w B g A L ⟨6, s, k, a, u, v⟩) := by
  have hz := zeroAn
  have l32 : Hid (∀ k : RKey, (encKy k).length = 32) := Lib.hid encKy_length
  have a32 : Hid (∀ k : RKey, (encKy k).toArray.size = 32) := Lib.hid fun k => by simp [encKy_length]
  have hi32 : Hid ((Try.prog.info? 35).map (·.size) = some 32) := Lib.hid (by kernel_rfl)
  have l36 : Hid (∀ x : AnsT, (encA x).length = 36) := Lib.hid encA_length
  have a36 : Hid (∀ x : AnsT, (encA x).toArray.size = 36) := Lib.hid fun k => by simp [encA_length]
  have hi36 : Hid ((Try.prog.info? 38).map (·.size) = some 36) := Lib.hid (by kernel_rfl)
  have oneA := Lib.hid encA_all
  have oneK := Lib.hid encKy_all
  have hT := Lib.hid h
  have hS := Lib.hid (okLs_present hok)
  have hO := Lib.hid hok
  have hL := Lib.hid hm
  obtain ⟨wa, hwa⟩ : ∃ wa, w.alloc (.cells (encS ⟨6, s, k, a, u, v⟩).toArray 41) = wa := ⟨_, rfl⟩
  obtain ⟨wb, hwb⟩ : ∃ wb, wa.alloc (.cells (encA zA).toArray 38) = wb := ⟨_, rfl⟩
  obtain ⟨w0, hw0⟩ : ∃ w0, wb.alloc (.cells (encA zA).toArray 38) = w0 := ⟨_, rfl⟩
  have sa : wa.heap.size = w.heap.size + 1 := by rw [← hwa]; simp
  have sb : wb.heap.size = w.heap.size + 2 := by rw [← hwb]; simp [sa]
  have hA : Hid (AS w w0 ⟨6, s, k, a, u, v⟩ zA) := Lib.hid (by rw [← hw0, ← hwb, ← hwa]; exact AS.new w _)
  have hT0 := Lib.hid (h.below hA.out.lo)
  have ck : w0.cell? ⟨w.heap.size, 0, none⟩ = some (.int .i64 6) := hA.out.ab.kind
  clear h hok hm
  obtain ⟨l, hq, hl1, hl2, hC⟩ : ∃ (l : List RootT), Hid (∀ _ : Unit, stepQ L ⟨6, s, k, a, u, v⟩ = (⟨0, kZ, 0, false, listS l⟩, L)) ∧ l.length ≤ 200 ∧ (∀ r ∈ l, Name r.1) ∧ Hid (Calls Try.prog 40 #[.pointer (some ⟨g, 0, none⟩)] w0 fun e w' => ∃ A1 c1, e = .returned (.slice A1 l.length c1) ∧ Own w' w0.heap.size 61 33 A1 l.length c1 (rowsR l) ∧ Below w0.heap.size w0 w') := by
    obtain ⟨c, ps, hD⟩ := hT0.out
    refine ⟨present L, Lib.hid fun _ => rfl, by have := hS.out.2; omega, hS.out.1.2, Lib.hid ((dall_any w0 hD).mono ?_)⟩
    rintro e w1 ⟨⟨A1, c1, h1, h2⟩, h3⟩
    exact ⟨A1, c1, h1, h2, h3⟩
  have htot := totS_named hl2
  obtain ⟨n, hn⟩ : ∃ n, Hid (∀ _ : Unit, l.length = n) := ⟨_, Lib.hid fun _ => rfl⟩
  obtain ⟨tx, htx⟩ : ∃ tx, Hid (∀ _ : Unit, listS l = tx) := ⟨_, Lib.hid fun _ => rfl⟩
  rw [hn.out ()] at hC hl1 htot
  rw [htx.out ()] at hq
  have hlist : Hid (∀ W A1 c1, Own W w0.heap.size 61 33 A1 n c1 (rowsR l) → Calls Try.prog 16 #[.slice A1 n c1] W fun e w' => e = .returned (.string tx) ∧ Below W.heap.size W w') := Lib.hid fun W A1 c1 ho => by
    rw [← htx.out ()]
    exact listed_txt W l A1 n c1 W.heap.size (hn.out ()) (by omega) (RowR.of_own (by rw [hn.out ()]; exact ho)) (Nat.le_refl _) (by omega)
  clear hl1 hl2 htot
  go_enter Try.func15, Try.ntmps15
  go_wp2_with (first
    | (go_at_call 40
       refine hC.out.mono ?_
       rintro e w1 ⟨A1, c1, rfl, ho, hc⟩
       have h1 := Lib.hid (hA.out.next hc)
       have ho1 := Lib.hid ho
       have hs1 := Lib.hid hc.size
       clear ho hc)
    | (go_at_call 16
       refine (hlist.out _ _ _ ho1.out).mono ?_
       rintro e w2 ⟨rfl, hc⟩
       have h2 := Lib.hid (h1.out.next hc)
       have hs2 := Lib.hid (Nat.le_trans hs1.out hc.size)
       have ho2 := Lib.hid (ho1.out.below hc fun j hj => (ho1.out.lt j hj).2)
       clear hc
       have f1 := h2.out.ab.fz 35
       have cc1 := h2.out.ab.c35)
    | (refine wpList_load_mid rfl 38 _ rfl (w.heap.size + 2) 0 rfl (encA ⟨0, kZ, 0, false, tx⟩) _ (range_blk (h2.out.putL tx).ab.ou) Try.underlying38 rfl (by rw [l36.out]; exact hi36.out) ?_)
    | (refine wpList_store_row rfl 38 _ _ rfl (w.heap.size + 1) (encA ⟨0, kZ, 0, false, tx⟩).toArray rfl rfl 38 _ (h2.out.putL tx).ab.rs (by rw [a36.out]; exact hi36.out) (by simp only [a36.out]) (oneA.out _) ?_))
  refine bodyPost_ret (results_cell_row rfl _ _ (w.heap.size + 1) 38 _ (0, 0) _ rfl ((h2.out.putL tx).res _) Try.underlying38 rfl (by rw [a36.out]; exact hi36.out)) rfl ?_
  refine ⟨by rw [hq.out ()], ?_⟩
  rw [hq.out ()]
  exact hT.out.still ((h2.out.putL tx).fin _)
end Go.Proofs.Ytakcnkmlglkkpaa

namespace Go.Proofs.Ytakcnkmlglkkpaa
open Go.RowKit
set_option linter.unusedSimpArgs false
set_option linter.unusedVariables false
open Classical

set_option maxRecDepth 100000 in
set_option maxHeartbeats 4000000 in
theorem wanted_k7 (w : World) {B g : Nat} {A : Option Addr} {L : Lists} (h : DocL w B g A L) (hok : okLs L) (hm : L.length < 100000) (s : ByteArray) (k : RKey) (a : Bool) (u v : Nat) :
    Calls Try.prog 15 #[.pointer (some ⟨g, 0, none⟩), .agg (encS ⟨7, s, k, a, u, v⟩).toArray] w (WantP w B g A L ⟨7, s, k, a, u, v⟩) := by
  have hz := zeroAn
  have l32 : Hid (∀ k : RKey, (encKy k).length = 32) := Lib.hid encKy_length
  have a32 : Hid (∀ k : RKey, (encKy k).toArray.size = 32) := Lib.hid fun k => by simp [encKy_length]
  have hi32 : Hid ((Try.prog.info? 35).map (·.size) = some 32) := Lib.hid (by kernel_rfl)
  have l36 : Hid (∀ x : AnsT, (encA x).length = 36) := Lib.hid encA_length
  have a36 : Hid (∀ x : AnsT, (encA x).toArray.size = 36) := Lib.hid fun k => by simp [encA_length]
  have hi36 : Hid ((Try.prog.info? 38).map (·.size) = some 36) := Lib.hid (by kernel_rfl)
  have oneA := Lib.hid encA_all
  have oneK := Lib.hid encKy_all
  have hT := Lib.hid h
  have hS := Lib.hid (okLs_present hok)
  have hO := Lib.hid hok
  have hL := Lib.hid hm
  obtain ⟨wa, hwa⟩ : ∃ wa, w.alloc (.cells (encS ⟨7, s, k, a, u, v⟩).toArray 41) = wa := ⟨_, rfl⟩
  obtain ⟨wb, hwb⟩ : ∃ wb, wa.alloc (.cells (encA zA).toArray 38) = wb := ⟨_, rfl⟩
  obtain ⟨w0, hw0⟩ : ∃ w0, wb.alloc (.cells (encA zA).toArray 38) = w0 := ⟨_, rfl⟩
  have sa : wa.heap.size = w.heap.size + 1 := by rw [← hwa]; simp
  have sb : wb.heap.size = w.heap.size + 2 := by rw [← hwb]; simp [sa]
  have hA : Hid (AS w w0 ⟨7, s, k, a, u, v⟩ zA) := Lib.hid (by rw [← hw0, ← hwb, ← hwa]; exact AS.new w _)
  have hT0 := Lib.hid (h.below hA.out.lo)
  have ck : w0.cell? ⟨w.heap.size, 0, none⟩ = some (.int .i64 7) := hA.out.ab.kind
  clear h hok hm
  have hC : Hid (Calls Try.prog 41 #[.pointer (some ⟨g, 0, none⟩)] w0 fun e w' => e = .returned (.int .u64 (L.length - 1 : Nat)) ∧ Below w0.heap.size w0 w') := Lib.hid (by
    obtain ⟨c, ps, hD⟩ := hT0.out
    exact dversion_any w0 hD)
  have hq : Hid (∀ _ : Unit, stepQ L ⟨7, s, k, a, u, v⟩ = (⟨0, kZ, L.length - 1, false, ⟨#[]⟩⟩, L)) := Lib.hid fun _ => rfl
  obtain ⟨N, hN⟩ : ∃ N, Hid (∀ _ : Unit, L.length - 1 = N) := ⟨_, Lib.hid fun _ => rfl⟩
  rw [hN.out ()] at hq hC
  go_enter Try.func15, Try.ntmps15
  go_wp2_with (first
    | (go_at_call 41
       refine hC.out.mono ?_
       rintro e w1 ⟨rfl, hc⟩
       have h1 := Lib.hid (hA.out.next hc)
       clear hc
       have f0 := h1.out.ab.fz 33
       have c0 := h1.out.ab.c33)
    | (refine wpList_load_mid rfl 38 _ rfl (w.heap.size + 2) 0 rfl (encA ⟨0, kZ, N, false, ⟨#[]⟩⟩) _ (range_blk (h1.out.putN N).ab.ou) Try.underlying38 rfl (by rw [l36.out]; exact hi36.out) ?_)
    | (refine wpList_store_row rfl 38 _ _ rfl (w.heap.size + 1) (encA ⟨0, kZ, N, false, ⟨#[]⟩⟩).toArray rfl rfl 38 _ (h1.out.putN N).ab.rs (by rw [a36.out]; exact hi36.out) (by simp only [a36.out]) (oneA.out _) ?_))
  refine bodyPost_ret (results_cell_row rfl _ _ (w.heap.size + 1) 38 _ (0, 0) _ rfl ((h1.out.putN N).res _) Try.underlying38 rfl (by rw [a36.out]; exact hi36.out)) rfl ?_
  refine ⟨by rw [hq.out ()], ?_⟩
  rw [hq.out ()]
  exact hT.out.still ((h1.out.putN N).fin _)
end Go.Proofs.Ytakcnkmlglkkpaa

namespace Go.Proofs.Ytakcnkmlglkkpaa
open Go.RowKit
set_option linter.unusedSimpArgs false
set_option linter.unusedVariables false
open Classical

set_option maxRecDepth 100000 in
set_option maxHeartbeats 4000000 in
theorem wanted_k8 (w : World) {B g : Nat} {A : Option Addr} {L : Lists} (h : DocL w B g A L) (hok : okLs L) (hm : L.length < 100000) (s : ByteArray) (k : RKey) (a : Bool) (u v : Nat) :
    Calls Try.prog 15 #[.pointer (some ⟨g, 0, none⟩), .agg (encS ⟨8, s, k, a, u, v⟩).toArray] w (WantP w B g A L ⟨8, s, k, a, u, v⟩) := by
  have hz := zeroAn
  have l32 : Hid (∀ k : RKey, (encKy k).length = 32) := Lib.hid encKy_length
  have a32 : Hid (∀ k : RKey, (encKy k).toArray.size = 32) := Lib.hid fun k => by simp [encKy_length]
  have hi32 : Hid ((Try.prog.info? 35).map (·.size) = some 32) := Lib.hid (by kernel_rfl)
  have l36 : Hid (∀ x : AnsT, (encA x).length = 36) := Lib.hid encA_length
  have a36 : Hid (∀ x : AnsT, (encA x).toArray.size = 36) := Lib.hid fun k => by simp [encA_length]
  have hi36 : Hid ((Try.prog.info? 38).map (·.size) = some 36) := Lib.hid (by kernel_rfl)
  have oneA := Lib.hid encA_all
  have oneK := Lib.hid encKy_all
  have hT := Lib.hid h
  have hS := Lib.hid (okLs_present hok)
  have hO := Lib.hid hok
  have hL := Lib.hid hm
  obtain ⟨wa, hwa⟩ : ∃ wa, w.alloc (.cells (encS ⟨8, s, k, a, u, v⟩).toArray 41) = wa := ⟨_, rfl⟩
  obtain ⟨wb, hwb⟩ : ∃ wb, wa.alloc (.cells (encA zA).toArray 38) = wb := ⟨_, rfl⟩
  obtain ⟨w0, hw0⟩ : ∃ w0, wb.alloc (.cells (encA zA).toArray 38) = w0 := ⟨_, rfl⟩
  have sa : wa.heap.size = w.heap.size + 1 := by rw [← hwa]; simp
  have sb : wb.heap.size = w.heap.size + 2 := by rw [← hwb]; simp [sa]
  have hA : Hid (AS w w0 ⟨8, s, k, a, u, v⟩ zA) := Lib.hid (by rw [← hw0, ← hwb, ← hwa]; exact AS.new w _)
  have hT0 := Lib.hid (h.below hA.out.lo)
  have ck : w0.cell? ⟨w.heap.size, 0, none⟩ = some (.int .i64 8) := hA.out.ab.kind
  clear h hok hm
  have cv : w0.cell? ⟨w.heap.size, 35, none⟩ = some (.int .u64 (u : Int)) := hA.out.ab.v
  obtain ⟨l, E, hq, hl1, hl2, hC⟩ : ∃ (l : List RootT) (E : Nat), Hid (∀ _ : Unit, stepQ L ⟨8, s, k, a, u, v⟩ = (⟨E, kZ, 0, false, listS l⟩, L)) ∧ l.length ≤ 200 ∧ (∀ r ∈ l, Name r.1) ∧ Hid (Calls Try.prog 42 #[.pointer (some ⟨g, 0, none⟩), .int .u64 (u : Int)] w0 fun e w' => ∃ A1 c1, e = .returned (.tuple #[.slice A1 l.length c1, .int .i64 (E : Int)]) ∧ Own w' w0.heap.size 61 33 A1 l.length c1 (rowsR l) ∧ Below w0.heap.size w0 w') := by
    obtain ⟨c, ps, hD⟩ := hT0.out
    cases hu : L[u]? with
    | some l =>
      have hl := hO.out.2 l (List.mem_of_getElem? hu)
      refine ⟨l, 0, Lib.hid fun _ => by simp [stepQ, hu], by have := hl.2; omega, hl.1.2, Lib.hid ((dat_any w0 hD u).mono ?_)⟩
      rintro e w1 ⟨h1 | h1, h3⟩
      · obtain ⟨l', A1, c1, h4, h5, h6⟩ := h1
        rw [hu] at h4
        cases h4
        exact ⟨A1, c1, h5, h6, h3⟩
      · have := (List.getElem?_eq_some_iff.1 hu).1
        omega
    | none =>
      refine ⟨[], 133, Lib.hid fun _ => by simp [stepQ, hu]; rfl, by simp, by simp, Lib.hid ((dat_any w0 hD u).mono ?_)⟩
      rintro e w1 ⟨h1 | h1, h3⟩
      · obtain ⟨l', A1, c1, h4, h5, h6⟩ := h1
        rw [hu] at h4
        cases h4
      · exact ⟨none, 0, h1.2, Own.nil _ _ _ _, h3⟩
  have htot := totS_named hl2
  obtain ⟨n, hn⟩ : ∃ n, Hid (∀ _ : Unit, l.length = n) := ⟨_, Lib.hid fun _ => rfl⟩
  obtain ⟨tx, htx⟩ : ∃ tx, Hid (∀ _ : Unit, listS l = tx) := ⟨_, Lib.hid fun _ => rfl⟩
  rw [hn.out ()] at hC hl1 htot
  rw [htx.out ()] at hq
  have hlist : Hid (∀ W A1 c1, Own W w0.heap.size 61 33 A1 n c1 (rowsR l) → Calls Try.prog 16 #[.slice A1 n c1] W fun e w' => e = .returned (.string tx) ∧ Below W.heap.size W w') := Lib.hid fun W A1 c1 ho => by
    rw [← htx.out ()]
    exact listed_txt W l A1 n c1 W.heap.size (hn.out ()) (by omega) (RowR.of_own (by rw [hn.out ()]; exact ho)) (Nat.le_refl _) (by omega)
  clear hl1 hl2 htot
  go_enter Try.func15, Try.ntmps15
  go_wp2_with (first
    | (go_at_call 42
       refine hC.out.mono ?_
       rintro e w1 ⟨A1, c1, rfl, ho, hc⟩
       have h1 := Lib.hid (hA.out.next hc)
       have ho1 := Lib.hid ho
       have hs1 := Lib.hid hc.size
       clear ho hc)
    | (go_at_call 16
       refine (hlist.out _ _ _ ho1.out).mono ?_
       rintro e w2 ⟨rfl, hc⟩
       have h2 := Lib.hid (h1.out.next hc)
       have hs2 := Lib.hid (Nat.le_trans hs1.out hc.size)
       have ho2 := Lib.hid (ho1.out.below hc fun j hj => (ho1.out.lt j hj).2)
       clear hc
       have f1 := h2.out.ab.fz 35
       have cc1 := h2.out.ab.c35
       have f2 := (h2.out.putL tx).ab.fz 0
       have cc2 := (h2.out.putL tx).ab.c0)
    | (refine wpList_load_mid rfl 38 _ rfl (w.heap.size + 2) 0 rfl (encA ⟨E, kZ, 0, false, tx⟩) _ (range_blk ((h2.out.putL tx).putE E).ab.ou) Try.underlying38 rfl (by rw [l36.out]; exact hi36.out) ?_)
    | (refine wpList_store_row rfl 38 _ _ rfl (w.heap.size + 1) (encA ⟨E, kZ, 0, false, tx⟩).toArray rfl rfl 38 _ ((h2.out.putL tx).putE E).ab.rs (by rw [a36.out]; exact hi36.out) (by simp only [a36.out]) (oneA.out _) ?_))
  refine bodyPost_ret (results_cell_row rfl _ _ (w.heap.size + 1) 38 _ (0, 0) _ rfl (((h2.out.putL tx).putE E).res _) Try.underlying38 rfl (by rw [a36.out]; exact hi36.out)) rfl ?_
  refine ⟨by rw [hq.out ()], ?_⟩
  rw [hq.out ()]
  exact hT.out.still (((h2.out.putL tx).putE E).fin _)
end Go.Proofs.Ytakcnkmlglkkpaa

/- asked, kind by kind. (Printed by tools/genask.py.) asked, kind by kind. (Printed by tools/genask.py.) asked, kind by kind. (Printed by tools/genask.py.) asked, kind by kind. (Printed by tools/genask.py.) asked, kind by kind. (Printed by tools/genask.py.) -/
import Derived.Test.YtakcnkmlglkkpaaPkR33

namespace Go.Proofs.Ytakcnkmlglkkpaa
open Go.RowKit
set_option linter.unusedSimpArgs false
set_option linter.unusedVariables false
open Classical

set_option maxRecDepth 100000 in
set_option maxHeartbeats 4000000 in
theorem asked_k1 (w : World) {B g : Nat} {A : Option Addr} {L : Lists} (h : TblL w B g A L) (hok : okLs L) (hm : L.length < 100000) (s : ByteArray) (k : RKey) (a : Bool) (u v : Nat) :
    Calls Try.prog 14 #[.pointer (some ⟨g, 0, none⟩), .agg (encS ⟨1, s, k, a, u, v⟩).toArray] w (AskP w B g A L ⟨1, s, k, a, u, v⟩) := by
  have hz := zeroAn
  have l32 : Hid (∀ k : RKey, (encKy k).length = 32) := Lib.hid encKy_length
  have a32 : Hid (∀ k : RKey, (encKy k).toArray.size = 32) := Lib.hid fun k => by simp [encKy_length]
  have hi32 : Hid ((Try.prog.info? 35).map (·.size) = some 32) := Lib.hid (by kernel_rfl)
  have l36 : Hid (∀ x : AnsT, (encA x).length = 36) := Lib.hid encA_length
  have a36 : Hid (∀ x : AnsT, (encA x).toArray.size = 36) := Lib.hid fun k => by simp [encA_length]
  have hi36 : Hid ((Try.prog.info? 38).map (·.size) = some 36) := Lib.hid (by kernel_rfl)
  have oneA := Lib.hid encA_all
  have oneK := Lib.hid encKy_all
  have hT := Lib.hid h
  have hS := Lib.hid (okLs_present hok)
  have hO := Lib.hid hok
  have hL := Lib.hid hm
  obtain ⟨wa, hwa⟩ : ∃ wa, w.alloc (.cells (encS ⟨1, s, k, a, u, v⟩).toArray 41) = wa := ⟨_, rfl⟩
  obtain ⟨wb, hwb⟩ : ∃ wb, wa.alloc (.cells (encA zA).toArray 38) = wb := ⟨_, rfl⟩
  obtain ⟨w0, hw0⟩ : ∃ w0, wb.alloc (.cells (encA zA).toArray 38) = w0 := ⟨_, rfl⟩
  have sa : wa.heap.size = w.heap.size + 1 := by rw [← hwa]; simp
  have sb : wb.heap.size = w.heap.size + 2 := by rw [← hwb]; simp [sa]
  have hA : Hid (AS w w0 ⟨1, s, k, a, u, v⟩ zA) := Lib.hid (by rw [← hw0, ← hwb, ← hwa]; exact AS.new w _)
  have hT0 := Lib.hid (h.below hA.out.lo)
  have ck : w0.cell? ⟨w.heap.size, 0, none⟩ = some (.int .i64 1) := hA.out.ab.kind
  clear h hok hm
  have cn : w0.cell? ⟨w.heap.size, 1, none⟩ = some (.string s) := hA.out.ab.name
  have hky := Lib.hid hA.out.ab.key
  have hC : Hid (Calls Try.prog 20 #[.pointer (some ⟨g, 0, none⟩), .string s, .agg (encKy k).toArray] w0 fun e w' => e = .returned (.int .i64 (setQ (present L) s : Nat)) ∧ ChdL w0 B g A (if setQ (present L) s = 0 then L ++ [setL (s, k) (present L)] else L) w') := Lib.hid (set_any hT0.out hL.out s k)
  have hq : Hid (∀ _ : Unit, stepQ L ⟨1, s, k, a, u, v⟩ = (⟨setQ (present L) s, kZ, 0, false, ⟨#[]⟩⟩, (if setQ (present L) s = 0 then L ++ [setL (s, k) (present L)] else L))) := Lib.hid fun _ => rfl
  obtain ⟨N, hN⟩ : ∃ N, Hid (∀ _ : Unit, setQ (present L) s = N) := ⟨_, Lib.hid fun _ => rfl⟩
  obtain ⟨L2, hL2⟩ : ∃ L2, Hid (∀ _ : Unit, (if setQ (present L) s = 0 then L ++ [setL (s, k) (present L)] else L) = L2) := ⟨_, Lib.hid fun _ => rfl⟩
  rw [hL2.out (), hN.out ()] at hq hC
  go_enter Try.func14, Try.ntmps14
  go_wp2_with (first
    | (refine wpList_load_mid rfl 35 _ rfl w.heap.size 2 rfl (encKy k) _ hky.out Try.underlying35 rfl (by rw [l32.out]; exact hi32.out) ?_)
    | (go_at_call 20
       refine hC.out.mono ?_
       rintro e w1 ⟨rfl, hc⟩
       have hc2 := Lib.hid hc
       have hB1 : Hid (AB w.heap.size w1 ⟨1, s, k, a, u, v⟩ zA) := Lib.hid (by obtain ⟨A1, q1, q2, q3⟩ := hc; exact hA.out.chd q2 hT.out.lts.1 hT.out.lts.2)
       clear hc
       have f0 := hB1.out.fz 0
       have c0 := hB1.out.c0)
    | (refine wpList_load_mid rfl 38 _ rfl (w.heap.size + 2) 0 rfl (encA ⟨N, kZ, 0, false, ⟨#[]⟩⟩) _ (range_blk (hB1.out.putE N).ou) Try.underlying38 rfl (by rw [l36.out]; exact hi36.out) ?_)
    | (refine wpList_store_row rfl 38 _ _ rfl (w.heap.size + 1) (encA ⟨N, kZ, 0, false, ⟨#[]⟩⟩).toArray rfl rfl 38 _ (hB1.out.putE N).rs (by rw [a36.out]; exact hi36.out) (by simp only [a36.out]) (oneA.out _) ?_))
  refine bodyPost_ret (results_cell_row rfl _ _ (w.heap.size + 1) 38 _ (0, 0) _ rfl (setRow_heap _ _ _ _ _ _ (hB1.out.putE N).rs) Try.underlying38 rfl (by rw [a36.out]; exact hi36.out)) rfl ?_
  refine ⟨by rw [hq.out ()], ?_⟩
  rw [hq.out ()]
  exact hc2.out.fin hT.out hA.out hB1.out (((Gro.cell _ _ _ _).sub fun j hj => .inl (.inr hj)).trans (Gro.row _ _ _) fun j hj => .inl (.inl hj))
end Go.Proofs.Ytakcnkmlglkkpaa

namespace Go.Proofs.Ytakcnkmlglkkpaa
open Go.RowKit
set_option linter.unusedSimpArgs false
set_option linter.unusedVariables false
open Classical

set_option maxRecDepth 100000 in
set_option maxHeartbeats 4000000 in
theorem asked_k2 (w : World) {B g : Nat} {A : Option Addr} {L : Lists} (h : TblL w B g A L) (hok : okLs L) (hm : L.length < 100000) (s : ByteArray) (k : RKey) (a : Bool) (u v : Nat) :
    Calls Try.prog 14 #[.pointer (some ⟨g, 0, none⟩), .agg (encS ⟨2, s, k, a, u, v⟩).toArray] w (AskP w B g A L ⟨2, s, k, a, u, v⟩) := by
  have hz := zeroAn
  have l32 : Hid (∀ k : RKey, (encKy k).length = 32) := Lib.hid encKy_length
  have a32 : Hid (∀ k : RKey, (encKy k).toArray.size = 32) := Lib.hid fun k => by simp [encKy_length]
  have hi32 : Hid ((Try.prog.info? 35).map (·.size) = some 32) := Lib.hid (by kernel_rfl)
  have l36 : Hid (∀ x : AnsT, (encA x).length = 36) := Lib.hid encA_length
  have a36 : Hid (∀ x : AnsT, (encA x).toArray.size = 36) := Lib.hid fun k => by simp [encA_length]
  have hi36 : Hid ((Try.prog.info? 38).map (·.size) = some 36) := Lib.hid (by kernel_rfl)
  have oneA := Lib.hid encA_all
  have oneK := Lib.hid encKy_all
  have hT := Lib.hid h
  have hS := Lib.hid (okLs_present hok)
  have hO := Lib.hid hok
  have hL := Lib.hid hm
  obtain ⟨wa, hwa⟩ : ∃ wa, w.alloc (.cells (encS ⟨2, s, k, a, u, v⟩).toArray 41) = wa := ⟨_, rfl⟩
  obtain ⟨wb, hwb⟩ : ∃ wb, wa.alloc (.cells (encA zA).toArray 38) = wb := ⟨_, rfl⟩
  obtain ⟨w0, hw0⟩ : ∃ w0, wb.alloc (.cells (encA zA).toArray 38) = w0 := ⟨_, rfl⟩
  have sa : wa.heap.size = w.heap.size + 1 := by rw [← hwa]; simp
  have sb : wb.heap.size = w.heap.size + 2 := by rw [← hwb]; simp [sa]
  have hA : Hid (AS w w0 ⟨2, s, k, a, u, v⟩ zA) := Lib.hid (by rw [← hw0, ← hwb, ← hwa]; exact AS.new w _)
  have hT0 := Lib.hid (h.below hA.out.lo)
  have ck : w0.cell? ⟨w.heap.size, 0, none⟩ = some (.int .i64 2) := hA.out.ab.kind
  clear h hok hm
  have cn : w0.cell? ⟨w.heap.size, 1, none⟩ = some (.string s) := hA.out.ab.name
  have hC : Hid (Calls Try.prog 28 #[.pointer (some ⟨g, 0, none⟩), .string s] w0 fun e w' => e = .returned (.int .i64 (dropQ (present L) s : Nat)) ∧ ChdL w0 B g A (if dropQ (present L) s = 0 then L ++ [dropL s (present L)] else L) w') := Lib.hid (drop_any hT0.out hL.out s)
  have hq : Hid (∀ _ : Unit, stepQ L ⟨2, s, k, a, u, v⟩ = (⟨dropQ (present L) s, kZ, 0, false, ⟨#[]⟩⟩, (if dropQ (present L) s = 0 then L ++ [dropL s (present L)] else L))) := Lib.hid fun _ => rfl
  obtain ⟨N, hN⟩ : ∃ N, Hid (∀ _ : Unit, dropQ (present L) s = N) := ⟨_, Lib.hid fun _ => rfl⟩
  obtain ⟨L2, hL2⟩ : ∃ L2, Hid (∀ _ : Unit, (if dropQ (present L) s = 0 then L ++ [dropL s (present L)] else L) = L2) := ⟨_, Lib.hid fun _ => rfl⟩
  rw [hL2.out (), hN.out ()] at hq hC
  go_enter Try.func14, Try.ntmps14
  go_wp2_with (first
    | (go_at_call 28
       refine hC.out.mono ?_
       rintro e w1 ⟨rfl, hc⟩
       have hc2 := Lib.hid hc
       have hB1 : Hid (AB w.heap.size w1 ⟨2, s, k, a, u, v⟩ zA) := Lib.hid (by obtain ⟨A1, q1, q2, q3⟩ := hc; exact hA.out.chd q2 hT.out.lts.1 hT.out.lts.2)
       clear hc
       have f0 := hB1.out.fz 0
       have c0 := hB1.out.c0)
    | (refine wpList_load_mid rfl 38 _ rfl (w.heap.size + 2) 0 rfl (encA ⟨N, kZ, 0, false, ⟨#[]⟩⟩) _ (range_blk (hB1.out.putE N).ou) Try.underlying38 rfl (by rw [l36.out]; exact hi36.out) ?_)
    | (refine wpList_store_row rfl 38 _ _ rfl (w.heap.size + 1) (encA ⟨N, kZ, 0, false, ⟨#[]⟩⟩).toArray rfl rfl 38 _ (hB1.out.putE N).rs (by rw [a36.out]; exact hi36.out) (by simp only [a36.out]) (oneA.out _) ?_))
  refine bodyPost_ret (results_cell_row rfl _ _ (w.heap.size + 1) 38 _ (0, 0) _ rfl (setRow_heap _ _ _ _ _ _ (hB1.out.putE N).rs) Try.underlying38 rfl (by rw [a36.out]; exact hi36.out)) rfl ?_
  refine ⟨by rw [hq.out ()], ?_⟩
  rw [hq.out ()]
  exact hc2.out.fin hT.out hA.out hB1.out (((Gro.cell _ _ _ _).sub fun j hj => .inl (.inr hj)).trans (Gro.row _ _ _) fun j hj => .inl (.inl hj))
end Go.Proofs.Ytakcnkmlglkkpaa

namespace Go.Proofs.Ytakcnkmlglkkpaa
open Go.RowKit
set_option linter.unusedSimpArgs false
set_option linter.unusedVariables false
open Classical

set_option maxRecDepth 100000 in
set_option maxHeartbeats 4000000 in
theorem asked_k3 (w : World) {B g : Nat} {A : Option Addr} {L : Lists} (h : TblL w B g A L) (hok : okLs L) (hm : L.length < 100000) (s : ByteArray) (k : RKey) (a : Bool) (u v : Nat) :
    Calls Try.prog 14 #[.pointer (some ⟨g, 0, none⟩), .agg (encS ⟨3, s, k, a, u, v⟩).toArray] w (AskP w B g A L ⟨3, s, k, a, u, v⟩) := by
  have hz := zeroAn
  have l32 : Hid (∀ k : RKey, (encKy k).length = 32) := Lib.hid encKy_length
  have a32 : Hid (∀ k : RKey, (encKy k).toArray.size = 32) := Lib.hid fun k => by simp [encKy_length]
  have hi32 : Hid ((Try.prog.info? 35).map (·.size) = some 32) := Lib.hid (by kernel_rfl)
  have l36 : Hid (∀ x : AnsT, (encA x).length = 36) := Lib.hid encA_length
  have a36 : Hid (∀ x : AnsT, (encA x).toArray.size = 36) := Lib.hid fun k => by simp [encA_length]
  have hi36 : Hid ((Try.prog.info? 38).map (·.size) = some 36) := Lib.hid (by kernel_rfl)
  have oneA := Lib.hid encA_all
  have oneK := Lib.hid encKy_all
  have hT := Lib.hid h
  have hS := Lib.hid (okLs_present hok)
  have hO := Lib.hid hok
  have hL := Lib.hid hm
  obtain ⟨wa, hwa⟩ : ∃ wa, w.alloc (.cells (encS ⟨3, s, k, a, u, v⟩).toArray 41) = wa := ⟨_, rfl⟩
  obtain ⟨wb, hwb⟩ : ∃ wb, wa.alloc (.cells (encA zA).toArray 38) = wb := ⟨_, rfl⟩
  obtain ⟨w0, hw0⟩ : ∃ w0, wb.alloc (.cells (encA zA).toArray 38) = w0 := ⟨_, rfl⟩
  have sa : wa.heap.size = w.heap.size + 1 := by rw [← hwa]; simp
  have sb : wb.heap.size = w.heap.size + 2 := by rw [← hwb]; simp [sa]
  have hA : Hid (AS w w0 ⟨3, s, k, a, u, v⟩ zA) := Lib.hid (by rw [← hw0, ← hwb, ← hwa]; exact AS.new w _)
  have hT0 := Lib.hid (h.below hA.out.lo)
  have ck : w0.cell? ⟨w.heap.size, 0, none⟩ = some (.int .i64 3) := hA.out.ab.kind
  clear h hok hm
  have cn : w0.cell? ⟨w.heap.size, 1, none⟩ = some (.string s) := hA.out.ab.name
  have hC : Hid (Calls Try.prog 26 #[.pointer (some ⟨g, 0, none⟩), .string s] w0 fun e w' => e = .returned (.tuple #[.agg (encKy (getQ (present L) s).1).toArray, .int .i64 ((getQ (present L) s).2 : Nat)]) ∧ Below w0.heap.size w0 w') := Lib.hid (getL_any hT0.out s)
  have hq : Hid (∀ _ : Unit, stepQ L ⟨3, s, k, a, u, v⟩ = (⟨(getQ (present L) s).2, (getQ (present L) s).1, 0, false, ⟨#[]⟩⟩, L)) := Lib.hid fun _ => rfl
  obtain ⟨N, hN⟩ : ∃ N, Hid (∀ _ : Unit, (getQ (present L) s).2 = N) := ⟨_, Lib.hid fun _ => rfl⟩
  obtain ⟨Y, hY⟩ : ∃ Y, Hid (∀ _ : Unit, (getQ (present L) s).1 = Y) := ⟨_, Lib.hid fun _ => rfl⟩
  rw [hN.out (), hY.out ()] at hq hC
  go_enter Try.func14, Try.ntmps14
  go_wp2_with (first
    | (go_at_call 26
       refine hC.out.mono ?_
       rintro e w1 ⟨rfl, hc⟩
       have h1 := Lib.hid (hA.out.next hc)
       clear hc)
    | (refine wpList_store_mid rfl 35 _ _ rfl (w.heap.size + 2) 1 (encKy Y).toArray rfl rfl (by rw [a32.out]; exact h1.out.ab.there) (by rw [a32.out]; exact hi32.out) (oneK.out _) ?_
       rw [List.toList_toArray]
       have f0 := (h1.out.putK Y).ab.fz 0
       have c0 := (h1.out.putK Y).ab.c0)
    | (refine wpList_load_mid rfl 38 _ rfl (w.heap.size + 2) 0 rfl (encA ⟨N, Y, 0, false, ⟨#[]⟩⟩) _ (range_blk ((h1.out.putK Y).putE N).ab.ou) Try.underlying38 rfl (by rw [l36.out]; exact hi36.out) ?_)
    | (refine wpList_store_row rfl 38 _ _ rfl (w.heap.size + 1) (encA ⟨N, Y, 0, false, ⟨#[]⟩⟩).toArray rfl rfl 38 _ ((h1.out.putK Y).putE N).ab.rs (by rw [a36.out]; exact hi36.out) (by simp only [a36.out]) (oneA.out _) ?_))
  refine bodyPost_ret (results_cell_row rfl _ _ (w.heap.size + 1) 38 _ (0, 0) _ rfl (((h1.out.putK Y).putE N).res _) Try.underlying38 rfl (by rw [a36.out]; exact hi36.out)) rfl ?_
  refine ⟨by rw [hq.out ()], ?_⟩
  rw [hq.out ()]
  exact hT.out.still (((h1.out.putK Y).putE N).fin _)
end Go.Proofs.Ytakcnkmlglkkpaa

namespace Go.Proofs.Ytakcnkmlglkkpaa
open Go.RowKit
set_option linter.unusedSimpArgs false
set_option linter.unusedVariables false
open Classical

set_option maxRecDepth 100000 in
set_option maxHeartbeats 4000000 in
theorem asked_k4 (w : World) {B g : Nat} {A : Option Addr} {L : Lists} (h : TblL w B g A L) (hok : okLs L) (hm : L.length < 100000) (s : ByteArray) (k : RKey) (a : Bool) (u v : Nat) :
    Calls Try.prog 14 #[.pointer (some ⟨g, 0, none⟩), .agg (encS ⟨4, s, k, a, u, v⟩).toArray] w (AskP w B g A L ⟨4, s, k, a, u, v⟩) := by
  have hz := zeroAn
  have l32 : Hid (∀ k : RKey, (encKy k).length = 32) := Lib.hid encKy_length
  have a32 : Hid (∀ k : RKey, (encKy k).toArray.size = 32) := Lib.hid fun k => by simp [encKy_length]
  have hi32 : Hid ((Try.prog.info? 35).map (·.size) = some 32) := Lib.hid (by kernel_rfl)
  have l36 : Hid (∀ x : AnsT, (encA x).length = 36) := Lib.hid encA_length
  have a36 : Hid (∀ x : AnsT, (encA x).toArray.size = 36) := Lib.hid fun k => by simp [encA_length]
  have hi36 : Hid ((Try.prog.info? 38).map (·.size) = some 36) := Lib.hid (by kernel_rfl)
  have oneA := Lib.hid encA_all
  have oneK := Lib.hid encKy_all
  have hT := Lib.hid h
  have hS := Lib.hid (okLs_present hok)
  have hO := Lib.hid hok
  have hL := Lib.hid hm
  obtain ⟨wa, hwa⟩ : ∃ wa, w.alloc (.cells (encS ⟨4, s, k, a, u, v⟩).toArray 41) = wa := ⟨_, rfl⟩
  obtain ⟨wb, hwb⟩ : ∃ wb, wa.alloc (.cells (encA zA).toArray 38) = wb := ⟨_, rfl⟩
  obtain ⟨w0, hw0⟩ : ∃ w0, wb.alloc (.cells (encA zA).toArray 38) = w0 := ⟨_, rfl⟩
  have sa : wa.heap.size = w.heap.size + 1 := by rw [← hwa]; simp
  have sb : wb.heap.size = w.heap.size + 2 := by rw [← hwb]; simp [sa]
  have hA : Hid (AS w w0 ⟨4, s, k, a, u, v⟩ zA) := Lib.hid (by rw [← hw0, ← hwb, ← hwa]; exact AS.new w _)
  have hT0 := Lib.hid (h.below hA.out.lo)
  have ck : w0.cell? ⟨w.heap.size, 0, none⟩ = some (.int .i64 4) := hA.out.ab.kind
  clear h hok hm
  have cn : w0.cell? ⟨w.heap.size, 1, none⟩ = some (.string s) := hA.out.ab.name
  have ca : w0.cell? ⟨w.heap.size, 34, none⟩ = some (.bool a) := hA.out.ab.any
  have hC : Hid (Calls Try.prog 25 #[.pointer (some ⟨g, 0, none⟩), .string s, .bool a] w0 fun e w' => e = .returned (nxtV (nextQ (present L) s a)) ∧ Below w0.heap.size w0 w') := Lib.hid (nextL_any hT0.out s a)
  have hq : Hid (∀ _ : Unit, stepQ L ⟨4, s, k, a, u, v⟩ = (⟨0, kZ, 0, (nextQ (present L) s a).isSome, rootS ((nextQ (present L) s a).getD rZ)⟩, L)) := Lib.hid fun _ => rfl
  have hsz : ((nextQ (present L) s a).getD rZ).1.size ≤ 4611686018427387904 := next_size hS.out.1 s a
  rw [nxtV_get] at hC
  obtain ⟨R, hR⟩ : ∃ R, Hid (∀ _ : Unit, (nextQ (present L) s a).getD rZ = R) := ⟨_, Lib.hid fun _ => rfl⟩
  obtain ⟨b, hb⟩ : ∃ b, Hid (∀ _ : Unit, (nextQ (present L) s a).isSome = b) := ⟨_, Lib.hid fun _ => rfl⟩
  rw [hR.out (), hb.out ()] at hq hC
  rw [hR.out ()] at hsz
  have hrt := Lib.hid fun W => root_any W R hsz
  have hzr := zeroRt
  have a33 : Hid (∀ r : RootT, (encR r).toArray.size = 33) := Lib.hid fun r => by simp [encR_length]
  have l33 : Hid (∀ r : RootT, (encR r).length = 33) := Lib.hid encR_length
  have hi33 : Hid ((Try.prog.info? 61).map (·.size) = some 33) := Lib.hid (by kernel_rfl)
  have oneR := Lib.hid encR_all
  clear hsz
  go_enter Try.func14, Try.ntmps14
  go_wp2_with (first
    | (go_at_call 25
       refine hC.out.mono ?_
       rintro e w1 ⟨rfl, hc⟩
       have h1 := Lib.hid (hA.out.next hc)
       clear hc)
    | (refine wpList_store_row rfl 61 _ _ rfl w1.heap.size (encR R).toArray rfl rfl 61 _ (heap_alloc_new w1 _) (by rw [a33.out]; exact hi33.out) (by rw [a33.out, a33.out]) (oneR.out _) ?_
       obtain ⟨w2, hw2⟩ : ∃ w2, Hid (∀ _ : Unit, (w1.alloc (.cells (encR rZ).toArray 61)).setRow w1.heap.size (encR R).toArray = w2) := ⟨_, Lib.hid fun _ => rfl⟩
       have hb2 : Below w1.heap.size w1 w2 := by rw [← hw2.out ()]; exact setRow_bel ((Below.refl _ _).alloc (Nat.le_refl _) _) (Nat.le_refl _) _
       have h2 := Lib.hid (h1.out.next hb2)
       have hx2 : Hid (∀ u, (w2.setCell ⟨w.heap.size + 2, 34, none⟩ u).heap[w1.heap.size]? = some (.cells (encR R).toArray 61 (0, 0))) := Lib.hid fun u => by
         rw [Below.heap_setCell _ _ _ _ (by have := h1.out.le; show w1.heap.size ≠ w.heap.size + 2; omega), ← hw2.out ()]
         exact setRow_heap _ _ _ _ _ _ (heap_alloc_new w1 _)
       rw [hw2.out ()]
       clear hb2
       have f0 := h2.out.ab.fz 34
       have c0 := h2.out.ab.c34)
    | (refine wpList_load_mid rfl 61 _ rfl w1.heap.size 0 rfl (encR R) _ (range_blk (hx2.out _)) Try.underlying61 rfl (by rw [l33.out]; exact hi33.out) ?_)
    | (go_at_call 27
       refine (hrt.out _).mono ?_
       rintro e w4 ⟨rfl, hc⟩
       have h4 := Lib.hid ((h2.out.putO b).next hc)
       clear hc
       have f1 := h4.out.ab.fz 35
       have cc1 := h4.out.ab.c35)
    | (refine wpList_load_mid rfl 38 _ rfl (w.heap.size + 2) 0 rfl (encA ⟨0, kZ, 0, b, rootS R⟩) _ (range_blk (h4.out.putL (rootS R)).ab.ou) Try.underlying38 rfl (by rw [l36.out]; exact hi36.out) ?_)
    | (refine wpList_store_row rfl 38 _ _ rfl (w.heap.size + 1) (encA ⟨0, kZ, 0, b, rootS R⟩).toArray rfl rfl 38 _ (h4.out.putL (rootS R)).ab.rs (by rw [a36.out]; exact hi36.out) (by simp only [a36.out]) (oneA.out _) ?_))
  refine bodyPost_ret (results_cell_row rfl _ _ (w.heap.size + 1) 38 _ (0, 0) _ rfl ((h4.out.putL (rootS R)).res _) Try.underlying38 rfl (by rw [a36.out]; exact hi36.out)) rfl ?_
  refine ⟨by rw [hq.out ()], ?_⟩
  rw [hq.out ()]
  exact hT.out.still ((h4.out.putL (rootS R)).fin _)
end Go.Proofs.Ytakcnkmlglkkpaa

namespace Go.Proofs.Ytakcnkmlglkkpaa
open Go.RowKit
set_option linter.unusedSimpArgs false
set_option linter.unusedVariables false
open Classical

set_option maxRecDepth 100000 in
set_option maxHeartbeats 4000000 in
theorem asked_k5 (w : World) {B g : Nat} {A : Option Addr} {L : Lists} (h : TblL w B g A L) (hok : okLs L) (hm : L.length < 100000) (s : ByteArray) (k : RKey) (a : Bool) (u v : Nat) :
    Calls Try.prog 14 #[.pointer (some ⟨g, 0, none⟩), .agg (encS ⟨5, s, k, a, u, v⟩).toArray] w (AskP w B g A L ⟨5, s, k, a, u, v⟩) := by
  have hz := zeroAn
  have l32 : Hid (∀ k : RKey, (encKy k).length = 32) := Lib.hid encKy_length
  have a32 : Hid (∀ k : RKey, (encKy k).toArray.size = 32) := Lib.hid fun k => by simp [encKy_length]
  have hi32 : Hid ((Try.prog.info? 35).map (·.size) = some 32) := Lib.hid (by kernel_rfl)
  have l36 : Hid (∀ x : AnsT, (encA x).length = 36) := Lib.hid encA_length
  have a36 : Hid (∀ x : AnsT, (encA x).toArray.size = 36) := Lib.hid fun k => by simp [encA_length]
  have hi36 : Hid ((Try.prog.info? 38).map (·.size) = some 36) := Lib.hid (by kernel_rfl)
  have oneA := Lib.hid encA_all
  have oneK := Lib.hid encKy_all
  have hT := Lib.hid h
  have hS := Lib.hid (okLs_present hok)
  have hO := Lib.hid hok
  have hL := Lib.hid hm
  obtain ⟨wa, hwa⟩ : ∃ wa, w.alloc (.cells (encS ⟨5, s, k, a, u, v⟩).toArray 41) = wa := ⟨_, rfl⟩
  obtain ⟨wb, hwb⟩ : ∃ wb, wa.alloc (.cells (encA zA).toArray 38) = wb := ⟨_, rfl⟩
  obtain ⟨w0, hw0⟩ : ∃ w0, wb.alloc (.cells (encA zA).toArray 38) = w0 := ⟨_, rfl⟩
  have sa : wa.heap.size = w.heap.size + 1 := by rw [← hwa]; simp
  have sb : wb.heap.size = w.heap.size + 2 := by rw [← hwb]; simp [sa]
  have hA : Hid (AS w w0 ⟨5, s, k, a, u, v⟩ zA) := Lib.hid (by rw [← hw0, ← hwb, ← hwa]; exact AS.new w _)
  have hT0 := Lib.hid (h.below hA.out.lo)
  have ck : w0.cell? ⟨w.heap.size, 0, none⟩ = some (.int .i64 5) := hA.out.ab.kind
  clear h hok hm
  have hC : Hid (Calls Try.prog 24 #[.pointer (some ⟨g, 0, none⟩)] w0 fun e w' => e = .returned (.int .i64 ((present L).length : Nat)) ∧ Below w0.heap.size w0 w') := Lib.hid (lenL_any hT0.out)
  have hq : Hid (∀ _ : Unit, stepQ L ⟨5, s, k, a, u, v⟩ = (⟨0, kZ, (present L).length, false, ⟨#[]⟩⟩, L)) := Lib.hid fun _ => rfl
  have h64 := hS.out.2
  obtain ⟨N, hN⟩ : ∃ N, Hid (∀ _ : Unit, (present L).length = N) := ⟨_, Lib.hid fun _ => rfl⟩
  rw [hN.out ()] at hq hC h64
  have wN : IntKind.u64.wrap (N : Int) = (N : Int) := by rw [IntKind.wrap_u64]; omega
  go_enter Try.func14, Try.ntmps14
  go_wp2_with (first
    | (go_at_call 24
       refine hC.out.mono ?_
       rintro e w1 ⟨rfl, hc⟩
       have h1 := Lib.hid (hA.out.next hc)
       clear hc
       have f0 := h1.out.ab.fz 33
       have c0 := h1.out.ab.c33)
    | (refine wpList_load_mid rfl 38 _ rfl (w.heap.size + 2) 0 rfl (encA ⟨0, kZ, N, false, ⟨#[]⟩⟩) _ (range_blk (h1.out.putN N).ab.ou) Try.underlying38 rfl (by rw [l36.out]; exact hi36.out) ?_)
    | (refine wpList_store_row rfl 38 _ _ rfl (w.heap.size + 1) (encA ⟨0, kZ, N, false, ⟨#[]⟩⟩).toArray rfl rfl 38 _ (h1.out.putN N).ab.rs (by rw [a36.out]; exact hi36.out) (by simp only [a36.out]) (oneA.out _) ?_))
  refine bodyPost_ret (results_cell_row rfl _ _ (w.heap.size + 1) 38 _ (0, 0) _ rfl ((h1.out.putN N).res _) Try.underlying38 rfl (by rw [a36.out]; exact hi36.out)) rfl ?_
  refine ⟨by rw [hq.out ()], ?_⟩
  rw [hq.out ()]
  exact hT.out.still ((h1.out.putN N).fin _)
end Go.Proofs.Ytakcnkmlglkkpaa

/- wanted, kind by kind. (Printed by tools/genask.py.) wanted, kind by kind. (Printed by tools/genask.py.) asked, wanted: any step. One table, two tables, as the laws hold them. -/
import Derived.Test.YtakcnkmlglkkpaaPkR33
import Derived.Test.YtakcnkmlglkkpaaPkR35
import Derived.Test.YtakcnkmlglkkpaaPkR36
import Derived.Test.YtakcnkmlglkkpaaPkR37
import Derived.Test.YtakcnkmlglkkpaaPkR38
import Derived.Test.YtakcnkmlglkkpaaPkR34

namespace Go.Proofs.Ytakcnkmlglkkpaa
open Go.RowKit
set_option linter.unusedSimpArgs false
set_option linter.unusedVariables false
open Classical

set_option maxRecDepth 100000 in
set_option maxHeartbeats 4000000 in
theorem wanted_k9 (w : World) {B g : Nat} {A : Option Addr} {L : Lists} (h : DocL w B g A L) (hok : okLs L) (hm : L.length < 100000) (s : ByteArray) (k : RKey) (a : Bool) (u v : Nat) :
    Calls Try.prog 15 #[.pointer (some ⟨g, 0, none⟩), .agg (encS ⟨9, s, k, a, u, v⟩).toArray] w (WantP w B g A L ⟨9, s, k, a, u, v⟩) := by
  have hz := zeroAn
  have l32 : Hid (∀ k : RKey, (encKy k).length = 32) := Lib.hid encKy_length
  have a32 : Hid (∀ k : RKey, (encKy k).toArray.size = 32) := Lib.hid fun k => by simp [encKy_length]
  have hi32 : Hid ((Try.prog.info? 35).map (·.size) = some 32) := Lib.hid (by kernel_rfl)
  have l36 : Hid (∀ x : AnsT, (encA x).length = 36) := Lib.hid encA_length
  have a36 : Hid (∀ x : AnsT, (encA x).toArray.size = 36) := Lib.hid fun k => by simp [encA_length]
  have hi36 : Hid ((Try.prog.info? 38).map (·.size) = some 36) := Lib.hid (by kernel_rfl)
  have oneA := Lib.hid encA_all
  have oneK := Lib.hid encKy_all
  have hT := Lib.hid h
  have hS := Lib.hid (okLs_present hok)
  have hO := Lib.hid hok
  have hL := Lib.hid hm
  obtain ⟨wa, hwa⟩ : ∃ wa, w.alloc (.cells (encS ⟨9, s, k, a, u, v⟩).toArray 41) = wa := ⟨_, rfl⟩
  obtain ⟨wb, hwb⟩ : ∃ wb, wa.alloc (.cells (encA zA).toArray 38) = wb := ⟨_, rfl⟩
  obtain ⟨w0, hw0⟩ : ∃ w0, wb.alloc (.cells (encA zA).toArray 38) = w0 := ⟨_, rfl⟩
  have sa : wa.heap.size = w.heap.size + 1 := by rw [← hwa]; simp
  have sb : wb.heap.size = w.heap.size + 2 := by rw [← hwb]; simp [sa]
  have hA : Hid (AS w w0 ⟨9, s, k, a, u, v⟩ zA) := Lib.hid (by rw [← hw0, ← hwb, ← hwa]; exact AS.new w _)
  have hT0 := Lib.hid (h.below hA.out.lo)
  have ck : w0.cell? ⟨w.heap.size, 0, none⟩ = some (.int .i64 9) := hA.out.ab.kind
  clear h hok hm
  have cv : w0.cell? ⟨w.heap.size, 35, none⟩ = some (.int .u64 (u : Int)) := hA.out.ab.v
  have cw : w0.cell? ⟨w.heap.size, 36, none⟩ = some (.int .u64 (v : Int)) := hA.out.ab.w
  obtain ⟨l, E, hq, hl1, hl2, hC⟩ : ∃ (l : List TurnT) (E : Nat), Hid (∀ _ : Unit, stepQ L ⟨9, s, k, a, u, v⟩ = (⟨E, kZ, 0, false, turnsS l⟩, L)) ∧ l.length ≤ 200 ∧ (∀ r ∈ l, Name r.name) ∧ Hid (Calls Try.prog 43 #[.pointer (some ⟨g, 0, none⟩), .int .u64 (u : Int), .int .u64 (v : Int)] w0 fun e w' => ∃ A1 c1, e = .returned (.tuple #[.slice A1 l.length c1, .int .i64 (E : Int)]) ∧ Own w' w0.heap.size 55 67 A1 l.length c1 (rowsT l) ∧ Below w0.heap.size w0 w') := by
    obtain ⟨c, ps, hD⟩ := hT0.out
    have hn : (L.length ≤ u ∨ L.length ≤ v) → ∃ (l : List TurnT) (E : Nat), Hid (∀ _ : Unit, stepQ L ⟨9, s, k, a, u, v⟩ = (⟨E, kZ, 0, false, turnsS l⟩, L)) ∧ l.length ≤ 200 ∧ (∀ r ∈ l, Name r.name) ∧ Hid (Calls Try.prog 43 #[.pointer (some ⟨g, 0, none⟩), .int .u64 (u : Int), .int .u64 (v : Int)] w0 fun e w' => ∃ A1 c1, e = .returned (.tuple #[.slice A1 l.length c1, .int .i64 (E : Int)]) ∧ Own w' w0.heap.size 55 67 A1 l.length c1 (rowsT l) ∧ Below w0.heap.size w0 w') := fun hno => by
      have hst : stepQ L ⟨9, s, k, a, u, v⟩ = (⟨133, kZ, 0, false, turnsS []⟩, L) := by
        have h5 : L[u]? = none ∨ L[v]? = none := hno.imp (fun h => List.getElem?_eq_none h) (fun h => List.getElem?_eq_none h)
        unfold stepQ
        rcases h5 with h5 | h5
        · simp [h5]; rfl
        · simp only [h5]
          cases L[u]? <;> rfl
      refine ⟨[], 133, Lib.hid fun _ => hst, by simp, by simp, Lib.hid ((dturns_any w0 hD u v).mono ?_)⟩
      rintro e w1 ⟨h1 | h1, h3⟩
      · obtain ⟨a', b', A1, c1, h4, h5, h6⟩ := h1
        have := (List.getElem?_eq_some_iff.1 h4).1
        have := (List.getElem?_eq_some_iff.1 h5).1
        omega
      · exact ⟨none, 0, h1.2, Own.nil _ _ _ _, h3⟩
    cases hu : L[u]? with
    | none => exact hn (.inl (List.getElem?_eq_none_iff.1 hu))
    | some l1 =>
      cases hv : L[v]? with
      | none => exact hn (.inr (List.getElem?_eq_none_iff.1 hv))
      | some l2 =>
        have p1 := hO.out.2 l1 (List.mem_of_getElem? hu)
        have p2 := hO.out.2 l2 (List.mem_of_getElem? hv)
        have p3 := mergeQ_len (l1.length + l2.length) l1 l2 (Nat.le_refl _)
        refine ⟨mergeQ l1 l2, 0, Lib.hid fun _ => by simp [stepQ, hu, hv], by have := p1.2; have := p2.2; omega, merge_named _ _ _ (Nat.le_refl _) p1.1.2 p2.1.2, Lib.hid ((dturns_any w0 hD u v).mono ?_)⟩
        rintro e w1 ⟨h1 | h1, h3⟩
        · obtain ⟨a', b', A1, c1, h4, h5, h6, h7⟩ := h1
          rw [hu] at h4
          rw [hv] at h5
          cases h4
          cases h5
          exact ⟨A1, c1, h6, h7, h3⟩
        · have := (List.getElem?_eq_some_iff.1 hu).1
          have := (List.getElem?_eq_some_iff.1 hv).1
          omega
  have htot := totT_named hl2
  obtain ⟨n, hn⟩ : ∃ n, Hid (∀ _ : Unit, l.length = n) := ⟨_, Lib.hid fun _ => rfl⟩
  obtain ⟨tx, htx⟩ : ∃ tx, Hid (∀ _ : Unit, turnsS l = tx) := ⟨_, Lib.hid fun _ => rfl⟩
  rw [hn.out ()] at hC hl1 htot
  rw [htx.out ()] at hq
  have hlist : Hid (∀ W A1 c1, Own W w0.heap.size 55 67 A1 n c1 (rowsT l) → Calls Try.prog 34 #[.slice A1 n c1] W fun e w' => e = .returned (.string tx) ∧ Below W.heap.size W w') := Lib.hid fun W A1 c1 ho => by
    rw [← htx.out ()]
    exact turns_txt W l A1 n c1 (hn.out ()) (by omega) (RowT.of_own (by rw [hn.out ()]; exact ho)) (by omega)
  clear hl1 hl2 htot
  go_enter Try.func15, Try.ntmps15
  go_wp2_with (first
    | (go_at_call 43
       refine hC.out.mono ?_
       rintro e w1 ⟨A1, c1, rfl, ho, hc⟩
       have h1 := Lib.hid (hA.out.next hc)
       have ho1 := Lib.hid ho
       have hs1 := Lib.hid hc.size
       clear ho hc)
    | (go_at_call 34
       refine (hlist.out _ _ _ ho1.out).mono ?_
       rintro e w2 ⟨rfl, hc⟩
       have h2 := Lib.hid (h1.out.next hc)
       have hs2 := Lib.hid (Nat.le_trans hs1.out hc.size)
       have ho2 := Lib.hid (ho1.out.below hc fun j hj => (ho1.out.lt j hj).2)
       clear hc
       have f1 := h2.out.ab.fz 35
       have cc1 := h2.out.ab.c35
       have f2 := (h2.out.putL tx).ab.fz 0
       have cc2 := (h2.out.putL tx).ab.c0)
    | (refine wpList_load_mid rfl 38 _ rfl (w.heap.size + 2) 0 rfl (encA ⟨E, kZ, 0, false, tx⟩) _ (range_blk ((h2.out.putL tx).putE E).ab.ou) Try.underlying38 rfl (by rw [l36.out]; exact hi36.out) ?_)
    | (refine wpList_store_row rfl 38 _ _ rfl (w.heap.size + 1) (encA ⟨E, kZ, 0, false, tx⟩).toArray rfl rfl 38 _ ((h2.out.putL tx).putE E).ab.rs (by rw [a36.out]; exact hi36.out) (by simp only [a36.out]) (oneA.out _) ?_))
  refine bodyPost_ret (results_cell_row rfl _ _ (w.heap.size + 1) 38 _ (0, 0) _ rfl (((h2.out.putL tx).putE E).res _) Try.underlying38 rfl (by rw [a36.out]; exact hi36.out)) rfl ?_
  refine ⟨by rw [hq.out ()], ?_⟩
  rw [hq.out ()]
  exact hT.out.still (((h2.out.putL tx).putE E).fin _)
end Go.Proofs.Ytakcnkmlglkkpaa

namespace Go.Proofs.Ytakcnkmlglkkpaa
open Go.RowKit
set_option linter.unusedSimpArgs false
set_option linter.unusedVariables false
open Classical

set_option maxRecDepth 100000 in
set_option maxHeartbeats 4000000 in
theorem wanted_other (w : World) {B g : Nat} {A : Option Addr} {L : Lists} (h : DocL w B g A L) (hok : okLs L) (hm : L.length < 100000) (s : ByteArray) (k : RKey) (a : Bool) (u v : Nat) (K : Int) (hK : K < 1 ∨ 9 < K) :
    Calls Try.prog 15 #[.pointer (some ⟨g, 0, none⟩), .agg (encS ⟨K, s, k, a, u, v⟩).toArray] w (WantP w B g A L ⟨K, s, k, a, u, v⟩) := by
  have hz := zeroAn
  have l32 : Hid (∀ k : RKey, (encKy k).length = 32) := Lib.hid encKy_length
  have a32 : Hid (∀ k : RKey, (encKy k).toArray.size = 32) := Lib.hid fun k => by simp [encKy_length]
  have hi32 : Hid ((Try.prog.info? 35).map (·.size) = some 32) := Lib.hid (by kernel_rfl)
  have l36 : Hid (∀ x : AnsT, (encA x).length = 36) := Lib.hid encA_length
  have a36 : Hid (∀ x : AnsT, (encA x).toArray.size = 36) := Lib.hid fun k => by simp [encA_length]
  have hi36 : Hid ((Try.prog.info? 38).map (·.size) = some 36) := Lib.hid (by kernel_rfl)
  have oneA := Lib.hid encA_all
  have oneK := Lib.hid encKy_all
  have hT := Lib.hid h
  have hS := Lib.hid (okLs_present hok)
  have hO := Lib.hid hok
  have hL := Lib.hid hm
  obtain ⟨wa, hwa⟩ : ∃ wa, w.alloc (.cells (encS ⟨K, s, k, a, u, v⟩).toArray 41) = wa := ⟨_, rfl⟩
  obtain ⟨wb, hwb⟩ : ∃ wb, wa.alloc (.cells (encA zA).toArray 38) = wb := ⟨_, rfl⟩
  obtain ⟨w0, hw0⟩ : ∃ w0, wb.alloc (.cells (encA zA).toArray 38) = w0 := ⟨_, rfl⟩
  have sa : wa.heap.size = w.heap.size + 1 := by rw [← hwa]; simp
  have sb : wb.heap.size = w.heap.size + 2 := by rw [← hwb]; simp [sa]
  have hA : Hid (AS w w0 ⟨K, s, k, a, u, v⟩ zA) := Lib.hid (by rw [← hw0, ← hwb, ← hwa]; exact AS.new w _)
  have hT0 := Lib.hid (h.below hA.out.lo)
  have ck : w0.cell? ⟨w.heap.size, 0, none⟩ = some (.int .i64 K) := hA.out.ab.kind
  clear h hok hm
  have hq : Hid (∀ _ : Unit, stepQ L ⟨K, s, k, a, u, v⟩ = (zA, L)) := Lib.hid fun _ => by unfold stepQ; simp only []; repeat (rw [if_neg (by omega)])
  have n1 : (K == 1) = false := by simp; omega
  have n2 : (K == 2) = false := by simp; omega
  have n3 : (K == 3) = false := by simp; omega
  have n4 : (K == 4) = false := by simp; omega
  have n5 : (K == 5) = false := by simp; omega
  have n6 : (K == 6) = false := by simp; omega
  have n7 : (K == 7) = false := by simp; omega
  have n8 : (K == 8) = false := by simp; omega
  have n9 : (K == 9) = false := by simp; omega
  clear hK
  go_enter Try.func15, Try.ntmps15
  go_wp2_with (first
    | (refine wpList_load_mid rfl 38 _ rfl (w.heap.size + 2) 0 rfl (encA zA) _ (range_blk hA.out.ab.ou) Try.underlying38 rfl (by rw [l36.out]; exact hi36.out) ?_)
    | (refine wpList_store_row rfl 38 _ _ rfl (w.heap.size + 1) (encA zA).toArray rfl rfl 38 _ hA.out.ab.rs (by rw [a36.out]; exact hi36.out) (by simp only [a36.out]) (oneA.out _) ?_))
  refine bodyPost_ret (results_cell_row rfl _ _ (w.heap.size + 1) 38 _ (0, 0) _ rfl (hA.out.res _) Try.underlying38 rfl (by rw [a36.out]; exact hi36.out)) rfl ?_
  refine ⟨by rw [hq.out ()], ?_⟩
  rw [hq.out ()]
  exact hT.out.still (hA.out.fin _)
end Go.Proofs.Ytakcnkmlglkkpaa

namespace Go.Proofs.Ytakcnkmlglkkpaa
open Go.RowKit
set_option linter.unusedSimpArgs false
set_option linter.unusedVariables false
open Classical

theorem asked_any (w : World) {B g : Nat} {A : Option Addr} {L : Lists} (h : TblL w B g A L) (hm : L.length < 100000) (s : StepT) :
    Calls Try.prog 14 #[.pointer (some ⟨g, 0, none⟩), .agg (encS s).toArray] w (AskP w B g A L s) := by
  have hok := h.ok
  obtain ⟨K, n, k, a, u, v⟩ := s
  by_cases hK : K < 1 ∨ 9 < K
  · exact asked_other w h hok hm n k a u v K hK
  · obtain rfl | rfl | rfl | rfl | rfl | rfl | rfl | rfl | rfl : K = 1 ∨ K = 2 ∨ K = 3 ∨ K = 4 ∨ K = 5 ∨ K = 6 ∨ K = 7 ∨ K = 8 ∨ K = 9 := by omega
    · exact asked_k1 w h hok hm n k a u v
    · exact asked_k2 w h hok hm n k a u v
    · exact asked_k3 w h hok hm n k a u v
    · exact asked_k4 w h hok hm n k a u v
    · exact asked_k5 w h hok hm n k a u v
    · exact asked_k6 w h hok hm n k a u v
    · exact asked_k7 w h hok hm n k a u v
    · exact asked_k8 w h hok hm n k a u v
    · exact asked_k9 w h hok hm n k a u v
theorem wanted_any (w : World) {B g : Nat} {A : Option Addr} {L : Lists} (h : DocL w B g A L) (hok : okLs L) (hm : L.length < 100000) (s : StepT) :
    Calls Try.prog 15 #[.pointer (some ⟨g, 0, none⟩), .agg (encS s).toArray] w (WantP w B g A L s) := by
  obtain ⟨K, n, k, a, u, v⟩ := s
  by_cases hK : K < 1 ∨ 9 < K
  · exact wanted_other w h hok hm n k a u v K hK
  · obtain rfl | rfl | rfl | rfl | rfl | rfl | rfl | rfl | rfl : K = 1 ∨ K = 2 ∨ K = 3 ∨ K = 4 ∨ K = 5 ∨ K = 6 ∨ K = 7 ∨ K = 8 ∨ K = 9 := by omega
    · exact wanted_k1 w h hok hm n k a u v
    · exact wanted_k2 w h hok hm n k a u v
    · exact wanted_k3 w h hok hm n k a u v
    · exact wanted_k4 w h hok hm n k a u v
    · exact wanted_k5 w h hok hm n k a u v
    · exact wanted_k6 w h hok hm n k a u v
    · exact wanted_k7 w h hok hm n k a u v
    · exact wanted_k8 w h hok hm n k a u v
    · exact wanted_k9 w h hok hm n k a u v
end Go.Proofs.Ytakcnkmlglkkpaa

namespace Go.Proofs.Ytakcnkmlglkkpaa
open Go.RowKit
set_option linter.unusedSimpArgs false
set_option linter.unusedVariables false
open Classical

theorem made_any (w : World) (b : Bool) (l : List RootT) (A1 : Option Addr) (n1 c1 : Nat) (A2 : Option Addr) (n2 c2 : Nat) (hl : l.length = n1) (hn : n1 ≤ 4096) (hR : RowR w w.heap.size A1 l) (ht : totS l ≤ 4611686018427387904) :
    Calls Try.prog 13 #[.agg (encX b A1 n1 c1 A2 n2 c2)] w (MadeP w b l) := by
  cases b with
  | false => exact made_new w A1 n1 c1 A2 n2 c2 l
  | true =>
    by_cases hF : fromQ l = 0
    · exact made_from1 w l A1 n1 c1 A2 n2 c2 hl hn hR ht hF
    · exact made_from0 w l A1 n1 c1 A2 n2 c2 hl hn hR ht hF
/-- The blocks that a step changes. -/
def Tch (W : World) (j : Nat) : Prop := ∃ cs t fr, W.heap[j]? = some (.cells cs t fr) ∧ (t = 68 ∨ t = 81)
def TchD (W : World) (j : Nat) : Prop := ∃ cs t fr, W.heap[j]? = some (.cells cs t fr) ∧ (t = 96 ∨ t = 24)
theorem TblL.tch {w : World} {B g : Nat} {A : Option Addr} {L : Lists} (h : TblL w B g A L) : ∀ j, j = g ∨ blockOf A = some j → Tch w j := by
  obtain ⟨c, vs, ps, e, h⟩ := h
  rintro j (rfl | hj)
  · exact ⟨_, _, _, h.blk, .inl rfl⟩
  · obtain ⟨cs, fr, hc⟩ := h.own.type hj
    exact ⟨_, _, _, hc, .inr rfl⟩
theorem DocL.tch {w : World} {B g : Nat} {A : Option Addr} {L : Lists} (h : DocL w B g A L) : ∀ j, j = g ∨ blockOf A = some j → TchD w j := by
  obtain ⟨c, ps, h⟩ := h
  rintro j (rfl | hj)
  · exact ⟨_, _, _, h.blk, .inl rfl⟩
  · obtain ⟨cs, fr, hc⟩ := h.own.type hj
    exact ⟨_, _, _, hc, .inr rfl⟩
theorem tch_not {W : World} {j : Nat} (h : Tch W j) : ¬ TchD W j := by
  obtain ⟨cs, t, fr, h1, h2⟩ := h
  rintro ⟨cs', t', fr', h3, h4⟩
  rw [h1] at h3
  injection h3 with h3
  injection h3 with _ h3 _
  subst h3
  rcases h2 with rfl | rfl <;> rcases h4 with h4 | h4 <;> exact absurd h4 (by decide)
theorem tch_type {W : World} {j : Nat} (h : Tch W j) {cs : Array Value} {t : TypeId} {fr : Nat × Nat} (h3 : W.heap[j]? = some (.cells cs t fr)) : t = 68 ∨ t = 81 := by
  obtain ⟨cs', t', fr', h1, h2⟩ := h
  rw [h1] at h3
  injection h3 with h3
  injection h3 with _ h3 _
  subst h3
  exact h2
theorem tchD_type {W : World} {j : Nat} (h : TchD W j) {cs : Array Value} {t : TypeId} {fr : Nat × Nat} (h3 : W.heap[j]? = some (.cells cs t fr)) : t = 96 ∨ t = 24 := by
  obtain ⟨cs', t', fr', h1, h2⟩ := h
  rw [h1] at h3
  injection h3 with h3
  injection h3 with _ h3 _
  subst h3
  exact h2
theorem Own.tch {W w' : World} {B : Nat} {e : TypeId} {size n c : Nat} {A : Option Addr} {xs : List Value} (h : Own W B e size A n c xs) (hg : Gro (Tch W) W w') (he : ¬ (e = 68 ∨ e = 81)) : Own w' B e size A n c xs :=
  h.same fun k hk => hg.block k (h.lt k hk).2 fun ht => by
    obtain ⟨cs, fr, hc⟩ := h.type hk
    exact he (tch_type ht hc)
/-- The program's table as a law holds it: all that stood ahead stands. -/
structure One (w0 W : World) (g : Nat) (L : Lists) : Prop where
  lo : Below w0.heap.size w0 W
  t : ∃ A, TblL W w0.heap.size g A L
structure OneD (w0 W : World) (g : Nat) (L : Lists) : Prop where
  lo : Below w0.heap.size w0 W
  t : ∃ A, DocL W w0.heap.size g A L
section
variable {w0 W W' : World} {g : Nat} {L : Lists}
theorem One.below (h : One w0 W g L) (hb : Below W.heap.size W W') : One w0 W' g L := by
  obtain ⟨lo, A, t⟩ := h
  exact ⟨lo.trans (hb.mono lo.size), A, t.below hb⟩
theorem OneD.below (h : OneD w0 W g L) (hb : Below W.heap.size W W') : OneD w0 W' g L := by
  obtain ⟨lo, A, t⟩ := h
  exact ⟨lo.trans (hb.mono lo.size), A, t.below hb⟩
theorem One.ok (h : One w0 W g L) : okLs L := by
  obtain ⟨lo, A, t⟩ := h
  exact t.ok
theorem One.gro (h : One w0 W g L) (hg : Gro (fun j => TchD W j ∧ w0.heap.size ≤ j) W W') : One w0 W' g L := by
  obtain ⟨lo, A, t⟩ := h
  refine ⟨lo.trans (hg.below lo.size fun j hj => hj.2), A, t.gro hg fun j hj => ⟨fun e => tch_not (t.tch j (.inl e)) hj.1, fun e => tch_not (t.tch j (.inr e)) hj.1, fun cs fr hc => ?_⟩⟩
  rcases tchD_type hj.1 hc with h | h <;> exact absurd h (by decide)
theorem OneD.gro (h : OneD w0 W g L) (hg : Gro (fun j => Tch W j ∧ w0.heap.size ≤ j) W W') : OneD w0 W' g L := by
  obtain ⟨lo, A, t⟩ := h
  refine ⟨lo.trans (hg.below lo.size fun j hj => hj.2), A, t.gro hg fun j hj => ⟨fun e => tch_not hj.1 (t.tch j (.inl e)), fun e => tch_not hj.1 (t.tch j (.inr e)), fun cs fr hc => ?_⟩⟩
  rcases tch_type hj.1 hc with h | h <;> exact absurd h (by decide)
theorem asked_one (h : One w0 W g L) (hm : L.length < 100000) (s : StepT) :
    Calls Try.prog 14 #[.pointer (some ⟨g, 0, none⟩), .agg (encS s).toArray] W fun e w' => e = .returned (.agg (encA (stepQ L s).1).toArray) ∧ One w0 w' g (stepQ L s).2 ∧ Gro (fun j => Tch W j ∧ w0.heap.size ≤ j) W w' := by
  obtain ⟨lo, A, t⟩ := h
  refine (asked_any W t hm s).mono ?_
  rintro e w' ⟨h1, A', h2, h3, h4⟩
  have hg : Gro (fun j => Tch W j ∧ w0.heap.size ≤ j) W w' := h3.sub fun j hj => .inl ⟨t.tch j hj, by
    rcases hj with rfl | hj
    · exact t.gB.1
    · exact t.gB.2 j hj⟩
  exact ⟨h1, ⟨lo.trans (hg.below lo.size fun j hj => hj.2), A', h2⟩, hg⟩
theorem wanted_one (h : OneD w0 W g L) (hok : okLs L) (hm : L.length < 100000) (s : StepT) :
    Calls Try.prog 15 #[.pointer (some ⟨g, 0, none⟩), .agg (encS s).toArray] W fun e w' => e = .returned (.agg (encA (stepQ L s).1).toArray) ∧ OneD w0 w' g (stepQ L s).2 ∧ Gro (fun j => TchD W j ∧ w0.heap.size ≤ j) W w' := by
  obtain ⟨lo, A, t⟩ := h
  refine (wanted_any W t hok hm s).mono ?_
  rintro e w' ⟨h1, A', h2, h3, h4⟩
  have hg : Gro (fun j => TchD W j ∧ w0.heap.size ≤ j) W w' := h3.sub fun j hj => .inl ⟨t.tch j hj, by
    rcases hj with rfl | hj
    · exact t.gB.1
    · exact t.gB.2 j hj⟩
  exact ⟨h1, ⟨lo.trans (hg.below lo.size fun j hj => hj.2), A', h2⟩, hg⟩
end
/-- Both tables. -/
structure Two (w0 W : World) (g g' : Nat) (L L' : Lists) : Prop where
  p : One w0 W g L
  d : OneD w0 W g' L'
section
variable {w0 W W' : World} {g g' : Nat} {L L' : Lists}
theorem Two.below (h : Two w0 W g g' L L') (hb : Below W.heap.size W W') : Two w0 W' g g' L L' := ⟨h.p.below hb, h.d.below hb⟩
theorem Two.drew (h : Two w0 W g g' L L') (m : Nat) : Two w0 (W.drewN m) g g' L L' := h.below (below_drewN (Below.refl _ _) m)
theorem asked_two (h : Two w0 W g g' L L') (hm : L.length < 100000) (s : StepT) :
    Calls Try.prog 14 #[.pointer (some ⟨g, 0, none⟩), .agg (encS s).toArray] W fun e w' => e = .returned (.agg (encA (stepQ L s).1).toArray) ∧ Two w0 w' g g' (stepQ L s).2 L' :=
  (asked_one h.p hm s).mono fun e w' ⟨h1, h2, h3⟩ => ⟨h1, h2, h.d.gro h3⟩
theorem wanted_two (h : Two w0 W g g' L L') (hok : okLs L') (hm : L'.length < 100000) (s : StepT) :
    Calls Try.prog 15 #[.pointer (some ⟨g', 0, none⟩), .agg (encS s).toArray] W fun e w' => e = .returned (.agg (encA (stepQ L' s).1).toArray) ∧ Two w0 w' g g' L (stepQ L' s).2 :=
  (wanted_one h.d hok hm s).mono fun e w' ⟨h1, h2, h3⟩ => ⟨h1, h.p.gro h3, h2⟩
end
/-- A step's row. -/
abbrev RowS (w : World) (B : Nat) (A : Option Addr) (l : List StepT) : Prop := Row encS 37 w B A l
theorem RowS.range {w : World} {B : Nat} {A : Option Addr} {l : List StepT} (h : RowS w B A l) {j : Nat} {x : StepT} (hj : l[j]? = some x) : ∃ b off, A = some ⟨b, off, none⟩ ∧ b < B ∧ w.rangeAt b (off + j * 37) (encS x) := by
  obtain ⟨hl, rfl⟩ := List.getElem?_eq_some_iff.1 hj
  obtain ⟨b, off, e, hb, hc⟩ := Row.elem h encS_length (by decide) hl
  exact ⟨b, off, e, hb, fun i v hv => hc i v hv⟩
/-- The script's block and its steps stand in every world behind. -/
theorem range_below {w W : World} {B b o : Nat} {cs : List Value} (hb : b < B) (h : w.rangeAt b o cs) (hW : Below B w W) : W.rangeAt b o cs := fun j v hj => (hW.cell (p := ⟨b, o + j, none⟩) hb).trans (h j v hj)
end Go.Proofs.Ytakcnkmlglkkpaa

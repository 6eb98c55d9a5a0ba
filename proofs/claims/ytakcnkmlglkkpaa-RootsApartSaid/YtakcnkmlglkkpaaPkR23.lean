/- The document's table: Get, Next. The document's table: Next. The document's table: a version more. -/
import Derived.Test.YtakcnkmlglkkpaaPkR22

namespace Go.Proofs.Ytakcnkmlglkkpaa
open Go.RowKit
set_option linter.unusedSimpArgs false
set_option linter.unusedVariables false
open Classical

theorem refNamed_yes {s : ByteArray} (hs : Name s) (w : World) : Calls Try.prog 11 #[.string s] w fun e w' => e = .returned (.bool true) ∧ w = w' := by
  refine (refNamed_any s w).mono ?_
  rintro e w' ⟨(⟨h, _⟩ | ⟨_, h⟩), rfl⟩
  · exact ⟨h, rfl⟩
  · exact absurd hs h
theorem refNamed_no {s : ByteArray} (hs : ¬ Name s) (w : World) : Calls Try.prog 11 #[.string s] w fun e w' => e = .returned (.bool false) ∧ w = w' := by
  refine (refNamed_any s w).mono ?_
  rintro e w' ⟨(⟨_, h⟩ | ⟨h, _⟩), rfl⟩
  · exact absurd h hs
  · exact ⟨h, rfl⟩
theorem key_range {w : World} {b o : Nat} {x : RootT} (h : w.rangeAt b o (encR x)) : w.rangeAt b (o + 1) (encKy x.2) := fun j v hj => by
  have := h (j + 1) v (by simpa [encR, encKy] using hj)
  rw [show o + 1 + j = o + (j + 1) by omega]
  exact this
set_option maxRecDepth 100000 in
set_option maxHeartbeats 4000000 in
theorem dget_any (w : World) {B g c : Nat} {A : Option Addr} {L : Lists} {ps : List Value} (h : Doc w B g A c L ps) (hr : Rise (present L)) (s : ByteArray) :
    Calls Try.prog 38 #[.pointer (some ⟨g, 0, none⟩), .string s] w fun e w' => e = .returned (.tuple #[.agg (encKy (getQ (present L) s).1).toArray, .int .i64 ((getQ (present L) s).2 : Nat)]) ∧ Below w.heap.size w w' := by
  have hz := zeroKy
  have hbz := buildKy
  have hi32 : Hid ((Try.prog.info? 35).map (·.size) = some 32) := Lib.hid (by kernel_rfl)
  have l32 : Hid (∀ k : RKey, (encKy k).length = 32) := Lib.hid encKy_length
  have a32 : Hid (∀ k : RKey, (encKy k).toArray.size = 32) := Lib.hid fun k => by simp [encKy_length]
  have hone := Lib.hid encKy_all
  obtain ⟨w0, hw0⟩ : ∃ w0, Hid (∀ _ : Unit, w.alloc (.cells (encKy kZ).toArray 35) = w0) := ⟨_, Lib.hid fun _ => rfl⟩
  have hb0 : Hid (Below w.heap.size w w0) := Lib.hid (by rw [← hw0.out ()]; exact (Below.refl _ _).alloc (Nat.le_refl _) _)
  have hx0 : Hid (w0.heap[w.heap.size]? = some (.cells (encKy kZ).toArray 35 (0, 0))) := Lib.hid (by rw [← hw0.out ()]; exact heap_alloc_new w _)
  have hn := Lib.hid (dnow_any w0 (h.below hb0.out))
  have h64 : (present L).length ≤ 64 := h.few _ (List.mem_of_getElem? (present_last h.ne))
  have hk := Lib.hid (keyL_place (s := s) hr)
  obtain ⟨n, hnn⟩ : ∃ n, Hid (∀ _ : Unit, (present L).length = n) := ⟨_, Lib.hid fun _ => rfl⟩
  rw [hnn.out ()] at hn h64
  obtain ⟨l, hl⟩ : ∃ l, Hid (∀ _ : Unit, present L = l) := ⟨_, Lib.hid fun _ => rfl⟩
  rw [hl.out ()] at hn hnn hk ⊢
  have hcel : Hid (∀ (m : Nat) (cs : Array Value), ((w0.drewN m).setRow w.heap.size cs).heap[w.heap.size]? = some (.cells cs 35 (0, 0))) := Lib.hid fun m cs => setRow_heap (w0.drewN m) w.heap.size _ cs 35 _ hx0.out
  have hfin : Hid (∀ (m : Nat) (cs : Array Value), Below w.heap.size w ((w0.drewN m).setRow w.heap.size cs)) := Lib.hid fun m cs => setRow_bel (below_drewN hb0.out m) (Nat.le_refl _) cs
  clear h hr
  by_cases hs : Name s
  · have hN := Lib.hid fun W => refNamed_yes hs W
    have hpl : Hid (∀ (m : Nat) (Al : Option Addr) (cl : Nat), RowR w0 w0.heap.size Al l → Calls Try.prog 54 #[.slice Al n cl, .string s] (w0.drewN m) fun e w' => e = .returned (.tuple #[.int .i64 (placeQ s l : Nat), .bool (thereQ s l)]) ∧ ∃ m, w' = w0.drewN m) := Lib.hid fun m Al cl hR => by
      refine (place_any (w0.drewN m) l Al n cl w0.heap.size s (hnn.out ()) (by omega) hR).mono ?_
      rintro e w' ⟨h1, m2, rfl⟩
      exact ⟨h1, m + m2, by simp⟩
    have hget : getQ l s = (match keyL s l with | some k => (k, 0) | none => (kZ, 132)) := by unfold getQ; rw [if_pos hs]; cases keyL s l <;> rfl
    cases hth : thereQ s l with
    | true =>
      obtain ⟨x, hx, _⟩ := there_at hth
      have hgq : Hid (getQ l s = (x.2, 0)) := Lib.hid (by rw [hget, hk.out, if_pos hth, hx]; rfl)
      rw [hth] at hpl
      have hx' := Lib.hid hx
      have hpn : placeQ s l < n := by rw [← hnn.out ()]; exact (List.getElem?_eq_some_iff.1 hx).1
      obtain ⟨p, hp⟩ : ∃ p, Hid (∀ _ : Unit, placeQ s l = p) := ⟨_, Lib.hid fun _ => rfl⟩
      rw [hp.out ()] at hpl hpn hx'
      have b1 : (0 : Int) ≤ (p : Int) := by omega
      have b2 : (p : Int) < (n : Int) := by omega
      clear hget hth hx hpn
      go_enter Try.func38, Try.ntmps38
      go_wp2_with fail
      rw [hw0.out ()]
      go_wp2_with (first
        | (go_at_call 11; refine (hN.out _).mono ?_; rintro e w9 ⟨rfl, rfl⟩)
        | (go_at_call 53
           refine hn.out.mono ?_
           rintro e w1 ⟨⟨Al, cl, rfl, ol⟩, m, rfl⟩
           have ol2 : RowR w0 w0.heap.size Al l := RowR.of_own (by rw [hnn.out ()]; exact ol)
           obtain ⟨b, off, rfl, _, hrg⟩ := RowR.range ol2 hx'.out
           have hpc := Lib.hid (hpl.out m _ cl ol2)
           have hky := Lib.hid (key_range hrg)
           clear ol ol2 hrg)
        | (go_at_call 54; refine hpc.out.mono ?_; rintro e w8 ⟨rfl, m2, rfl⟩)
        | (refine wpList_load_mid rfl 35 _ rfl b (off + p * 33 + 1) rfl (encKy x.2) _ hky.out Try.underlying35 rfl (by rw [l32.out]; exact hi32.out) ?_)
        | (refine wpList_store_row rfl 35 _ _ rfl w.heap.size (encKy x.2).toArray rfl rfl 35 _ hx0.out (by rw [a32.out]; exact hi32.out) (by rw [a32.out, a32.out]) (hone.out _) ?_))
      refine bodyPost_ret (results_row_tmp rfl _ _ w.heap.size 35 _ (0, 0) _ (.int .i64 0) rfl rfl (hcel.out m2 _) Try.underlying35 rfl (by rw [a32.out]; exact hi32.out)) rfl ⟨?_, hfin.out m2 _⟩
      rw [hgq.out]
      rfl
    | false =>
      have hgq : Hid (getQ l s = (kZ, 132)) := Lib.hid (by rw [hget, hk.out, if_neg (by rw [hth]; decide)])
      rw [hth] at hpl
      clear hget hth
      go_enter Try.func38, Try.ntmps38
      go_wp2_with fail
      rw [hw0.out ()]
      go_wp2_with (first
        | (go_at_call 11; refine (hN.out _).mono ?_; rintro e w9 ⟨rfl, rfl⟩)
        | (go_at_call 53
           refine hn.out.mono ?_
           rintro e w1 ⟨⟨Al, cl, rfl, ol⟩, m, rfl⟩
           have hpc := Lib.hid (hpl.out m _ cl (RowR.of_own (by rw [hnn.out ()]; exact ol)))
           clear ol)
        | (go_at_call 54; refine hpc.out.mono ?_; rintro e w8 ⟨rfl, m2, rfl⟩)
        | (refine wpList_store_row rfl 35 _ _ rfl w.heap.size (encKy kZ).toArray rfl rfl 35 _ hx0.out (by rw [a32.out]; exact hi32.out) (by rw [a32.out]) (hone.out _) ?_))
      refine bodyPost_ret (results_row_tmp rfl _ _ w.heap.size 35 _ (0, 0) _ (.int .i64 132) rfl rfl (hcel.out m2 _) Try.underlying35 rfl (by rw [a32.out]; exact hi32.out)) rfl ⟨?_, hfin.out m2 _⟩
      rw [hgq.out]
      rfl
  · have hN := Lib.hid fun W => refNamed_no hs W
    have hgq : Hid (getQ l s = (kZ, 130)) := Lib.hid (by unfold getQ; rw [if_neg hs])
    go_enter Try.func38, Try.ntmps38
    go_wp2_with fail
    rw [hw0.out ()]
    go_wp2_with (first
      | (go_at_call 11; refine (hN.out _).mono ?_; rintro e w9 ⟨rfl, rfl⟩)
      | (refine wpList_store_row rfl 35 _ _ rfl w.heap.size (encKy kZ).toArray rfl rfl 35 _ hx0.out (by rw [a32.out]; exact hi32.out) (by rw [a32.out]) (hone.out _) ?_))
    refine bodyPost_ret (results_row_tmp rfl _ _ w.heap.size 35 _ (0, 0) _ (.int .i64 130) rfl rfl (hcel.out 0 _) Try.underlying35 rfl (by rw [a32.out]; exact hi32.out)) rfl ⟨?_, hfin.out 0 _⟩
    rw [hgq.out]
    rfl
end Go.Proofs.Ytakcnkmlglkkpaa

namespace Go.Proofs.Ytakcnkmlglkkpaa
open Go.RowKit
set_option linter.unusedSimpArgs false
set_option linter.unusedVariables false
open Classical

theorem nextQ_none {l : List RootT} {s : ByteArray} {a : Bool} {k : Nat} (h : ∀ (j : Nat) (x : RootT), j < k → l[j]? = some x → (a || ltS s x.1) = false) : nextQ (l.take k) s a = none := by
  unfold nextQ
  rw [List.find?_eq_none]
  intro x hx
  obtain ⟨j, hj⟩ := List.getElem?_of_mem hx
  have hjk : j < k := by
    have := (List.getElem?_eq_some_iff.1 hj).1
    simp at this
    omega
  rw [List.getElem?_take, if_pos hjk] at hj
  rw [h j x hjk hj]
  decide
theorem nextQ_some {l : List RootT} {s : ByteArray} {a : Bool} {k : Nat} {x : RootT} (h : ∀ (j : Nat) (x : RootT), j < k → l[j]? = some x → (a || ltS s x.1) = false) (hx : l[k]? = some x) (hh : (a || ltS s x.1) = true) : nextQ l s a = some x :=
  nextQ_hit (nextQ_none h) (by rw [← take_one hx]; exact List.take_prefix _ _) hh
set_option maxRecDepth 100000 in
set_option maxHeartbeats 4000000 in
theorem dnext_any (w : World) {B g c : Nat} {A : Option Addr} {L : Lists} {ps : List Value} (h : Doc w B g A c L ps) (s : ByteArray) (a : Bool) :
    Calls Try.prog 39 #[.pointer (some ⟨g, 0, none⟩), .string s, .bool a] w fun e w' => e = .returned (nxtV (nextQ (present L) s a)) ∧ Below w.heap.size w w' := by
  have hz := zeroRt
  have hbz := buildRz
  have m33 : Hid (∀ r : RootT, (encR r).length = 33) := Lib.hid encR_length
  have l33 : Hid (∀ r : RootT, (encR r).toArray.size = 33) := Lib.hid fun r => by simp [encR_length]
  have hi33 : Hid ((Try.prog.info? 61).map (·.size) = some 33) := Lib.hid (by kernel_rfl)
  have hone := Lib.hid encR_all
  obtain ⟨w0, hw0⟩ : ∃ w0, Hid (∀ _ : Unit, w.alloc (.cells (encR rZ).toArray 61) = w0) := ⟨_, Lib.hid fun _ => rfl⟩
  have hb0 : Hid (Below w.heap.size w w0) := Lib.hid (by rw [← hw0.out ()]; exact (Below.refl _ _).alloc (Nat.le_refl _) _)
  have hx0 : Hid (w0.heap[w.heap.size]? = some (.cells (encR rZ).toArray 61 (0, 0))) := Lib.hid (by rw [← hw0.out ()]; exact heap_alloc_new w _)
  have hn := Lib.hid (dnow_any w0 (h.below hb0.out))
  have h64 : (present L).length ≤ 64 := h.few _ (List.mem_of_getElem? (present_last h.ne))
  obtain ⟨n, hnn⟩ : ∃ n, Hid (∀ _ : Unit, (present L).length = n) := ⟨_, Lib.hid fun _ => rfl⟩
  rw [hnn.out ()] at hn h64
  obtain ⟨l, hl⟩ : ∃ l, Hid (∀ _ : Unit, present L = l) := ⟨_, Lib.hid fun _ => rfl⟩
  rw [hl.out ()] at hn hnn ⊢
  have hcel : Hid (∀ (m : Nat) (cs : Array Value), ((w0.drewN m).setRow w.heap.size cs).heap[w.heap.size]? = some (.cells cs 61 (0, 0))) := Lib.hid fun m cs => setRow_heap (w0.drewN m) w.heap.size _ cs 61 _ hx0.out
  have hfin : Hid (∀ (m : Nat) (cs : Array Value), Below w.heap.size w ((w0.drewN m).setRow w.heap.size cs)) := Lib.hid fun m cs => setRow_bel (below_drewN hb0.out m) (Nat.le_refl _) cs
  clear h
  go_enter Try.func39, Try.ntmps39
  go_wp2_with fail
  rw [hw0.out ()]
  refine hn.out.mono ?_
  rintro e w1 ⟨⟨Al, cl, rfl, ol⟩, m, rfl⟩
  have hR' : Hid (RowR w0 w0.heap.size Al l) := Lib.hid (RowR.of_own (by rw [hnn.out ()]; exact ol))
  clear ol hn
  go_wp2_with fail
  go_loop [9] (fun i => ∃ k : Nat, k ≤ n ∧ i = .int .i64 k ∧ Hid (∀ (j : Nat) (x : RootT), j < k → l[j]? = some x → (a || ltS s x.1) = false)) (fun i => n - (intOf i).toNat)
  case atStart => exact ⟨0, by omega, rfl, Lib.hid fun j x hj => absurd hj (by omega)⟩
  case round =>
    obtain ⟨k, hk, rfl, hp⟩ := hrel
    by_cases hlt : k < n
    · obtain ⟨x, hx⟩ : ∃ x, l[k]? = some x := ⟨_, List.getElem?_eq_getElem (by have := hnn.out (); omega)⟩
      obtain ⟨b, off, rfl, hbb, hrg⟩ := RowR.range hR'.out hx
      have dx : w0.cell? ⟨b, off + k * 33, none⟩ = some (.string x.1) := by simpa using hrg 0 _ (show (encR x)[0]? = some (.string x.1) from rfl)
      have hrg' := Lib.hid hrg
      have hx' := Lib.hid hx
      clear hrg hx
      have hit : (a || ltS s x.1) = true → Hid (nextQ l s a = some x) := fun hh => Lib.hid (nextQ_some hp.out hx'.out hh)
      have hit' := Lib.hid hit
      have go : (a || ltS s x.1) = false → Hid (∀ (j : Nat) (x : RootT), j < k + 1 → l[j]? = some x → (a || ltS s x.1) = false) := fun hh => Lib.hid fun j y hj hy => by
        rcases Nat.lt_or_ge j k with h | h
        · exact hp.out j y h hy
        · obtain rfl : j = k := by omega
          rw [hx'.out] at hy
          cases hy
          exact hh
      have go' := Lib.hid go
      clear hit go hp
      cases a with
      | true =>
        have hq := hit'.out rfl
        go_wp2_with (first
          | (refine wpList_load_mid rfl 61 _ rfl b (off + k * 33) rfl (encR x) _ hrg'.out Try.underlying61 rfl (by rw [m33.out]; exact hi33.out) ?_)
          | (refine wpList_store_row rfl 61 _ _ rfl w.heap.size (encR x).toArray rfl rfl 61 _ hx0.out (by rw [l33.out]; exact hi33.out) (by rw [l33.out, l33.out]) (hone.out _) ?_))
        refine bodyPost_ret (results_row_tmp rfl _ _ w.heap.size 61 _ (0, 0) _ (.bool true) rfl rfl (hcel.out m _) Try.underlying61 rfl (by rw [l33.out]; exact hi33.out)) rfl ⟨?_, hfin.out m _⟩
        rw [hq.out]
        rfl
      | false =>
        by_cases he : x.1.toList = s.toList
        · have q1 : Op.bytesLess x.1.toList s.toList = false := name_less he
          have q2 : (x.1.toList == s.toList) = true := by simpa using he
          have hg := go'.out (by simpa using name_less he.symm)
          go_wp2_with fail
          go_round
          case rel => exact ⟨k + 1, by omega, by go_num, hg⟩
          case measure => simp [intOf]; omega
        · cases hlx : ltS s x.1 with
          | true =>
            have q1 : Op.bytesLess x.1.toList s.toList = false := ltS_asymm hlx
            have q2 : (x.1.toList == s.toList) = false := by simpa using he
            have hq := hit'.out (by simp [hlx])
            go_wp2_with (first
              | (refine wpList_load_mid rfl 61 _ rfl b (off + k * 33) rfl (encR x) _ hrg'.out Try.underlying61 rfl (by rw [m33.out]; exact hi33.out) ?_)
              | (refine wpList_store_row rfl 61 _ _ rfl w.heap.size (encR x).toArray rfl rfl 61 _ hx0.out (by rw [l33.out]; exact hi33.out) (by rw [l33.out, l33.out]) (hone.out _) ?_))
            refine bodyPost_ret (results_row_tmp rfl _ _ w.heap.size 61 _ (0, 0) _ (.bool true) rfl rfl (hcel.out m _) Try.underlying61 rfl (by rw [l33.out]; exact hi33.out)) rfl ⟨?_, hfin.out m _⟩
            rw [hq.out]
            rfl
          | false =>
            have q1 : Op.bytesLess x.1.toList s.toList = true := by
              cases h2 : ltS x.1 s with
              | true => exact h2
              | false => exact absurd (ltS_three h2 hlx) he
            have hg := go'.out (by simp [hlx])
            go_wp2_with fail
            go_round
            case rel => exact ⟨k + 1, by omega, by go_num, hg⟩
            case measure => simp [intOf]; omega
    · obtain rfl : k = n := by omega
      have hq : Hid (nextQ l s a = none) := Lib.hid (by
        have := nextQ_none hp.out
        rwa [List.take_of_length_le (by rw [hnn.out ()]; exact Nat.le_refl _)] at this)
      go_wp2_with (refine wpList_store_row rfl 61 _ _ rfl w.heap.size (encR rZ).toArray rfl rfl 61 _ hx0.out (by rw [l33.out]; exact hi33.out) (by rw [l33.out]) (hone.out _) ?_)
      refine bodyPost_ret (results_row_tmp rfl _ _ w.heap.size 61 _ (0, 0) _ (.bool false) rfl rfl (hcel.out m _) Try.underlying61 rfl (by rw [l33.out]; exact hi33.out)) rfl ⟨?_, hfin.out m _⟩
      rw [hq.out]
      rfl
end Go.Proofs.Ytakcnkmlglkkpaa

namespace Go.Proofs.Ytakcnkmlglkkpaa
open Go.RowKit
set_option linter.unusedSimpArgs false
set_option linter.unusedVariables false
open Classical

/-! ### Parts of rows of roots -/
def cutR (A : Option Addr) (k c : Nat) : Option Addr := if c = k then A else A.map (·.add (k * 33))
theorem sizeR (W : World) : (sizeOf (Try.prog.elem 24)).run Try.prog W = .ok 33 W := by kernel_rfl
theorem slice_lR (A : Option Addr) (n c i : Nat) (h : i ≤ n) (W : World) : (Instr.slice 24 (.slice A n c) (some (.int .i64 (i : Int))) none none).run Try.prog W = .ok (.slice (cutR A i c) (n - i) (c - i)) W := by
  rw [run_slice_l W 24 _ n c (by rw [Try.underlying24]; kernel_rfl) .i64 (i : Int) (by omega) (by omega), sizeR]
  simp only [Result.andThen, sliced, Int.toNat_natCast, cutR]
theorem slice_hR (A : Option Addr) (n c i : Nat) (h : i ≤ c) (W : World) : (Instr.slice 24 (.slice A n c) none (some (.int .i64 (i : Int))) none).run Try.prog W = .ok (.slice (cutR A 0 c) i c) W := by
  rw [run_slice_h W 24 _ n c (by rw [Try.underlying24]; kernel_rfl) .i64 (i : Int) (by omega) (by omega), sizeR]
  simp only [Result.andThen, sliced, Int.toNat_natCast, cutR, Nat.sub_zero]
section
variable {ops : Array Oper} {rest : List Oper} {o : Oper} {a : Act} {w : World} {Q : Exit → Act → World → Prop}
theorem wpList_slL (hg : o.guard = none) (x y : Operand) (ho : o.op = .slice 24 x (some y) none none) {A : Option Addr} {n c i : Nat} (hx : a.eval x = .slice A n c) (hy : a.eval y = .int .i64 (i : Int)) (hi : i ≤ n)
    (h : wpList Try.prog ops Q rest (a.put o.dst (.slice (cutR A i c) (n - i) (c - i))) w) : wpList Try.prog ops Q (o :: rest) a w :=
  wpList_plain hg fun K hK => by
    have h1 := run_sliceAt_slice (P := Try.prog) (w := w) 24 (.slice A n c) (some (.int .i64 (i : Int))) none none (by rw [Try.underlying24]; kernel_rfl)
    unfold Oper.wp execOp
    simp only [ho, Option.map_some, Option.map_none, hx, hy, Sem.run_bind, h1, slice_lR A n c i hi, Result.andThen_ok, Sem.run_pure]
    exact hK _ _ h
end
theorem flat_take (l : List RootT) (i j : Nat) (hi : i ≤ l.length) (hj : j < i * 33) : (flat encR (l.take i))[j]? = (flat encR l)[j]? := by
  have h1 : flat encR l = flat encR (l.take i) ++ flat encR (l.drop i) := by rw [← flat_append, List.take_append_drop]
  have h2 : (flat encR (l.take i)).length = i * 33 := by rw [flat_length encR_length, List.length_take]; congr 1; omega
  rw [h1, List.getElem?_append_left (by omega)]
theorem flat_drop (l : List RootT) (i j : Nat) (hi : i ≤ l.length) : (flat encR (l.drop i))[j]? = (flat encR l)[i * 33 + j]? := by
  have h1 : flat encR l = flat encR (l.take i) ++ flat encR (l.drop i) := by rw [← flat_append, List.take_append_drop]
  have h2 : (flat encR (l.take i)).length = i * 33 := by rw [flat_length encR_length, List.length_take]; congr 1; omega
  rw [h1, List.getElem?_append_right (by omega), h2]
  congr 1
  omega
theorem RowR.take {w : World} {B : Nat} {A : Option Addr} {l : List RootT} (h : RowR w B A l) (i c : Nat) (hi : i ≤ l.length) : RowR w B (cutR A 0 c) (l.take i) := fun hn => by
  have hl : (l.take i).length = i := by rw [List.length_take]; omega
  rw [hl] at hn
  obtain ⟨b, off, rfl, hb, hc⟩ := h (by omega)
  refine ⟨b, off, ?_, hb, fun j hj => ?_⟩
  · unfold cutR
    split
    · rfl
    · simp [Addr.add_lit]
  · rw [hl] at hj
    rw [hc j (by omega)]
    simp only
    rw [flat_take l i j hi (by omega)]
theorem RowR.drop {w : World} {B : Nat} {A : Option Addr} {l : List RootT} (h : RowR w B A l) (i c : Nat) (hi : i ≤ l.length) (hc : l.length ≤ c) : RowR w B (cutR A i c) (l.drop i) := fun hn => by
  rw [List.length_drop] at hn
  obtain ⟨b, off, rfl, hb, hcl⟩ := h (by omega)
  refine ⟨b, off + i * 33, ?_, hb, fun j hj => ?_⟩
  · unfold cutR
    rw [if_neg (by omega)]
    simp [Addr.add_lit]
  · rw [List.length_drop] at hj
    rw [Nat.add_assoc, hcl (i * 33 + j) (by omega)]
    simp only
    rw [flat_drop l i j hi]
/-- What a change leaves of the document's table. -/
def ChdD (w : World) (B g : Nat) (A : Option Addr) (L : Lists) (w' : World) : Prop :=
  ∃ A' c' ps', Doc w' B g A' c' L ps' ∧ Gro (fun j => j = g ∨ blockOf A = some j) w w' ∧ (∀ j, blockOf A' = some j → blockOf A = some j ∨ w.heap.size ≤ j)
theorem Doc.still {w w' : World} {B g c : Nat} {A : Option Addr} {L : Lists} {ps : List Value} (h : Doc w B g A c L ps) (hb : Below w.heap.size w w') : ChdD w B g A L w' := ⟨A, c, ps, h.below hb, Gro.of_below hb, fun j hj => .inl hj⟩
theorem Doc.more {w w1 w4 : World} {B g c c' cl : Nat} {A A' Al : Option Addr} {L : Lists} {ps : List Value} {l : List RootT} (h : Doc w B g A c L ps) (hw : Below w.heap.size w w1) (hl : Own w1 w.heap.size 61 33 Al l.length cl (rowsR l)) (h64 : l.length ≤ 64)
    (ho : Own w4 B 24 1 A' (L.length + 1) c' (ps ++ [.slice Al l.length cl])) (hat : AppAt w1 w4 A A') (hm : L.length < 100000) :
    ChdD w B g A (L ++ [l]) (w4.setCell ⟨g, 0, none⟩ (.slice A' (L.length + 1) c')) := by
  have h1 := h.below hw
  have hBw : B ≤ w.heap.size := Nat.le_trans h.gB (Nat.le_of_lt h.lt)
  have hgr := hat.grown
  have hAA : ∀ j, blockOf A' = some j → blockOf A = some j ∨ w.heap.size ≤ j := fun j hj => by
    rcases hat with ⟨e, _⟩ | ⟨k, e, hk, _⟩
    · exact .inl (e ▸ hj)
    · rw [hj] at e
      cases e
      exact .inr (Nat.le_trans hw.size hk)
  have hne : blockOf A' ≠ some g := hat.off h1.lt h1.dis
  have hb4 : w4.heap[g]? = some (.cells #[.slice A L.length c] 96 (0, 0)) := (hgr.block g h1.lt (fun e => h1.dis e.symm)).trans h1.blk
  have rowk : ∀ (k : Nat) (cs : Array Value) (fr : Nat × Nat), w1.heap[k]? = some (.cells cs 61 fr) → (w4.setCell ⟨g, 0, none⟩ (.slice A' (L.length + 1) c')).heap[k]? = w1.heap[k]? := fun k cs fr hk => by
    have kg : k ≠ g := fun e => by
      subst e
      rw [h1.blk] at hk
      cases hk
    rw [setCell_oth kg]
    refine hgr.block k (Array.getElem?_eq_some_iff.1 hk).1 fun e => ?_
    obtain ⟨cs2, fr2, h2⟩ := h1.own.type e.symm
    rw [hk] at h2
    cases h2
  have ownk : ∀ {B2 n2 c2 : Nat} {A2 : Option Addr} {xs : List Value}, Own w1 B2 61 33 A2 n2 c2 xs → Own (w4.setCell ⟨g, 0, none⟩ (.slice A' (L.length + 1) c')) B2 61 33 A2 n2 c2 xs := fun h2 => h2.same fun k hk => by
    obtain ⟨cs, fr, hc⟩ := h2.type hk
    exact rowk k cs fr hc
  refine ⟨A', c', ps ++ [.slice Al l.length cl], ⟨?_, h.gB, by simpa using ho.same (fun k hk => setCell_oth (fun e => hne (by rw [e] at hk; exact hk))), ?_, by simp, ?_, by simp; omega⟩, ?_, hAA⟩
  · rw [setCell_blk hb4]
    simp
  · intro i l2 hi
    rw [List.getElem?_append] at hi
    by_cases hil : i < L.length
    · rw [if_pos hil] at hi
      obtain ⟨A2, c2, hp, hr⟩ := h1.rows i l2 hi
      have hpl := (List.getElem?_eq_some_iff.1 hp).1
      exact ⟨A2, c2, by rw [List.getElem?_append_left hpl]; exact hp, ownk hr⟩
    · rw [if_neg hil] at hi
      have hps : ps.length = L.length := by have := h.own.len; omega
      have h0 : i - L.length = 0 := by have := (List.getElem?_eq_some_iff.1 hi).1; simpa using this
      rw [h0] at hi
      cases hi
      have hi0 : i = ps.length := by omega
      exact ⟨Al, cl, by rw [hi0]; simp, ownk (hl.base hBw)⟩
  · intro l2 hi
    rcases List.mem_append.1 hi with hi | hi
    · exact h.few l2 hi
    · rw [List.mem_singleton.1 hi]; exact h64
  · refine ⟨hgr.os.trans hw.os, hgr.tape.trans hw.tape, hgr.output.trans hw.output, ?_, fun k hk hn => ?_⟩
    · have := hgr.size
      have := hw.size
      simp [World.setCell]
      omega
    · rw [setCell_oth (fun e => hn (.inl e))]
      exact (hgr.block k (Nat.lt_of_lt_of_le hk hw.size) (fun e => hn (.inr e.symm))).trans (hw.block k hk)
theorem Doc.mid {w w1 w4 : World} {B g c : Nat} {A A' : Option Addr} {L : Lists} {ps : List Value} (h : Doc w B g A c L ps) (hw : Below w.heap.size w w1) (hat : AppAt w1 w4 A A') :
    w4.cell? ⟨g, 0, none⟩ = some (.slice A L.length c) ∧ w4.frozen? ⟨g, 0, none⟩ = false := by
  have h1 := h.below hw
  have hb4 : w4.heap[g]? = some (.cells #[.slice A L.length c] 96 (0, 0)) := (hat.grown.block g h1.lt (fun e => h1.dis e.symm)).trans h1.blk
  exact ⟨by simp [World.cell?, hb4], by simp [World.frozen?, hb4]⟩
end Go.Proofs.Ytakcnkmlglkkpaa

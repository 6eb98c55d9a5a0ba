/- New and From. -/
import Derived.Test.YtakcnkmlglkkpaaPkR19

namespace Go.Proofs.Ytakcnkmlglkkpaa
open Go.RowKit
set_option linter.unusedSimpArgs false
set_option linter.unusedVariables false
open Classical

/-- A table of one version. -/
theorem Tbl.first {w : World} {B : Nat} {t : Tr} {v : Value} (ht : TreeAt w t v) (hB : B ≤ w.heap.size) (h64 : t.cnt ≤ 64) (hr : Rise t.list) (hn : ∀ r ∈ t.list, Name r.1) :
    Tbl ((w.alloc (.cells #[v] 81)).alloc (.cells #[.slice (some ⟨w.heap.size, 0, none⟩) 1 1] 68)) B (w.heap.size + 1) (some ⟨w.heap.size, 0, none⟩) 1 [t] [v] := by
  have hb : Below w.heap.size w ((w.alloc (.cells #[v] 81)).alloc (.cells #[.slice (some ⟨w.heap.size, 0, none⟩) 1 1] 68)) := ((Below.refl _ _).alloc (Nat.le_refl _) _).alloc (by simp) _
  refine ⟨?_, by omega, ?_, ?_, by simp, ?_, by simp, ?_, ?_⟩
  · have := heap_alloc_new (w.alloc (.cells #[v] 81)) (.cells #[.slice (some ⟨w.heap.size, 0, none⟩) 1 1] 68)
    rwa [World.size_alloc] at this
  · have := Own.lit w B 81 1 1 #[v] rfl (by decide) hB
    exact this.alloc _
  · intro i u hi
    cases i with
    | zero =>
      cases hi
      exact ⟨v, rfl, TreeAt.below hb _ _ ht⟩
    | succ i => cases hi
  · intro u hu
    rw [List.mem_singleton.1 hu]
    exact h64
  · intro u hu
    rw [List.mem_singleton.1 hu]
    exact hr
  · intro u hu
    rw [List.mem_singleton.1 hu]
    exact hn
theorem new_any (w : World) : Calls Try.prog 29 #[] w fun e w' => (∃ g A, e = .returned (.pointer (some ⟨g, 0, none⟩)) ∧ g < w'.heap.size ∧ TblL w' w.heap.size g A [[]]) ∧ Below w.heap.size w w' := by
  have hf := Lib.hid (Tbl.first (w := w) (B := w.heap.size) (t := .nil) (v := .pointer none) rfl (Nat.le_refl _) (by decide) trivial (by simp [Tr.list]))
  go_enter Try.func29, Try.ntmps29
  go_wp2_with fail
  go_ret
  exact ⟨⟨_, _, rfl, by simp, 1, [.nil], _, rfl, hf.out⟩, ((Below.refl _ _).alloc (Nat.le_refl _) _).alloc (by simp) _⟩
/-- What From answers. -/
def okL (l : List RootT) : Prop := Rise l ∧ ∀ r ∈ l, Name r.1
noncomputable def fromQ (l : List RootT) : Nat := if okL l then (if 64 < l.length then 131 else 0) else 130
theorem okL_app {a b : List RootT} (h : okL (a ++ b)) : okL a := ⟨((rise_app a b).1 h.1).1, fun r hr => h.2 r (by simp [hr])⟩
theorem okL_take {l : List RootT} (k : Nat) (h : okL l) : okL (l.take k) := by
  rw [← List.take_append_drop k l] at h
  exact okL_app h
theorem take_one {l : List RootT} {k : Nat} {x : RootT} (hx : l[k]? = some x) : l.take (k + 1) = l.take k ++ [x] := by
  rw [List.take_add_one, hx]
  rfl
theorem okL_snoc {l : List RootT} {k : Nat} {x : RootT} (hx : l[k]? = some x) (h : okL (l.take k)) (hn : Name x.1) (hp : ∀ y, 0 < k → l[k - 1]? = some y → ltS y.1 x.1 = true) : okL (l.take (k + 1)) := by
  rw [take_one hx]
  refine ⟨(rise_app _ _).2 ⟨h.1, by simp [Rise], ?_⟩, fun r hr => ?_⟩
  · intro y hy z hz
    rw [List.mem_singleton.1 hz]
    cases k with
    | zero => simp at hy
    | succ k =>
      have hl := (List.getElem?_eq_some_iff.1 hx).1
      obtain ⟨u, hu⟩ : ∃ u, l[k]? = some u := ⟨_, List.getElem?_eq_getElem (by omega)⟩
      have h1 := hp u (by omega) hu
      rw [take_one hu] at hy h
      rcases List.mem_append.1 hy with hy | hy
      · exact ltS_trans (((rise_app _ _).1 h.1).2.2 y hy u (by simp)) h1
      · rw [List.mem_singleton.1 hy]
        exact h1
  · rcases List.mem_append.1 hr with hr | hr
    · exact h.2 r hr
    · rw [List.mem_singleton.1 hr]
      exact hn
theorem okL_bad {l : List RootT} {k : Nat} {x : RootT} (hx : l[k]? = some x) (h : ¬ Name x.1 ∨ ∃ y, 0 < k ∧ l[k - 1]? = some y ∧ ltS y.1 x.1 = false) : ¬ okL l := fun ho => by
  have ho' := okL_take (k + 1) ho
  rw [take_one hx] at ho'
  rcases h with h | ⟨y, h0, hy, hlt⟩
  · exact h (ho'.2 x (by simp))
  · have hy' : y ∈ l.take k := by
      have hl := (List.getElem?_eq_some_iff.1 hy).1
      exact List.mem_of_getElem? (i := k - 1) (by rw [List.getElem?_take, if_pos (by omega)]; exact hy)
    have := ((rise_app _ _).1 ho'.1).2.2 y hy' x (by simp)
    rw [hlt] at this
    cases this
theorem isName_yes {s : ByteArray} (hs : Name s) (w : World) : Calls Try.prog 10 #[.string s] w fun e w' => e = .returned (.bool true) ∧ w = w' := by
  refine (isName_any s w).mono ?_
  rintro e w' ⟨(⟨h, _⟩ | ⟨_, h⟩), rfl⟩
  · exact ⟨h, rfl⟩
  · exact absurd hs h
theorem isName_no {s : ByteArray} (hs : ¬ Name s) (w : World) : Calls Try.prog 10 #[.string s] w fun e w' => e = .returned (.bool false) ∧ w = w' := by
  refine (isName_any s w).mono ?_
  rintro e w' ⟨(⟨_, h⟩ | ⟨h, _⟩), rfl⟩
  · exact absurd h hs
  · exact ⟨h, rfl⟩
set_option maxRecDepth 100000 in
set_option maxHeartbeats 4000000 in
theorem from_any (w : World) (l : List RootT) (A0 : Option Addr) (n c0 : Nat) (hl : l.length = n) (hn : n ≤ 4096) (hR : RowR w w.heap.size A0 l) :
    Calls Try.prog 31 #[.slice A0 n c0] w fun e w' =>
      ((fromQ l = 0 ∧ ∃ g A, e = .returned (.tuple #[.pointer (some ⟨g, 0, none⟩), .int .i64 0]) ∧ g < w'.heap.size ∧ TblL w' w.heap.size g A [l]) ∨ (fromQ l ≠ 0 ∧ e = .returned (.tuple #[.pointer none, .int .i64 (fromQ l : Nat)]))) ∧ Below w.heap.size w w' := by
  have hz := zeroRt
  have l33 : Hid (∀ r : RootT, (encR r).toArray.size = 33) := Lib.hid fun r => by simp [encR_length]
  have m33 : Hid (∀ r : RootT, (encR r).length = 33) := Lib.hid encR_length
  have hi33 : Hid ((Try.prog.info? 61).map (·.size) = some 33) := Lib.hid (by kernel_rfl)
  have hone := Lib.hid encR_all
  have hR' := Lib.hid hR
  have hl' := Lib.hid hl
  clear hR hl
  go_enter Try.func31, Try.ntmps31
  go_wp2_with fail
  go_loopw [4, 9] (fun v i wr => ∃ (k : Nat) (T : Tr) (vp : Option Addr), k ≤ n ∧ i = .int .i64 k ∧ v = .pointer vp ∧ Hid (TreeAt wr T v ∧ T.list = l.take k ∧ okL (l.take k)) ∧ Hid (Below w.heap.size w wr)) (fun _ i _ => n - (intOf i).toNat)
  case atStart => exact ⟨0, .nil, none, by omega, rfl, rfl, Lib.hid ⟨rfl, by simp [Tr.list], by simp [okL, Rise]⟩, Lib.hid (Below.refl _ _)⟩
  case round =>
    obtain ⟨k, T, vp, hk, rfl, rfl, hT, hB⟩ := hrel
    by_cases hlt : k < n
    · obtain ⟨x, hx⟩ : ∃ x, l[k]? = some x := ⟨_, List.getElem?_eq_getElem (by have := hl'.out; omega)⟩
      obtain ⟨b, off, rfl, hbb, hrg⟩ := RowR.range (Rd.below hR'.out hB.out) hx
      have hrg' := Lib.hid hrg
      have hx' := Lib.hid hx
      have hcel := Lib.hid fun cs : Array Value => setRow_heap (wr.alloc (.cells (encR rZ).toArray 61)) wr.heap.size _ cs 61 _ (heap_alloc_new wr _)
      clear hrg hx
      go_wp2_with (first
        | (refine wpList_load_mid rfl 61 _ rfl b (off + k * 33) rfl (encR x) _ hrg'.out Try.underlying61 rfl (by rw [m33.out]; exact hi33.out) ?_)
        | (refine wpList_store_row rfl 61 _ _ rfl wr.heap.size (encR x).toArray rfl rfl 61 _ (heap_alloc_new wr _) (by rw [l33.out]; exact hi33.out) (by rw [l33.out, l33.out]) (hone.out _) ?_))
      simp only [Act.put]
      obtain ⟨W1, hW1⟩ : ∃ W1, (wr.alloc (.cells (encR rZ).toArray 61)).setRow wr.heap.size (encR x).toArray = W1 := ⟨_, rfl⟩
      have hx1 := hcel.out (encR x).toArray
      have hb : Below wr.heap.size wr W1 := by
        rw [← hW1]
        exact ((Below.refl _ wr).alloc (Nat.le_refl _) _).trans ⟨rfl, rfl, rfl, by simp, fun k hk => setRow_other _ _ _ _ (by omega)⟩
      rw [hW1] at hx1 ⊢
      clear hW1 hcel hrg'
      have hB1 := Lib.hid (hB.out.trans (hb.mono hB.out.size))
      have t1 := Lib.hid (TreeAt.below hb _ _ hT.out.1)
      have dx : W1.cell? ⟨wr.heap.size, 0, none⟩ = some (.string x.1) := by simp [World.cell?, hx1, encR]
      have hx1' := Lib.hid hx1
      obtain ⟨TL, hTL⟩ : ∃ S, Hid (∀ _ : Unit, wr.heap.size = S) := ⟨_, Lib.hid fun _ => rfl⟩
      rw [hTL.out ()] at dx hx1' ⊢
      clear hb hx1
      by_cases hN : Name x.1
      · have isN := Lib.hid (isName_yes hN)
        by_cases hbad : ∃ y, 0 < k ∧ l[k - 1]? = some y ∧ ltS y.1 x.1 = false
        · have hfq : Hid (fromQ l = 130) := Lib.hid (by unfold fromQ; rw [if_neg (okL_bad hx'.out (.inr hbad))])
          obtain ⟨y, h0, hy, hlt2⟩ := hbad
          obtain ⟨k1, hk1⟩ : ∃ k1 : Nat, (k : Int) - 1 = (k1 : Int) ∧ k - 1 = k1 := ⟨k - 1, by omega, rfl⟩
          obtain ⟨hk1, hk2⟩ := hk1
          rw [hk2] at hy
          obtain ⟨b2, off2, e2, _, hry⟩ := RowR.range (Rd.below hR'.out hB1.out) hy
          cases e2
          have dy : W1.cell? ⟨b, off + k1 * 33, none⟩ = some (.string y.1) := by simpa using hry 0 _ (show (encR y)[0]? = some (.string y.1) from rfl)
          have wk : IntKind.i64.wrap (k1 : Int) = (k1 : Int) := by rw [IntKind.wrap_i64]; omega
          have gk : (0 : Int) < (k : Int) := by omega
          have b1 : (0 : Int) ≤ (k1 : Int) := by omega
          have b3 : (k1 : Int) < (n : Int) := by omega
          have gd : decide (0 < k) = true := decide_eq_true h0
          clear hry hy hk2
          have fin : ∀ (m : Nat), ((fromQ l = 0 ∧ ∃ g A, Ending.returned (.tuple #[.pointer none, .int .i64 130]) = .returned (.tuple #[.pointer (some ⟨g, 0, none⟩), .int .i64 0]) ∧ g < (W1.drewN m).heap.size ∧ TblL (W1.drewN m) w.heap.size g A [l]) ∨ (fromQ l ≠ 0 ∧ Ending.returned (.tuple #[.pointer none, .int .i64 130]) = .returned (.tuple #[.pointer none, .int .i64 (fromQ l : Nat)]))) ∧ Below w.heap.size w (W1.drewN m) := fun m => ⟨.inr ⟨by rw [hfq.out]; decide, by rw [hfq.out]; rfl⟩, below_drewN hB1.out m⟩
          have fin' := Lib.hid fin
          clear fin
          cases hlx : ltS x.1 y.1 with
          | true =>
            have q1 : Op.bytesLess x.1.toList y.1.toList = true := hlx
            go_quiet ((go_at_call 10; exact Calls.quiet_of_same ((isN.out _).mono fun _ _ h => ⟨h.1, h.2.symm⟩)))
            go_wp2_with fail
            go_ret2
            exact fin'.out _
          | false =>
            have q1 : Op.bytesLess x.1.toList y.1.toList = false := hlx
            have q2 : (x.1.toList == y.1.toList) = true := by simpa using (ltS_three hlt2 hlx).symm
            go_quiet ((go_at_call 10; exact Calls.quiet_of_same ((isN.out _).mono fun _ _ h => ⟨h.1, h.2.symm⟩)))
            go_wp2_with fail
            go_ret2
            exact fin'.out _
        · have hok : Hid (okL (l.take (k + 1))) := Lib.hid (okL_snoc hx'.out hT.out.2.2 hN fun y h0 hy => by
            cases h2 : ltS y.1 x.1 with
            | true => rfl
            | false => exact absurd ⟨y, h0, hy, h2⟩ hbad)
          have hcnt : T.cnt ≤ 900000 := by rw [← Tr.cnt_list, hT.out.2.1, List.length_take]; omega
          have hlist : Hid ((T.with_ x).list = l.take (k + 1)) := Lib.hid (by
            rw [with_list _ _ (by rw [hT.out.2.1]; exact hT.out.2.2.1), hT.out.2.1, take_one hx'.out, ← List.append_nil (l.take k), setL_past [] (l.take k) (fun y hy => ?_)]
            · simp [setL]
            · have := hok.out
              rw [take_one hx'.out] at this
              exact ((rise_app _ _).1 this.1).2.2 y hy x (by simp))
          have hw : Hid (∀ m, Calls Try.prog 49 #[.pointer vp, .agg (encR x).toArray] (W1.drewN m) fun e w' => (∃ v', e = .returned v' ∧ TreeAt w' (T.with_ x) v') ∧ Below W1.heap.size (W1.drewN m) w') := Lib.hid fun m => with_any x T (W1.drewN m) _ (t1.out.drew m) hcnt
          clear hcnt
          by_cases h0 : 0 < k
          · obtain ⟨y, hy⟩ : ∃ y, l[k - 1]? = some y := ⟨_, List.getElem?_eq_getElem (by have := hl'.out; omega)⟩
            have hlt2 : ltS y.1 x.1 = true := by
              cases h2 : ltS y.1 x.1 with
              | true => rfl
              | false => exact absurd ⟨y, h0, hy, h2⟩ hbad
            obtain ⟨k1, hk1⟩ : ∃ k1 : Nat, (k : Int) - 1 = (k1 : Int) ∧ k - 1 = k1 := ⟨k - 1, by omega, rfl⟩
            obtain ⟨hk1, hk2⟩ := hk1
            rw [hk2] at hy
            obtain ⟨b2, off2, e2, _, hry⟩ := RowR.range (Rd.below hR'.out hB1.out) hy
            cases e2
            have dy : W1.cell? ⟨b, off + k1 * 33, none⟩ = some (.string y.1) := by simpa using hry 0 _ (show (encR y)[0]? = some (.string y.1) from rfl)
            have wk : IntKind.i64.wrap (k1 : Int) = (k1 : Int) := by rw [IntKind.wrap_i64]; omega
            have gk : (0 : Int) < (k : Int) := by omega
            have b1 : (0 : Int) ≤ (k1 : Int) := by omega
            have b3 : (k1 : Int) < (n : Int) := by omega
            have q1 : Op.bytesLess x.1.toList y.1.toList = false := ltS_asymm hlt2
            have q2 : (x.1.toList == y.1.toList) = false := by simpa using lt_ne hlt2
            have gd : decide (0 < k) = true := decide_eq_true h0
            clear hry hy hk2 hbad
            go_quiet ((go_at_call 10; exact Calls.quiet_of_same ((isN.out _).mono fun _ _ h => ⟨h.1, h.2.symm⟩)))
            clear hk1 wk q1 q2 dy dx b1 b3 gk gd h0
            go_wp2_with (first
              | (refine wpList_load_row rfl 61 _ rfl TL rfl 61 (encR x).toArray (0, 0) _ hx1'.out Try.underlying61 rfl (by rw [l33.out]; exact hi33.out) ?_)
              | (go_at_call 49; refine (hw.out _).mono ?_; rintro e w2 ⟨⟨v2, rfl, t2⟩, b2⟩; obtain ⟨vp2, rfl⟩ := t2.ptr; have t2' := Lib.hid t2; have b2' := Lib.hid (hB1.out.trans ((below_drewN (Below.refl _ _) _).trans (b2.mono hB1.out.size))); clear t2 b2))
            go_roundw
            case rel => exact ⟨k + 1, T.with_ x, vp2, by omega, by go_num, rfl, Lib.hid ⟨t2'.out, hlist.out, hok.out⟩, b2'⟩
            case measure => simp [intOf]; omega
          · have hk0 : (k : Int) = 0 := by omega
            rw [hk0]
            have hk0' := Lib.hid hk0
            clear hbad h0 hk0
            go_quiet ((go_at_call 10; exact Calls.quiet_of_same ((isN.out _).mono fun _ _ h => ⟨h.1, h.2.symm⟩)))
            clear dx
            go_wp2_with (first
              | (refine wpList_load_row rfl 61 _ rfl TL rfl 61 (encR x).toArray (0, 0) _ hx1'.out Try.underlying61 rfl (by rw [l33.out]; exact hi33.out) ?_)
              | (go_at_call 49; refine (hw.out _).mono ?_; rintro e w2 ⟨⟨v2, rfl, t2⟩, b2⟩; obtain ⟨vp2, rfl⟩ := t2.ptr; have t2' := Lib.hid t2; have b2' := Lib.hid (hB1.out.trans ((below_drewN (Below.refl _ _) _).trans (b2.mono hB1.out.size))); clear t2 b2))
            go_roundw
            case rel => exact ⟨k + 1, T.with_ x, vp2, by omega, by rw [show ((k + 1 : Nat) : Int) = 1 by have := hk0'.out; omega], rfl, Lib.hid ⟨t2'.out, hlist.out, hok.out⟩, b2'⟩
            case measure => have := hk0'.out; simp [intOf]; omega
      · have isN := Lib.hid (isName_no hN)
        have hfq : Hid (fromQ l = 130) := Lib.hid (by unfold fromQ; rw [if_neg (okL_bad hx'.out (.inl hN))])
        go_quiet ((go_at_call 10; exact Calls.quiet_of_same ((isN.out _).mono fun _ _ h => ⟨h.1, h.2.symm⟩)))
        go_wp2_with fail
        go_ret2
        exact ⟨.inr ⟨by rw [hfq.out]; decide, by rw [hfq.out]; rfl⟩, below_drewN hB1.out _⟩
    · obtain rfl : k = n := by omega
      have hfull : l.take k = l := List.take_of_length_le (by rw [hl'.out]; exact Nat.le_refl _)
      rw [hfull] at hT
      by_cases h64 : 64 < k
      · have g1 : (64 : Int) < (k : Int) := by omega
        have hfq : Hid (fromQ l = 131) := Lib.hid (by unfold fromQ; rw [if_pos hT.out.2.2, if_pos (by rw [hl'.out]; exact h64)])
        go_wp2_with fail
        go_ret2
        exact ⟨.inr ⟨by rw [hfq.out]; decide, by rw [hfq.out]; rfl⟩, hB.out⟩
      · have g1 : ¬ (64 : Int) < (k : Int) := by omega
        have hfq : Hid (fromQ l = 0) := Lib.hid (by unfold fromQ; rw [if_pos hT.out.2.2, if_neg (by rw [hl'.out]; exact h64)])
        have hfst := Lib.hid (Tbl.first (B := w.heap.size) hT.out.1 hB.out.size (by rw [← Tr.cnt_list, hT.out.2.1, hl'.out]; omega) (by rw [hT.out.2.1]; exact hT.out.2.2.1) (by rw [hT.out.2.1]; exact hT.out.2.2.2))
        have hll : Hid (listsOf [T] = [l]) := Lib.hid (by simp [listsOf, hT.out.2.1])
        go_wp2_with fail
        go_ret2
        exact ⟨.inl ⟨hfq.out, wr.heap.size + 1, rfl, by simp, _, 1, [T], _, hll.out, hfst.out⟩, (hB.out.alloc hB.out.size _).alloc (Nat.le_trans hB.out.size (by simp)) _⟩
end Go.Proofs.Ytakcnkmlglkkpaa

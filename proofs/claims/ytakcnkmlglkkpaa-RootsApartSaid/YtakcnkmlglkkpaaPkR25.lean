/- The document's table: Set, Drop, From, whatever they answer. The document's From. Arrays of numbers, compared. No program is named here. -/
import Derived.Test.YtakcnkmlglkkpaaPkR24
import Derived.Test.YtakcnkmlglkkpaaPkR1
import Derived.DeepKeys2
import Derived.Laws.StructEq

namespace Go.Proofs.Ytakcnkmlglkkpaa
open Go.RowKit
set_option linter.unusedSimpArgs false
set_option linter.unusedVariables false
open Classical

section
variable {w : World} {B g c : Nat} {A : Option Addr} {L : Lists} {ps : List Value}
set_option maxRecDepth 100000 in
set_option maxHeartbeats 4000000 in
theorem dset_no (h : Doc w B g A c L ps) (s : ByteArray) (k : RKey) (hs : ¬ Name s) :
    Calls Try.prog 36 #[.pointer (some ⟨g, 0, none⟩), .string s, .agg (encKy k).toArray] w fun e w' => e = .returned (.int .i64 130) ∧ Below w.heap.size w w' := by
  have hN := Lib.hid fun W => refNamed_no hs W
  clear h
  go_enter Try.func36, Try.ntmps36
  go_wp2_with (go_at_call 11; refine (hN.out _).mono ?_; rintro e w9 ⟨rfl, rfl⟩)
  go_ret
  exact ⟨rfl, (Below.refl _ _).alloc (Nat.le_refl _) _⟩
theorem dset_full (h : Doc w B g A c L ps) (s : ByteArray) (k : RKey) (hs : Name s) (hth : thereQ s (present L) = false) (h63 : 64 ≤ (present L).length) :
    Calls Try.prog 36 #[.pointer (some ⟨g, 0, none⟩), .string s, .agg (encKy k).toArray] w fun e w' => e = .returned (.int .i64 131) ∧ Below w.heap.size w w' := by
  obtain ⟨w0, hw0⟩ : ∃ w0, Hid (∀ _ : Unit, w.alloc (.cells (encKy k).toArray 35) = w0) := ⟨_, Lib.hid fun _ => rfl⟩
  have hb0 : Hid (Below w.heap.size w w0) := Lib.hid (by rw [← hw0.out ()]; exact (Below.refl _ _).alloc (Nat.le_refl _) _)
  have hn := Lib.hid (dnow_any w0 (h.below hb0.out))
  have h64 : (present L).length ≤ 64 := h.few _ (List.mem_of_getElem? (present_last h.ne))
  have hN := Lib.hid fun W => refNamed_yes hs W
  obtain ⟨l, hl⟩ : ∃ l, Hid (∀ _ : Unit, present L = l) := ⟨_, Lib.hid fun _ => rfl⟩
  obtain ⟨n, hnn⟩ : ∃ n, Hid (∀ _ : Unit, l.length = n) := ⟨_, Lib.hid fun _ => rfl⟩
  rw [hl.out ()] at hn h64 hth h63
  rw [hnn.out ()] at hn h64 h63
  have hpl : Hid (∀ (m : Nat) (Al : Option Addr) (cl : Nat), RowR w0 w0.heap.size Al l → Calls Try.prog 54 #[.slice Al n cl, .string s] (w0.drewN m) fun e w' => e = .returned (.tuple #[.int .i64 (placeQ s l : Nat), .bool false]) ∧ ∃ m, w' = w0.drewN m) := Lib.hid fun m Al cl hR => by
    rw [← hth]
    refine (place_any (w0.drewN m) l Al n cl w0.heap.size s (hnn.out ()) (by omega) hR).mono ?_
    rintro e w' ⟨h1, m2, rfl⟩
    exact ⟨h1, m + m2, by simp⟩
  have g64 : (64 : Int) ≤ (n : Int) := by omega
  clear h hth hs
  go_enter Try.func36, Try.ntmps36
  go_wp2_with fail
  rw [hw0.out ()]
  go_wp2_with (first
    | (go_at_call 11; refine (hN.out _).mono ?_; rintro e w9 ⟨rfl, rfl⟩)
    | (go_at_call 53
       refine hn.out.mono ?_
       rintro e w1 ⟨⟨Al, cl, rfl, ol⟩, m, rfl⟩
       have hpc := Lib.hid (hpl.out m _ cl (RowR.of_own (by rw [hnn.out ()]; exact ol)))
       clear ol)
    | (go_at_call 54; refine hpc.out.mono ?_; rintro e w8 ⟨rfl, m2, rfl⟩))
  go_ret
  exact ⟨rfl, below_drewN hb0.out _⟩
theorem ddrop_no (h : Doc w B g A c L ps) (s : ByteArray) (hs : ¬ Name s) :
    Calls Try.prog 37 #[.pointer (some ⟨g, 0, none⟩), .string s] w fun e w' => e = .returned (.int .i64 130) ∧ Below w.heap.size w w' := by
  have hN := Lib.hid fun W => refNamed_no hs W
  clear h
  go_enter Try.func37, Try.ntmps37
  go_wp2_with (go_at_call 11; refine (hN.out _).mono ?_; rintro e w9 ⟨rfl, rfl⟩)
  go_ret
  exact ⟨rfl, Below.refl _ _⟩
theorem ddrop_none (h : Doc w B g A c L ps) (s : ByteArray) (hs : Name s) (hth : thereQ s (present L) = false) :
    Calls Try.prog 37 #[.pointer (some ⟨g, 0, none⟩), .string s] w fun e w' => e = .returned (.int .i64 132) ∧ Below w.heap.size w w' := by
  have hn := Lib.hid (dnow_any w h)
  have h64 : (present L).length ≤ 64 := h.few _ (List.mem_of_getElem? (present_last h.ne))
  have hN := Lib.hid fun W => refNamed_yes hs W
  obtain ⟨l, hl⟩ : ∃ l, Hid (∀ _ : Unit, present L = l) := ⟨_, Lib.hid fun _ => rfl⟩
  obtain ⟨n, hnn⟩ : ∃ n, Hid (∀ _ : Unit, l.length = n) := ⟨_, Lib.hid fun _ => rfl⟩
  rw [hl.out ()] at hn h64 hth
  rw [hnn.out ()] at hn h64
  have hpl : Hid (∀ (m : Nat) (Al : Option Addr) (cl : Nat), RowR w w.heap.size Al l → Calls Try.prog 54 #[.slice Al n cl, .string s] (w.drewN m) fun e w' => e = .returned (.tuple #[.int .i64 (placeQ s l : Nat), .bool false]) ∧ ∃ m, w' = w.drewN m) := Lib.hid fun m Al cl hR => by
    rw [← hth]
    refine (place_any (w.drewN m) l Al n cl w.heap.size s (hnn.out ()) (by omega) hR).mono ?_
    rintro e w' ⟨h1, m2, rfl⟩
    exact ⟨h1, m + m2, by simp⟩
  clear h hth hs
  go_enter Try.func37, Try.ntmps37
  go_wp2_with (first
    | (go_at_call 11; refine (hN.out _).mono ?_; rintro e w9 ⟨rfl, rfl⟩)
    | (go_at_call 53
       refine hn.out.mono ?_
       rintro e w1 ⟨⟨Al, cl, rfl, ol⟩, m, rfl⟩
       have hpc := Lib.hid (hpl.out m _ cl (RowR.of_own (by rw [hnn.out ()]; exact ol)))
       clear ol)
    | (go_at_call 54; refine hpc.out.mono ?_; rintro e w8 ⟨rfl, m2, rfl⟩))
  go_ret
  exact ⟨rfl, below_drewN (Below.refl _ _) _⟩
theorem dset_any (h : Doc w B g A c L ps) (hr : Rise (present L)) (hm : L.length < 100000) (s : ByteArray) (k : RKey) :
    Calls Try.prog 36 #[.pointer (some ⟨g, 0, none⟩), .string s, .agg (encKy k).toArray] w fun e w' => e = .returned (.int .i64 (setQ (present L) s : Nat)) ∧ ChdD w B g A (if setQ (present L) s = 0 then L ++ [setL (s, k) (present L)] else L) w' := by
  unfold setQ
  by_cases hs : Name s
  · rw [if_pos hs]
    cases hth : thereQ s (present L) with
    | true =>
      have hh := (thereQ_has hr).1 hth
      rw [if_neg (fun h => h.1 hh), if_pos rfl]
      exact dset_true w h hm s k hs hth
    | false =>
      have hh : ¬ hasL s (present L) := fun hh => by rw [(thereQ_has hr).2 hh] at hth; cases hth
      by_cases h64 : 64 ≤ (present L).length
      · rw [if_pos ⟨hh, h64⟩, if_neg (by decide)]
        refine (dset_full h s k hs hth h64).mono ?_
        rintro e w' ⟨rfl, hb⟩
        exact ⟨rfl, h.still hb⟩
      · rw [if_neg (fun h => h64 h.2), if_pos rfl]
        exact dset_false w h hm s k hs hth (by omega)
  · rw [if_neg hs, if_neg (by decide)]
    refine (dset_no h s k hs).mono ?_
    rintro e w' ⟨rfl, hb⟩
    exact ⟨rfl, h.still hb⟩
theorem ddrop_any (h : Doc w B g A c L ps) (hr : Rise (present L)) (hm : L.length < 100000) (s : ByteArray) :
    Calls Try.prog 37 #[.pointer (some ⟨g, 0, none⟩), .string s] w fun e w' => e = .returned (.int .i64 (dropQ (present L) s : Nat)) ∧ ChdD w B g A (if dropQ (present L) s = 0 then L ++ [dropL s (present L)] else L) w' := by
  unfold dropQ
  by_cases hs : Name s
  · rw [if_pos hs]
    cases hth : thereQ s (present L) with
    | true =>
      rw [if_pos ((thereQ_has hr).1 hth), if_pos rfl]
      exact ddrop_true w h hm s hs hth
    | false =>
      have hh : ¬ hasL s (present L) := fun hh => by rw [(thereQ_has hr).2 hh] at hth; cases hth
      rw [if_neg hh, if_neg (by decide)]
      refine (ddrop_none h s hs hth).mono ?_
      rintro e w' ⟨rfl, hb⟩
      exact ⟨rfl, h.still hb⟩
  · rw [if_neg hs, if_neg (by decide)]
    refine (ddrop_no h s hs).mono ?_
    rintro e w' ⟨rfl, hb⟩
    exact ⟨rfl, h.still hb⟩
end
end Go.Proofs.Ytakcnkmlglkkpaa

namespace Go.Proofs.Ytakcnkmlglkkpaa
open Go.RowKit
set_option linter.unusedSimpArgs false
set_option linter.unusedVariables false
open Classical

theorem Doc.first {w : World} {B : Nat} {l : List RootT} {Al : Option Addr} {cl : Nat} (hl : Own w B 61 33 Al l.length cl (rowsR l)) (hB : B ≤ w.heap.size) (h64 : l.length ≤ 64) :
    Doc ((w.alloc (.cells #[.slice Al l.length cl] 24)).alloc (.cells #[.slice (some ⟨w.heap.size, 0, none⟩) 1 1] 96)) B (w.heap.size + 1) (some ⟨w.heap.size, 0, none⟩) 1 [l] [.slice Al l.length cl] := by
  have hb : Below w.heap.size w ((w.alloc (.cells #[.slice Al l.length cl] 24)).alloc (.cells #[.slice (some ⟨w.heap.size, 0, none⟩) 1 1] 96)) := ((Below.refl _ _).alloc (Nat.le_refl _) _).alloc (by simp) _
  refine ⟨?_, by omega, ?_, ?_, by simp, ?_, by simp⟩
  · have := heap_alloc_new (w.alloc (.cells #[.slice Al l.length cl] 24)) (.cells #[.slice (some ⟨w.heap.size, 0, none⟩) 1 1] 96)
    rwa [World.size_alloc] at this
  · exact (Own.lit w B 24 1 1 #[.slice Al l.length cl] rfl (by decide) hB).alloc _
  · intro i u hi
    cases i with
    | zero =>
      cases hi
      exact ⟨Al, cl, rfl, hl.below hb (fun k hk => (hl.lt k hk).2)⟩
    | succ i => cases hi
  · intro u hu
    rw [List.mem_singleton.1 hu]
    exact h64
/-- What the document's From answers. -/
def DFromP (w : World) (l : List RootT) (e : Ending) (w' : World) : Prop :=
  ((fromQ l = 0 ∧ ∃ g A c ps, e = .returned (.tuple #[.pointer (some ⟨g, 0, none⟩), .int .i64 0]) ∧ Doc w' w.heap.size g A c [l] ps) ∨ (fromQ l ≠ 0 ∧ e = .returned (.tuple #[.pointer none, .int .i64 (fromQ l : Nat)]))) ∧ Below w.heap.size w w'
set_option maxRecDepth 100000 in
set_option maxHeartbeats 4000000 in
theorem dfrom_any (w : World) (l : List RootT) (A0 : Option Addr) (n c0 : Nat) (hl : l.length = n) (hn : n ≤ 4096) (hR : RowR w w.heap.size A0 l) :
    Calls Try.prog 32 #[.slice A0 n c0] w (DFromP w l) := by
  have hR' := Lib.hid hR
  have hl' := Lib.hid hl
  clear hR hl
  go_enter Try.func32, Try.ntmps32
  go_wp2_with fail
  go_loopw [4] (fun i wr => ∃ (k m : Nat), k ≤ n ∧ i = .int .i64 k ∧ wr = w.drewN m ∧ Hid (okL (l.take k))) (fun i _ => n - (intOf i).toNat)
  case atStart => exact ⟨0, 0, by omega, rfl, rfl, Lib.hid (by simp [okL, Rise])⟩
  case round =>
    obtain ⟨k, m, hk, rfl, rfl, hT⟩ := hrel
    by_cases hlt : k < n
    · obtain ⟨x, hx⟩ : ∃ x, l[k]? = some x := ⟨_, List.getElem?_eq_getElem (by have := hl'.out; omega)⟩
      obtain ⟨b, off, rfl, hbb, hrg⟩ := RowR.range hR'.out hx
      have dx : w.cell? ⟨b, off + k * 33, none⟩ = some (.string x.1) := by simpa using hrg 0 _ (show (encR x)[0]? = some (.string x.1) from rfl)
      have hx' := Lib.hid hx
      clear hrg hx
      by_cases hN : Name x.1
      · have isN := Lib.hid fun W => refNamed_yes hN W
        by_cases hbad : ∃ y, 0 < k ∧ l[k - 1]? = some y ∧ ltS y.1 x.1 = false
        · have hfq : Hid (fromQ l = 130) := Lib.hid (by unfold fromQ; rw [if_neg (okL_bad hx'.out (.inr hbad))])
          obtain ⟨y, h0, hy, hlt2⟩ := hbad
          obtain ⟨k1, hk1⟩ : ∃ k1 : Nat, (k : Int) - 1 = (k1 : Int) ∧ k - 1 = k1 := ⟨k - 1, by omega, rfl⟩
          obtain ⟨hk1, hk2⟩ := hk1
          rw [hk2] at hy
          obtain ⟨b2, off2, e2, _, hry⟩ := RowR.range hR'.out hy
          cases e2
          have dy : w.cell? ⟨b, off + k1 * 33, none⟩ = some (.string y.1) := by simpa using hry 0 _ (show (encR y)[0]? = some (.string y.1) from rfl)
          have wk : IntKind.i64.wrap (k1 : Int) = (k1 : Int) := by rw [IntKind.wrap_i64]; omega
          have gk : (0 : Int) < (k : Int) := by omega
          have b1 : (0 : Int) ≤ (k1 : Int) := by omega
          have b3 : (k1 : Int) < (n : Int) := by omega
          have b4 : (0 : Int) ≤ (k : Int) := by omega
          have b5 : (k : Int) < (n : Int) := by omega
          have gd : decide (0 < k) = true := decide_eq_true h0
          clear hry hy hk2
          cases hlx : ltS x.1 y.1 with
          | true =>
            have q1 : Op.bytesLess x.1.toList y.1.toList = true := hlx
            go_wp2_with (go_at_call 11; refine (isN.out _).mono ?_; rintro e w9 ⟨rfl, rfl⟩)
            go_quiet (fail)
            go_wp2_with fail
            go_ret2
            exact ⟨.inr ⟨by rw [hfq.out]; decide, by rw [hfq.out]; rfl⟩, below_drewN (below_drewN (Below.refl _ _) _) _⟩
          | false =>
            have q1 : Op.bytesLess x.1.toList y.1.toList = false := hlx
            have q2 : (x.1.toList == y.1.toList) = true := by simpa using (ltS_three hlt2 hlx).symm
            go_wp2_with (go_at_call 11; refine (isN.out _).mono ?_; rintro e w9 ⟨rfl, rfl⟩)
            go_quiet (fail)
            go_wp2_with fail
            go_ret2
            exact ⟨.inr ⟨by rw [hfq.out]; decide, by rw [hfq.out]; rfl⟩, below_drewN (below_drewN (Below.refl _ _) _) _⟩
        · have hok : Hid (okL (l.take (k + 1))) := Lib.hid (okL_snoc hx'.out hT.out hN fun y h0 hy => by
            cases h2 : ltS y.1 x.1 with
            | true => rfl
            | false => exact absurd ⟨y, h0, hy, h2⟩ hbad)
          by_cases h0 : 0 < k
          · obtain ⟨y, hy⟩ : ∃ y, l[k - 1]? = some y := ⟨_, List.getElem?_eq_getElem (by have := hl'.out; omega)⟩
            have hlt2 : ltS y.1 x.1 = true := by
              cases h2 : ltS y.1 x.1 with
              | true => rfl
              | false => exact absurd ⟨y, h0, hy, h2⟩ hbad
            obtain ⟨k1, hk1⟩ : ∃ k1 : Nat, (k : Int) - 1 = (k1 : Int) ∧ k - 1 = k1 := ⟨k - 1, by omega, rfl⟩
            obtain ⟨hk1, hk2⟩ := hk1
            rw [hk2] at hy
            obtain ⟨b2, off2, e2, _, hry⟩ := RowR.range hR'.out hy
            cases e2
            have dy : w.cell? ⟨b, off + k1 * 33, none⟩ = some (.string y.1) := by simpa using hry 0 _ (show (encR y)[0]? = some (.string y.1) from rfl)
            have wk : IntKind.i64.wrap (k1 : Int) = (k1 : Int) := by rw [IntKind.wrap_i64]; omega
            have gk : (0 : Int) < (k : Int) := by omega
            have b1 : (0 : Int) ≤ (k1 : Int) := by omega
            have b3 : (k1 : Int) < (n : Int) := by omega
            have b4 : (0 : Int) ≤ (k : Int) := by omega
            have b5 : (k : Int) < (n : Int) := by omega
            have gd : decide (0 < k) = true := decide_eq_true h0
            have q1 : Op.bytesLess x.1.toList y.1.toList = false := ltS_asymm hlt2
            have q2 : (x.1.toList == y.1.toList) = false := by simpa using lt_ne hlt2
            clear hry hy hk2 hbad
            go_wp2_with (go_at_call 11; refine (isN.out _).mono ?_; rintro e w9 ⟨rfl, rfl⟩)
            go_quiet (fail)
            clear hk1 wk q1 q2 dy dx b1 b3 b4 b5 gk gd h0
            go_wp2_with fail
            go_roundw
            case rel => exact ⟨k + 1, _, by omega, by go_num, by first | rfl | simp, hok⟩
            case measure => simp [intOf]; omega
          · have hk0 : (k : Int) = 0 := by omega
            have hk0' := Lib.hid hk0
            have dx0 : w.cell? ⟨b, off, none⟩ = some (.string x.1) := by
              have e0 : k = 0 := by omega
              rw [e0] at dx
              simpa using dx
            have b5 : (0 : Int) < (n : Int) := by omega
            rw [hk0]
            clear hbad h0 hk0 dx
            go_wp2_with (go_at_call 11; refine (isN.out _).mono ?_; rintro e w9 ⟨rfl, rfl⟩)
            go_quiet (fail)
            clear dx0
            go_wp2_with fail
            go_roundw
            case rel => exact ⟨k + 1, _, by omega, by rw [show ((k + 1 : Nat) : Int) = 1 by have := hk0'.out; omega], by first | rfl | simp, hok⟩
            case measure => have := hk0'.out; simp [intOf]; omega
      · have isN := Lib.hid fun W => refNamed_no hN W
        have hfq : Hid (fromQ l = 130) := Lib.hid (by unfold fromQ; rw [if_neg (okL_bad hx'.out (.inl hN))])
        go_wp2_with (go_at_call 11; refine (isN.out _).mono ?_; rintro e w9 ⟨rfl, rfl⟩)
        go_quiet (fail)
        go_wp2_with fail
        go_ret2
        exact ⟨.inr ⟨by rw [hfq.out]; decide, by rw [hfq.out]; rfl⟩, below_drewN (below_drewN (Below.refl _ _) _) _⟩
    · obtain rfl : k = n := by omega
      have hfull : l.take k = l := List.take_of_length_le (by rw [hl'.out]; exact Nat.le_refl _)
      rw [hfull] at hT
      by_cases h64 : 64 < k
      · have g1 : (64 : Int) < (k : Int) := by omega
        have hfq : Hid (fromQ l = 131) := Lib.hid (by unfold fromQ; rw [if_pos hT.out, if_pos (by rw [hl'.out]; exact h64)])
        go_wp2_with fail
        go_ret2
        exact ⟨.inr ⟨by rw [hfq.out]; decide, by rw [hfq.out]; rfl⟩, below_drewN (Below.refl _ _) _⟩
      · have g1 : ¬ (64 : Int) < (k : Int) := by omega
        have hfq : Hid (fromQ l = 0) := Lib.hid (by unfold fromQ; rw [if_pos hT.out, if_neg (by rw [hl'.out]; exact h64)])
        go_wp2_with (at_builtin; refine wpList_appR (w.drewN m) rfl _ _ rfl rfl (Own.nil _ w.heap.size _ _) l hl'.out rfl (show RowR (w.drewN m) _ _ _ from hR'.out) (by omega) (Nat.le_refl _) k (by omega) ?_
                     intro A' c' w2 o2 at2 b2
                     have o2' : Hid (Own w2 w.heap.size 61 33 A' l.length c' (rowsR l)) := Lib.hid (by rw [hl'.out]; simpa using o2)
                     have b2' := Lib.hid ((below_drewN (Below.refl w.heap.size w) m).trans b2)
                     clear o2 at2 b2)
        go_ret2
        have hf := Doc.first o2'.out b2'.out.size (by rw [hl'.out]; omega)
        rw [hl'.out] at hf
        exact ⟨.inl ⟨hfq.out, _, _, _, _, rfl, hf⟩, (b2'.out.alloc b2'.out.size _).alloc (Nat.le_trans b2'.out.size (by simp)) _⟩
end Go.Proofs.Ytakcnkmlglkkpaa

namespace Go.Proofs.Ytakcnkmlglkkpaa
open Go.RowKit

section
variable {P : Program} {w : World} {t e : TypeId} {k : IntKind} {n : Nat}
/-- An array's numbers. -/
def nrow (k : IntKind) (l : List Nat) : Array Value := (l.map fun b : Nat => Value.int k (b : Int)).toArray
theorem nrow_get {l : List Nat} {i : Nat} (h : i < l.length) : (nrow k l)[i]? = some (.int k ((l[i]?.getD 0 : Nat) : Int)) := by simp [nrow, h]
theorem eqItems_nrow (he : P.underlying e = some (.int k)) (d : Nat) {l l' : List Nat} (is : List Nat) (h : ∀ i ∈ is, i < l.length ∧ i < l'.length) :
    (Op.eqItems (d + 1) e 1 (nrow k l) (nrow k l') is).run P w = .ok (is.all fun i => l[i]?.getD 0 == l'[i]?.getD 0) w := by
  induction is with
  | nil => simp [Op.eqItems]
  | cons i is ih =>
    obtain ⟨h1, h2⟩ := h i (by simp)
    have hp : P.plainKey e = true := by simp [Program.plainKey, he]
    simp only [Op.eqItems, Sem.run_bind, Nat.mul_one, run_part_plain w hp (nrow_get h1), run_part_plain w hp (nrow_get h2), Result.andThen_ok, run_equalIn_int w d e k k _ _ he, List.all_cons]
    have hh : (((l[i]?.getD 0 : Nat) : Int) == ((l'[i]?.getD 0 : Nat) : Int)) = (l[i]?.getD 0 == l'[i]?.getD 0) := by
      rw [Bool.eq_iff_iff, beq_iff_eq, beq_iff_eq]; omega
    rw [hh]
    cases hb : (l[i]?.getD 0 == l'[i]?.getD 0)
    · simp
    · simpa using ih fun j hj => h j (by simp [hj])
theorem all_eq {l l' : List Nat} (h1 : l.length = n) (h2 : l'.length = n) : ((List.range n).all fun i => l[i]?.getD 0 == l'[i]?.getD 0) = decide (l = l') := by
  rw [Bool.eq_iff_iff, List.all_eq_true, decide_eq_true_iff]
  constructor
  · intro h
    apply List.ext_getElem (by omega)
    intro i hi hi2
    have := h i (List.mem_range.2 (by omega))
    simpa [hi, hi2] using this
  · rintro rfl i _
    simp
theorem equal_nrow (hu : P.underlying t = some (.array n e)) (he : P.underlying e = some (.int k)) (hc : P.cellsOf e = 1) {i : TypeInfo} (hi : P.info? e = some i) (d : Nat) {l l' : List Nat} (h1 : l.length = n) (h2 : l'.length = n) :
    (Op.equalIn (d + 2) t (.agg (nrow k l)) (.agg (nrow k l'))).run P w = .ok (decide (l = l')) w := by
  rw [run_equalIn_array w (d + 1) _ _ hu hi, hc, eqItems_nrow he d (List.range n) (fun i hi => by simp at hi; omega), all_eq h1 h2]
theorem eql_nrow (hu : P.underlying t = some (.array n e)) (he : P.underlying e = some (.int k)) (hc : P.cellsOf e = 1) {i : TypeInfo} (hi : P.info? e = some i) {l l' : List Nat} (h1 : l.length = n) (h2 : l'.length = n) :
    (binOp .eql t (.agg (nrow k l)) (.agg (nrow k l'))).run P w = .ok (.bool (decide (l = l'))) w := by
  rw [run_eql_struct, equal_nrow hu he hc hi 9998 h1 h2]
  rfl
theorem neq_nrow (hu : P.underlying t = some (.array n e)) (he : P.underlying e = some (.int k)) (hc : P.cellsOf e = 1) {i : TypeInfo} (hi : P.info? e = some i) {l l' : List Nat} (h1 : l.length = n) (h2 : l'.length = n) :
    (binOp .neq t (.agg (nrow k l)) (.agg (nrow k l'))).run P w = .ok (.bool (!decide (l = l'))) w := by
  rw [run_neq_struct, equal_nrow hu he hc hi 9998 h1 h2]
  rfl
end
end Go.Proofs.Ytakcnkmlglkkpaa

/- wire.Each: so many of a kind taken off a decoder. (Printed by tools/geneach.py.) Why a list's parts may not be. -/
import Derived.Test.YtkjndgapejbgcaaDoorPkD12
import Derived.Test.YtkjndgapejbgcaaDoorPkD6

namespace Go.Proofs.YtkjndgapejbgcaaDoor
open Go.RowKit
set_option linter.unusedSimpArgs false
set_option linter.unusedVariables false

def EachPost {α : Type} (enc : α → List Value) (T : TypeId) (k : Nat) (w : World) (g : Nat) (A : Option Addr) (c : Nat) (l : List Nat) (r : List α × DSt) (e : Ending) (w' : World) : Prop :=
  (∃ A' c', e = .returned (.slice A' r.1.length c') ∧ Own w' w.heap.size T k A' r.1.length c' (flat enc r.1)) ∧ DecS w' g A c l r.2 ∧ w.grownBy w' (some g)
theorem Own.gk {w w' : World} {B : Nat} {e : TypeId} {size n c : Nat} {A : Option Addr} {xs : List Value} (h : Own w B e size A n c xs) {g : Nat} (hg : w.grownBy w' (some g)) (hB : g < B) : Own w' B e size A n c xs :=
  h.kept hg fun k hk e => by have := (h.lt k hk).1; injection e with e; omega
theorem DecS.app {w w' : World} {g c : Nat} {A : Option Addr} {l : List Nat} {s : DSt} (h : DecS w g A c l s) {B : Nat} {e : TypeId} {size n c1 : Nat} {A1 A2 : Option Addr} {xs : List Value} (ha : AppAt w w' A1 A2) (ho : Own w B e size A1 n c1 xs)
    (he : e ≠ 100 ∧ e ≠ 114) (hab : ∀ j, blockOf A = some j → j < B) : DecS w' g A c l s := by
  refine h.grown ha.grown fun N hN => ⟨?_, fun e => by have := hab N e; have := (ho.lt N hN).1; omega⟩
  rcases ho.2 with ⟨hv, _⟩ | ⟨g0, cap, cur, hv, _, hh, _⟩
  · injection hv with hA
    subst hA
    cases hN
  · injection hv with hA
    subst hA
    simp only [blockOf, Option.map_some, Option.some.injEq] at hN
    subst hN
    exact ⟨_, _, _, hh, he.1, he.2⟩

theorem builtP (x : PartT) : Tryd.prog.builtSlice 47 1 [(0, .agg (encP x).toArray)] = some (encP x).toArray := by
  obtain ⟨i, hi, hz0, hz1, _⟩ := info_parts elP.hi
  unfold Program.builtSlice
  simp only [hi, hz0, hz1]
  rw [if_neg (by decide)]
  refine Eq.trans (b := some (([Value.agg (encP x).toArray]).flatMap fun v => v.cells.toList).toArray) (Great.fill_whole (s := 33) (by decide) [.agg (encP x).toArray] _ ?_ ?_) ?_
  · intro v hv
    simp at hv
    subst hv
    simp [Value.cells, encP_length]
  · simp
  · simp [Value.cells]
set_option maxRecDepth 20000 in
set_option maxHeartbeats 4000000 in
theorem eachP_any {w : World} {g c : Nat} {A : Option Addr} {l : List Nat} {s : DSt} (h : DecS w g A c l s) (most : Nat) (hm : most ≤ 1024) :
    Calls Tryd.prog 80 #[.pointer (some ⟨g, 0, none⟩), .int .i64 (most : Int), .func (.func 81) #[] #[]] w (EachPost encP 47 33 w g A c l (eachM (partM l) l most s)) := by
  have hov := Lib.hid (over_any h)
  obtain ⟨RR, hRR⟩ : ∃ R, Hid (∀ _ : Unit, eachM (partM l) l most s = R) := ⟨_, Lib.hid fun _ => rfl⟩
  rw [hRR.out ()]
  cases s with
  | none =>
    have h' := Lib.hid h
    clear h
    go_enter Tryd.func80, Tryd.ntmps80
    go_wp2_with (refine hov.out.mono ?_; rintro e w' ⟨rfl, rfl⟩)
    go_ret
    rw [← hRR.out ()]
    unfold EachPost eachM
    rw [varM_none]
    simp only [loopM_none, if_true]
    exact ⟨⟨none, 0, rfl, Own.nil _ _ _ _⟩, h'.out, grown_drewN w 0 _⟩
  | some k =>
    have hmx : IntKind.u64.wrap (most : Int) = (most : Int) := by rw [IntKind.wrap_u64]; omega
    have hmx2 : max (0 : Int) (most : Int) = (most : Int) := by omega
    have hml := varM_most l most (some k)
    obtain ⟨n, s1, hv⟩ : ∃ n s1, Hid (varM l most (some k) = (n, s1)) := ⟨_, _, Lib.hid rfl⟩
    have hvc := vard_any h most (by omega)
    rw [hv.out] at hvc hml
    simp only at hml
    have hvc' := Lib.hid hvc
    have hab := Lib.hid h.ab
    have hgl := Lib.hid h.gl
    have hEach : Hid (eachM (partM l) l most (some k) = (if (loopM (partM l) n s1).2 = none then [] else (loopM (partM l) n s1).1, (loopM (partM l) n s1).2)) := Lib.hid (by unfold eachM; rw [hv.out])
    obtain ⟨LR, hLR⟩ : ∃ R, Hid (∀ _ : Unit, loopM (partM l) n s1 = R) := ⟨_, Lib.hid fun _ => rfl⟩
    have hnf : ∀ W, (binOp .eql 105 (.func (.func 81) #[] #[]) .nilFunc).run Tryd.prog W = .ok (.bool false) W := fun W => by kernel_rfl
    clear h hvc
    go_enter Tryd.func80, Tryd.ntmps80
    go_wp2_with (refine hov.out.mono ?_; rintro e w' ⟨rfl, rfl⟩)
    clear hov
    refine hvc'.out.mono ?_
    rintro e w2 ⟨rfl, d2, g2⟩
    have d2' := Lib.hid d2
    have g2' := Lib.hid g2
    clear d2 g2 hvc'
    go_wp2_with fail
    go_loopw [7, 8] (fun ov nv wr => ∃ (m j : Nat) (xs : List PartT) (A1 : Option Addr) (c1 : Nat) (s2 : DSt), m + j ≤ 1024 ∧ nv = .int .u64 (m : Int) ∧ ov = .slice A1 j c1 ∧ xs.length = j ∧ Hid (DecS wr g A c l s2) ∧ Hid (w.grownBy wr (some g)) ∧ Hid (Own wr w.heap.size 47 33 A1 j c1 (flat encP xs)) ∧ Hid ((xs ++ (loopM (partM l) m s2).1, (loopM (partM l) m s2).2) = LR)) (fun _ nv _ => (intOf nv).toNat)
    case atStart => exact ⟨n, 0, [], none, 0, s1, by omega, rfl, rfl, rfl, d2', g2', Lib.hid (Own.nil _ _ _ _), Lib.hid (by rw [← hLR.out ()]; simp)⟩
    case round =>
      clear d2' g2'
      obtain ⟨m, j, xs, A1, c1, s2, hmj, rfl, rfl, hxj, hd, hg, ho, hL⟩ := hrel
      have hov2 := Lib.hid (over_any hd.out)
      rcases Nat.eq_zero_or_pos m with h0 | h0
      · subst h0
        have hL2 : Hid ((xs, s2) = LR) := Lib.hid (by have := hL.out; simpa [loopM] using this)
        clear hL
        cases s2 with
        | none =>
          go_wp2_with (refine hov2.out.mono ?_; rintro e w' ⟨rfl, rfl⟩)
          go_ret
          rw [← hRR.out (), hEach.out, hLR.out (), ← hL2.out]
          exact ⟨⟨none, 0, rfl, Own.nil _ _ _ _⟩, hd.out, hg.out⟩
        | some k2 =>
          go_wp2_with (refine hov2.out.mono ?_; rintro e w' ⟨rfl, rfl⟩)
          go_ret
          rw [← hRR.out (), hEach.out, hLR.out (), ← hL2.out]
          subst hxj
          exact ⟨⟨A1, c1, rfl, ho.out⟩, hd.out, hg.out⟩
      · have hmz : (0 : Int) < (m : Int) := by omega
        cases s2 with
        | none =>
          have hL2 : Hid ((xs, none) = LR) := Lib.hid (by have := hL.out; rw [loopM_none] at this; simpa using this)
          clear hL
          go_wp2_with (refine hov2.out.mono ?_; rintro e w' ⟨rfl, rfl⟩)
          go_ret
          rw [← hRR.out (), hEach.out, hLR.out (), ← hL2.out]
          exact ⟨⟨none, 0, rfl, Own.nil _ _ _ _⟩, hd.out, hg.out⟩
        | some k2 =>
          obtain ⟨m1, rfl⟩ : ∃ m1, m = m1 + 1 := ⟨m - 1, by omega⟩
          have hw1 : IntKind.u64.wrap (m1 : Int) = (m1 : Int) := by rw [IntKind.wrap_u64]; omega
          obtain ⟨x, s3, hx⟩ : ∃ x s', Hid (partM l (some k2) = (x, s')) := ⟨_, _, Lib.hid rfl⟩
          have hone := partD_any hd.out
          rw [hx.out] at hone
          have hone' := Lib.hid hone
          have hL2 : Hid (((xs ++ [x]) ++ (loopM (partM l) m1 s3).1, (loopM (partM l) m1 s3).2) = LR) := Lib.hid (by
            have := hL.out
            simp only [loopM, hx.out] at this
            rw [List.append_assoc]
            exact this)
          have hbl := builtP x
          clear hL hone
          go_wp2_with (first
            | (go_at_call 74; refine hov2.out.mono ?_; rintro e w' ⟨rfl, rfl⟩)
            | (go_at_call 81
               refine hone'.out.mono ?_
               rintro e w3 ⟨rfl, d3, g3⟩
               have d3' := Lib.hid d3
               have g3' := Lib.hid (hg.out.trans g3)
               have o3' := Lib.hid (ho.out.gk g3 hgl.out)
               clear d3 g3)
            | (refine Great.wpList_buildSliceTo rfl 25 47 1 _ rfl _ rfl _ rfl Tryd.underlying25 (encP x).toArray (by rw [List.map_toArray]; exact builtP x) ?_)
            | (at_builtin; refine wpList_app1 elP _ (encP x).toArray (by simp [encP_length]) rfl _ _ rfl rfl o3'.out rfl (by intro u hu; exact encP_one _ u (by simpa using hu)) (by unfold maxLen; omega) (by omega) g3'.out.size (j + 1) rfl (flat encP (xs ++ [x])) (by rw [flat_append]; simp [flat]) ?_
               intro A4 c4 w4 o4 at4 b4
               have d4' := Lib.hid (d3'.out.app at4 o3'.out (by decide) hab.out)
               have g4' : Hid (w.grownBy w4 (some g)) := Lib.hid ⟨b4.os.trans g3'.out.os, b4.tape.trans g3'.out.tape, b4.output.trans g3'.out.output, Nat.le_trans g3'.out.size b4.size, fun z hz hne => (b4.block z hz).trans (g3'.out.block z hz hne)⟩
               have o4' := Lib.hid o4
               clear o4 at4 b4))
          go_roundw
          case rel => exact ⟨m1, j + 1, xs ++ [x], A4, c4, s3, by omega, by go_num, rfl, by simp [hxj], d4', g4', o4', hL2⟩
          case measure => simp [intOf]

theorem builtI (x : ItemT) : Tryd.prog.builtSlice 50 1 [(0, .agg (encI x).toArray)] = some (encI x).toArray := by
  obtain ⟨i, hi, hz0, hz1, _⟩ := info_parts elI.hi
  unfold Program.builtSlice
  simp only [hi, hz0, hz1]
  rw [if_neg (by decide)]
  refine Eq.trans (b := some (([Value.agg (encI x).toArray]).flatMap fun v => v.cells.toList).toArray) (Great.fill_whole (s := 35) (by decide) [.agg (encI x).toArray] _ ?_ ?_) ?_
  · intro v hv
    simp at hv
    subst hv
    simp [Value.cells, encI_length]
  · simp
  · simp [Value.cells]
set_option maxRecDepth 20000 in
set_option maxHeartbeats 4000000 in
theorem eachI_any {w : World} {g c : Nat} {A : Option Addr} {l : List Nat} {s : DSt} (h : DecS w g A c l s) (most : Nat) (hm : most ≤ 1024) :
    Calls Tryd.prog 83 #[.pointer (some ⟨g, 0, none⟩), .int .i64 (most : Int), .func (.func 84) #[] #[]] w (EachPost encI 50 35 w g A c l (eachM (itemM l) l most s)) := by
  have hov := Lib.hid (over_any h)
  obtain ⟨RR, hRR⟩ : ∃ R, Hid (∀ _ : Unit, eachM (itemM l) l most s = R) := ⟨_, Lib.hid fun _ => rfl⟩
  rw [hRR.out ()]
  cases s with
  | none =>
    have h' := Lib.hid h
    clear h
    go_enter Tryd.func83, Tryd.ntmps83
    go_wp2_with (refine hov.out.mono ?_; rintro e w' ⟨rfl, rfl⟩)
    go_ret
    rw [← hRR.out ()]
    unfold EachPost eachM
    rw [varM_none]
    simp only [loopM_none, if_true]
    exact ⟨⟨none, 0, rfl, Own.nil _ _ _ _⟩, h'.out, grown_drewN w 0 _⟩
  | some k =>
    have hmx : IntKind.u64.wrap (most : Int) = (most : Int) := by rw [IntKind.wrap_u64]; omega
    have hmx2 : max (0 : Int) (most : Int) = (most : Int) := by omega
    have hml := varM_most l most (some k)
    obtain ⟨n, s1, hv⟩ : ∃ n s1, Hid (varM l most (some k) = (n, s1)) := ⟨_, _, Lib.hid rfl⟩
    have hvc := vard_any h most (by omega)
    rw [hv.out] at hvc hml
    simp only at hml
    have hvc' := Lib.hid hvc
    have hab := Lib.hid h.ab
    have hgl := Lib.hid h.gl
    have hEach : Hid (eachM (itemM l) l most (some k) = (if (loopM (itemM l) n s1).2 = none then [] else (loopM (itemM l) n s1).1, (loopM (itemM l) n s1).2)) := Lib.hid (by unfold eachM; rw [hv.out])
    obtain ⟨LR, hLR⟩ : ∃ R, Hid (∀ _ : Unit, loopM (itemM l) n s1 = R) := ⟨_, Lib.hid fun _ => rfl⟩
    have hnf : ∀ W, (binOp .eql 107 (.func (.func 84) #[] #[]) .nilFunc).run Tryd.prog W = .ok (.bool false) W := fun W => by kernel_rfl
    clear h hvc
    go_enter Tryd.func83, Tryd.ntmps83
    go_wp2_with (refine hov.out.mono ?_; rintro e w' ⟨rfl, rfl⟩)
    clear hov
    refine hvc'.out.mono ?_
    rintro e w2 ⟨rfl, d2, g2⟩
    have d2' := Lib.hid d2
    have g2' := Lib.hid g2
    clear d2 g2 hvc'
    go_wp2_with fail
    go_loopw [7, 8] (fun ov nv wr => ∃ (m j : Nat) (xs : List ItemT) (A1 : Option Addr) (c1 : Nat) (s2 : DSt), m + j ≤ 1024 ∧ nv = .int .u64 (m : Int) ∧ ov = .slice A1 j c1 ∧ xs.length = j ∧ Hid (DecS wr g A c l s2) ∧ Hid (w.grownBy wr (some g)) ∧ Hid (Own wr w.heap.size 50 35 A1 j c1 (flat encI xs)) ∧ Hid ((xs ++ (loopM (itemM l) m s2).1, (loopM (itemM l) m s2).2) = LR)) (fun _ nv _ => (intOf nv).toNat)
    case atStart => exact ⟨n, 0, [], none, 0, s1, by omega, rfl, rfl, rfl, d2', g2', Lib.hid (Own.nil _ _ _ _), Lib.hid (by rw [← hLR.out ()]; simp)⟩
    case round =>
      clear d2' g2'
      obtain ⟨m, j, xs, A1, c1, s2, hmj, rfl, rfl, hxj, hd, hg, ho, hL⟩ := hrel
      have hov2 := Lib.hid (over_any hd.out)
      rcases Nat.eq_zero_or_pos m with h0 | h0
      · subst h0
        have hL2 : Hid ((xs, s2) = LR) := Lib.hid (by have := hL.out; simpa [loopM] using this)
        clear hL
        cases s2 with
        | none =>
          go_wp2_with (refine hov2.out.mono ?_; rintro e w' ⟨rfl, rfl⟩)
          go_ret
          rw [← hRR.out (), hEach.out, hLR.out (), ← hL2.out]
          exact ⟨⟨none, 0, rfl, Own.nil _ _ _ _⟩, hd.out, hg.out⟩
        | some k2 =>
          go_wp2_with (refine hov2.out.mono ?_; rintro e w' ⟨rfl, rfl⟩)
          go_ret
          rw [← hRR.out (), hEach.out, hLR.out (), ← hL2.out]
          subst hxj
          exact ⟨⟨A1, c1, rfl, ho.out⟩, hd.out, hg.out⟩
      · have hmz : (0 : Int) < (m : Int) := by omega
        cases s2 with
        | none =>
          have hL2 : Hid ((xs, none) = LR) := Lib.hid (by have := hL.out; rw [loopM_none] at this; simpa using this)
          clear hL
          go_wp2_with (refine hov2.out.mono ?_; rintro e w' ⟨rfl, rfl⟩)
          go_ret
          rw [← hRR.out (), hEach.out, hLR.out (), ← hL2.out]
          exact ⟨⟨none, 0, rfl, Own.nil _ _ _ _⟩, hd.out, hg.out⟩
        | some k2 =>
          obtain ⟨m1, rfl⟩ : ∃ m1, m = m1 + 1 := ⟨m - 1, by omega⟩
          have hw1 : IntKind.u64.wrap (m1 : Int) = (m1 : Int) := by rw [IntKind.wrap_u64]; omega
          obtain ⟨x, s3, hx⟩ : ∃ x s', Hid (itemM l (some k2) = (x, s')) := ⟨_, _, Lib.hid rfl⟩
          have hone := item_any hd.out
          rw [hx.out] at hone
          have hone' := Lib.hid hone
          have hL2 : Hid (((xs ++ [x]) ++ (loopM (itemM l) m1 s3).1, (loopM (itemM l) m1 s3).2) = LR) := Lib.hid (by
            have := hL.out
            simp only [loopM, hx.out] at this
            rw [List.append_assoc]
            exact this)
          have hbl := builtI x
          clear hL hone
          go_wp2_with (first
            | (go_at_call 74; refine hov2.out.mono ?_; rintro e w' ⟨rfl, rfl⟩)
            | (go_at_call 84
               refine hone'.out.mono ?_
               rintro e w3 ⟨rfl, d3, g3⟩
               have d3' := Lib.hid d3
               have g3' := Lib.hid (hg.out.trans g3)
               have o3' := Lib.hid (ho.out.gk g3 hgl.out)
               clear d3 g3)
            | (refine Great.wpList_buildSliceTo rfl 26 50 1 _ rfl _ rfl _ rfl Tryd.underlying26 (encI x).toArray (by rw [List.map_toArray]; exact builtI x) ?_)
            | (at_builtin; refine wpList_app1 elI _ (encI x).toArray (by simp [encI_length]) rfl _ _ rfl rfl o3'.out rfl (by intro u hu; exact encI_one _ u (by simpa using hu)) (by unfold maxLen; omega) (by omega) g3'.out.size (j + 1) rfl (flat encI (xs ++ [x])) (by rw [flat_append]; simp [flat]) ?_
               intro A4 c4 w4 o4 at4 b4
               have d4' := Lib.hid (d3'.out.app at4 o3'.out (by decide) hab.out)
               have g4' : Hid (w.grownBy w4 (some g)) := Lib.hid ⟨b4.os.trans g3'.out.os, b4.tape.trans g3'.out.tape, b4.output.trans g3'.out.output, Nat.le_trans g3'.out.size b4.size, fun z hz hne => (b4.block z hz).trans (g3'.out.block z hz hne)⟩
               have o4' := Lib.hid o4
               clear o4 at4 b4))
          go_roundw
          case rel => exact ⟨m1, j + 1, xs ++ [x], A4, c4, s3, by omega, by go_num, rfl, by simp [hxj], d4', g4', o4', hL2⟩
          case measure => simp [intOf]

theorem builtK (x : Key32) : Tryd.prog.builtSlice 28 1 [(0, .agg (encK x).toArray)] = some (encK x).toArray := by
  obtain ⟨i, hi, hz0, hz1, _⟩ := info_parts elK.hi
  unfold Program.builtSlice
  simp only [hi, hz0, hz1]
  rw [if_neg (by decide)]
  refine Eq.trans (b := some (([Value.agg (encK x).toArray]).flatMap fun v => v.cells.toList).toArray) (Great.fill_whole (s := 32) (by decide) [.agg (encK x).toArray] _ ?_ ?_) ?_
  · intro v hv
    simp at hv
    subst hv
    simp [Value.cells, encK_length]
  · simp
  · simp [Value.cells]
set_option maxRecDepth 20000 in
set_option maxHeartbeats 4000000 in
theorem eachK_any {w : World} {g c : Nat} {A : Option Addr} {l : List Nat} {s : DSt} (h : DecS w g A c l s) (most : Nat) (hm : most ≤ 1024) :
    Calls Tryd.prog 87 #[.pointer (some ⟨g, 0, none⟩), .int .i64 (most : Int), .func (.func 86) #[] #[]] w (EachPost encK 28 32 w g A c l (eachM (keyM l) l most s)) := by
  have hov := Lib.hid (over_any h)
  obtain ⟨RR, hRR⟩ : ∃ R, Hid (∀ _ : Unit, eachM (keyM l) l most s = R) := ⟨_, Lib.hid fun _ => rfl⟩
  rw [hRR.out ()]
  cases s with
  | none =>
    have h' := Lib.hid h
    clear h
    go_enter Tryd.func87, Tryd.ntmps87
    go_wp2_with (refine hov.out.mono ?_; rintro e w' ⟨rfl, rfl⟩)
    go_ret
    rw [← hRR.out ()]
    unfold EachPost eachM
    rw [varM_none]
    simp only [loopM_none, if_true]
    exact ⟨⟨none, 0, rfl, Own.nil _ _ _ _⟩, h'.out, grown_drewN w 0 _⟩
  | some k =>
    have hmx : IntKind.u64.wrap (most : Int) = (most : Int) := by rw [IntKind.wrap_u64]; omega
    have hmx2 : max (0 : Int) (most : Int) = (most : Int) := by omega
    have hml := varM_most l most (some k)
    obtain ⟨n, s1, hv⟩ : ∃ n s1, Hid (varM l most (some k) = (n, s1)) := ⟨_, _, Lib.hid rfl⟩
    have hvc := vard_any h most (by omega)
    rw [hv.out] at hvc hml
    simp only at hml
    have hvc' := Lib.hid hvc
    have hab := Lib.hid h.ab
    have hgl := Lib.hid h.gl
    have hEach : Hid (eachM (keyM l) l most (some k) = (if (loopM (keyM l) n s1).2 = none then [] else (loopM (keyM l) n s1).1, (loopM (keyM l) n s1).2)) := Lib.hid (by unfold eachM; rw [hv.out])
    obtain ⟨LR, hLR⟩ : ∃ R, Hid (∀ _ : Unit, loopM (keyM l) n s1 = R) := ⟨_, Lib.hid fun _ => rfl⟩
    have hnf : ∀ W, (binOp .eql 110 (.func (.func 86) #[] #[]) .nilFunc).run Tryd.prog W = .ok (.bool false) W := fun W => by kernel_rfl
    clear h hvc
    go_enter Tryd.func87, Tryd.ntmps87
    go_wp2_with (refine hov.out.mono ?_; rintro e w' ⟨rfl, rfl⟩)
    clear hov
    refine hvc'.out.mono ?_
    rintro e w2 ⟨rfl, d2, g2⟩
    have d2' := Lib.hid d2
    have g2' := Lib.hid g2
    clear d2 g2 hvc'
    go_wp2_with fail
    go_loopw [7, 8] (fun ov nv wr => ∃ (m j : Nat) (xs : List Key32) (A1 : Option Addr) (c1 : Nat) (s2 : DSt), m + j ≤ 1024 ∧ nv = .int .u64 (m : Int) ∧ ov = .slice A1 j c1 ∧ xs.length = j ∧ Hid (DecS wr g A c l s2) ∧ Hid (w.grownBy wr (some g)) ∧ Hid (Own wr w.heap.size 28 32 A1 j c1 (flat encK xs)) ∧ Hid ((xs ++ (loopM (keyM l) m s2).1, (loopM (keyM l) m s2).2) = LR)) (fun _ nv _ => (intOf nv).toNat)
    case atStart => exact ⟨n, 0, [], none, 0, s1, by omega, rfl, rfl, rfl, d2', g2', Lib.hid (Own.nil _ _ _ _), Lib.hid (by rw [← hLR.out ()]; simp)⟩
    case round =>
      clear d2' g2'
      obtain ⟨m, j, xs, A1, c1, s2, hmj, rfl, rfl, hxj, hd, hg, ho, hL⟩ := hrel
      have hov2 := Lib.hid (over_any hd.out)
      rcases Nat.eq_zero_or_pos m with h0 | h0
      · subst h0
        have hL2 : Hid ((xs, s2) = LR) := Lib.hid (by have := hL.out; simpa [loopM] using this)
        clear hL
        cases s2 with
        | none =>
          go_wp2_with (refine hov2.out.mono ?_; rintro e w' ⟨rfl, rfl⟩)
          go_ret
          rw [← hRR.out (), hEach.out, hLR.out (), ← hL2.out]
          exact ⟨⟨none, 0, rfl, Own.nil _ _ _ _⟩, hd.out, hg.out⟩
        | some k2 =>
          go_wp2_with (refine hov2.out.mono ?_; rintro e w' ⟨rfl, rfl⟩)
          go_ret
          rw [← hRR.out (), hEach.out, hLR.out (), ← hL2.out]
          subst hxj
          exact ⟨⟨A1, c1, rfl, ho.out⟩, hd.out, hg.out⟩
      · have hmz : (0 : Int) < (m : Int) := by omega
        cases s2 with
        | none =>
          have hL2 : Hid ((xs, none) = LR) := Lib.hid (by have := hL.out; rw [loopM_none] at this; simpa using this)
          clear hL
          go_wp2_with (refine hov2.out.mono ?_; rintro e w' ⟨rfl, rfl⟩)
          go_ret
          rw [← hRR.out (), hEach.out, hLR.out (), ← hL2.out]
          exact ⟨⟨none, 0, rfl, Own.nil _ _ _ _⟩, hd.out, hg.out⟩
        | some k2 =>
          obtain ⟨m1, rfl⟩ : ∃ m1, m = m1 + 1 := ⟨m - 1, by omega⟩
          have hw1 : IntKind.u64.wrap (m1 : Int) = (m1 : Int) := by rw [IntKind.wrap_u64]; omega
          obtain ⟨x, s3, hx⟩ : ∃ x s', Hid (keyM l (some k2) = (x, s')) := ⟨_, _, Lib.hid rfl⟩
          have hone := keyd_any hd.out
          rw [hx.out] at hone
          have hone' := Lib.hid hone
          have hL2 : Hid (((xs ++ [x]) ++ (loopM (keyM l) m1 s3).1, (loopM (keyM l) m1 s3).2) = LR) := Lib.hid (by
            have := hL.out
            simp only [loopM, hx.out] at this
            rw [List.append_assoc]
            exact this)
          have hbl := builtK x
          clear hL hone
          go_wp2_with (first
            | (go_at_call 74; refine hov2.out.mono ?_; rintro e w' ⟨rfl, rfl⟩)
            | (go_at_call 86
               refine hone'.out.mono ?_
               rintro e w3 ⟨rfl, d3, g3⟩
               have d3' := Lib.hid d3
               have g3' := Lib.hid (hg.out.trans g3)
               have o3' := Lib.hid (ho.out.gk g3 hgl.out)
               clear d3 g3)
            | (refine Great.wpList_buildSliceTo rfl 29 28 1 _ rfl _ rfl _ rfl Tryd.underlying29 (encK x).toArray (by rw [List.map_toArray]; exact builtK x) ?_)
            | (at_builtin; refine wpList_app1 elK _ (encK x).toArray (by simp [encK_length]) rfl _ _ rfl rfl o3'.out rfl (by intro u hu; exact encK_one _ u (by simpa using hu)) (by unfold maxLen; omega) (by omega) g3'.out.size (j + 1) rfl (flat encK (xs ++ [x])) (by rw [flat_append]; simp [flat]) ?_
               intro A4 c4 w4 o4 at4 b4
               have d4' := Lib.hid (d3'.out.app at4 o3'.out (by decide) hab.out)
               have g4' : Hid (w.grownBy w4 (some g)) := Lib.hid ⟨b4.os.trans g3'.out.os, b4.tape.trans g3'.out.tape, b4.output.trans g3'.out.output, Nat.le_trans g3'.out.size b4.size, fun z hz hne => (b4.block z hz).trans (g3'.out.block z hz hne)⟩
               have o4' := Lib.hid o4
               clear o4 at4 b4))
          go_roundw
          case rel => exact ⟨m1, j + 1, xs ++ [x], A4, c4, s3, by omega, by go_num, rfl, by simp [hxj], d4', g4', o4', hL2⟩
          case measure => simp [intOf]

end Go.Proofs.YtkjndgapejbgcaaDoor

namespace Go.Proofs.YtkjndgapejbgcaaDoor
open Go.RowKit
set_option linter.unusedSimpArgs false

/-- Do the sizes' sums stay in bounds? -/
def partsB : Nat → List PartT → Bool
  | _, [] => true
  | s, x :: l => decide (s + x.2 ≤ 9223372036854775807) && partsB (s + x.2) l
theorem partsB_at {s : Nat} {l : List PartT} {k : Nat} (hk : k < l.length) : partsB s (l.drop k) = (decide (s + l[k].2 ≤ 9223372036854775807) && partsB (s + l[k].2) (l.drop (k + 1))) := by
  rw [List.drop_eq_getElem_cons hk]
  rfl

set_option maxRecDepth 100000 in
set_option maxHeartbeats 2000000 in
theorem parts_any (w : World) (l : List PartT) (A : Option Addr) (n c : Nat) (hn0 : l.length = n) (hr : Row encP 33 w w.heap.size A l) (hok : ∀ x ∈ l, x.2 < 18446744073709551616) (hl : n ≤ 140737488355328) :
    Calls Tryd.prog 64 #[.slice A n c] w fun e w' => e = .returned (.int .i64 (if partsB 0 l then 0 else 47)) ∧ Below w.heap.size w w' := by
  have hi33 : (Tryd.prog.info? 47).map (·.size) = some 33 := by kernel_rfl
  have hi33' := Lib.hid hi33
  have zP := zeroP
  have hr' := Lib.hid hr
  have hok' := Lib.hid hok
  have hn := Lib.hid (fun _ : Unit => hn0)
  obtain ⟨R, hR⟩ : ∃ R, partsB 0 l = R := ⟨_, rfl⟩
  have hR' : Hid (partsB 0 (l.drop 0) = R) := Lib.hid hR
  rw [hR]
  clear hi33 hr hok hn0 hR
  go_enter Tryd.func64, Tryd.ntmps64
  go_wp2_with fail
  go_loopw [3, 8] (fun sv iv wr => ∃ (k s : Nat), k ≤ n ∧ iv = .int .i64 (k : Int) ∧ sv = .int .u64 (s : Int) ∧ s ≤ 9223372036854775807 ∧ Hid (partsB s (l.drop k) = R) ∧ Hid (Below w.heap.size w wr)) (fun _ iv _ => n - (intOf iv).toNat)
  case atStart => exact ⟨0, 0, by omega, rfl, rfl, by omega, hR', Lib.hid (Below.refl _ _)⟩
  case round =>
    clear hR'
    obtain ⟨k, s, hk, rfl, rfl, hs, hR, hB⟩ := hrel
    by_cases hlt : k < n
    · have hkx : k < l.length := by rw [hn.out ()]; exact hlt
      obtain ⟨b, off, rfl, _, hc⟩ := Row.elem (Rd.below hr'.out hB.out) encP_length (by decide) hkx
      have hRk := hR.out
      rw [partsB_at hkx] at hRk
      have hzl := hok'.out _ (List.getElem_mem hkx)
      obtain ⟨x, hx⟩ : ∃ x, l[k] = x := ⟨_, rfl⟩
      rw [hx] at hc hRk hzl
      obtain ⟨z, hz⟩ : ∃ z, x.2 = z := ⟨_, rfl⟩
      rw [hz] at hRk hzl
      have hrg := Lib.hid (show wr.rangeAt b (off + k * 33) (encP x) from fun j v hv => hc j v hv)
      have hnw := row_new wr 47 (encP (zK, 0)).toArray (encP x).toArray
      have hN := Lib.hid hnw.1
      have hNb := Lib.hid (hnw.2 _ (show w.heap.size ≤ wr.heap.size from hB.out.size))
      have hxs' := Lib.hid (show (encP x).toArray.size = 33 by simp [encP_length])
      have hzs' := Lib.hid (show (encP (zK, 0)).toArray.size = 33 by simp [encP_length])
      have hone' := Lib.hid (show (encP x).toArray.all (·.oneCell') = true from all_oneCell_toArray (encP_one x))
      have h32' := Lib.hid (show (encP x)[32]? = some (.int .u64 (z : Int)) by simp [encP, u8s, x.1.2, hz])
      clear hc hnw hx hkx hR hz
      have hm : (∀ _ : Unit, 9223372036854775807 < (z : Int)) ∨ (z : Int) ≤ 9223372036854775807 := by
        by_cases h : z ≤ 9223372036854775807
        · right; omega
        · left; intro _; omega
      by_cases hz1 : (z : Int) ≤ 9223372036854775807
      · by_cases hz2 : (s : Int) + (z : Int) ≤ 9223372036854775807
        · have hRn : Hid (partsB (s + z) (l.drop (k + 1)) = R) := Lib.hid (by rw [decide_eq_true (show s + z ≤ 9223372036854775807 by omega), Bool.true_and] at hRk; exact hRk)
          clear hRk hm
          go_wp2_with (first
            | (refine wpList_load_mid rfl 47 _ rfl b (off + k * 33) rfl (encP x) _ hrg.out Tryd.underlying47 rfl (by rw [encP_length]; exact hi33'.out) ?_)
            | (refine wpList_store_row rfl 47 _ _ rfl wr.heap.size (encP x).toArray rfl rfl 47 _ (heap_alloc_new wr _) (by rw [hxs'.out]; exact hi33'.out) (by rw [hxs'.out, hzs'.out]) hone'.out ?_
               generalize ((wr.alloc (.cells (encP (zK, 0)).toArray 47)).setRow wr.heap.size (encP x).toArray) = w2 at hN hNb ⊢
               have c32 : w2.cell? ⟨wr.heap.size, 32, none⟩ = some (.int .u64 (z : Int)) := (cell_of_row _ _ _ _ _ _ hN.out).trans (by simpa using h32'.out)))
          go_roundw
          case rel => exact ⟨k + 1, s + z, by omega, by go_num, by go_num, by omega, hRn, Lib.hid (hB.out.trans hNb.out)⟩
          case measure => simp [intOf]; omega
        · have hRn : R = false := by rw [decide_eq_false (show ¬ s + z ≤ 9223372036854775807 by omega), Bool.false_and] at hRk; exact hRk.symm
          subst hRn
          have hz2 : 9223372036854775807 < (s : Int) + (z : Int) := by omega
          clear hRk hm
          go_wp2_with (first
            | (refine wpList_load_mid rfl 47 _ rfl b (off + k * 33) rfl (encP x) _ hrg.out Tryd.underlying47 rfl (by rw [encP_length]; exact hi33'.out) ?_)
            | (refine wpList_store_row rfl 47 _ _ rfl wr.heap.size (encP x).toArray rfl rfl 47 _ (heap_alloc_new wr _) (by rw [hxs'.out]; exact hi33'.out) (by rw [hxs'.out, hzs'.out]) hone'.out ?_
               generalize ((wr.alloc (.cells (encP (zK, 0)).toArray 47)).setRow wr.heap.size (encP x).toArray) = w2 at hN hNb ⊢
               have c32 : w2.cell? ⟨wr.heap.size, 32, none⟩ = some (.int .u64 (z : Int)) := (cell_of_row _ _ _ _ _ _ hN.out).trans (by simpa using h32'.out)))
          go_ret
          exact ⟨rfl, hB.out.trans hNb.out⟩
      · have hRn : R = false := by rw [decide_eq_false (show ¬ s + z ≤ 9223372036854775807 by omega), Bool.false_and] at hRk; exact hRk.symm
        subst hRn
        have hz1 : 9223372036854775807 < (z : Int) := by omega
        clear hRk hm
        go_wp2_with (first
          | (refine wpList_load_mid rfl 47 _ rfl b (off + k * 33) rfl (encP x) _ hrg.out Tryd.underlying47 rfl (by rw [encP_length]; exact hi33'.out) ?_)
          | (refine wpList_store_row rfl 47 _ _ rfl wr.heap.size (encP x).toArray rfl rfl 47 _ (heap_alloc_new wr _) (by rw [hxs'.out]; exact hi33'.out) (by rw [hxs'.out, hzs'.out]) hone'.out ?_
             generalize ((wr.alloc (.cells (encP (zK, 0)).toArray 47)).setRow wr.heap.size (encP x).toArray) = w2 at hN hNb ⊢
             have c32 : w2.cell? ⟨wr.heap.size, 32, none⟩ = some (.int .u64 (z : Int)) := (cell_of_row _ _ _ _ _ _ hN.out).trans (by simpa using h32'.out)))
        go_ret
        exact ⟨rfl, hB.out.trans hNb.out⟩
    · obtain rfl : k = n := by omega
      have hRn : R = true := by
        have := hR.out
        rw [List.drop_eq_nil_of_le (by rw [hn.out ()]; exact Nat.le_refl _)] at this
        exact this.symm
      subst hRn
      go_wp2_with fail
      go_ret
      exact ⟨rfl, hB.out⟩

set_option maxRecDepth 100000 in
set_option maxHeartbeats 2000000 in
theorem refParts_any (w : World) (l : List PartT) (A : Option Addr) (n c : Nat) (hn0 : l.length = n) (hr : Row encP 33 w w.heap.size A l) (hok : ∀ x ∈ l, x.2 < 18446744073709551616) (hl : n ≤ 140737488355328) :
    Calls Tryd.prog 43 #[.slice A n c] w fun e w' => e = .returned (.int .i64 (if partsB 0 l then 0 else 47)) ∧ w = w' := by
  have hr' := Lib.hid hr
  have hok' := Lib.hid hok
  have hn := Lib.hid (fun _ : Unit => hn0)
  obtain ⟨R, hR⟩ : ∃ R, partsB 0 l = R := ⟨_, rfl⟩
  have hR' : Hid (partsB 0 (l.drop 0) = R) := Lib.hid hR
  rw [hR]
  clear hr hok hn0 hR
  go_enter Tryd.func43, Tryd.ntmps43
  go_wp2_with fail
  go_loop [3, 4] (fun sv iv => ∃ (k s : Nat), k ≤ n ∧ iv = .int .i64 (k : Int) ∧ sv = .int .u64 (s : Int) ∧ s ≤ 9223372036854775807 ∧ Hid (partsB s (l.drop k) = R)) (fun _ iv => n - (intOf iv).toNat)
  case atStart => exact ⟨0, 0, by omega, rfl, rfl, by omega, hR'⟩
  case round =>
    clear hR'
    obtain ⟨k, s, hk, rfl, rfl, hs, hR⟩ := hrel
    by_cases hlt : k < n
    · have hkx : k < l.length := by rw [hn.out ()]; exact hlt
      obtain ⟨b, off, rfl, _, hc⟩ := Row.elem hr'.out encP_length (by decide) hkx
      have hRk := hR.out
      rw [partsB_at hkx] at hRk
      have hzl := hok'.out _ (List.getElem_mem hkx)
      obtain ⟨x, hx⟩ : ∃ x, l[k] = x := ⟨_, rfl⟩
      rw [hx] at hc hRk hzl
      obtain ⟨z, hz⟩ : ∃ z, x.2 = z := ⟨_, rfl⟩
      rw [hz] at hRk hzl
      have c32 : w.cell? ⟨b, off + k * 33 + 32, none⟩ = some (.int .u64 (z : Int)) := hc 32 _ (by simp [encP, u8s, x.1.2, hz])
      have hws : IntKind.u64.wrap (9223372036854775807 - (s : Int)) = ((9223372036854775807 - s : Nat) : Int) := by rw [IntKind.wrap_u64]; omega
      clear hc hx hkx hR hz
      by_cases hz2 : s + z ≤ 9223372036854775807
      · have hRn : Hid (partsB (s + z) (l.drop (k + 1)) = R) := Lib.hid (by rw [decide_eq_true hz2, Bool.true_and] at hRk; exact hRk)
        have hle : (z : Int) ≤ ((9223372036854775807 - s : Nat) : Int) := by omega
        clear hRk
        go_wp2_with fail
        go_round
        case rel => exact ⟨k + 1, s + z, by omega, by go_num, by go_num, by omega, hRn⟩
        case measure => simp [intOf]; omega
      · have hRn : R = false := by rw [decide_eq_false hz2, Bool.false_and] at hRk; exact hRk.symm
        subst hRn
        have hle : ((9223372036854775807 - s : Nat) : Int) < (z : Int) := by omega
        clear hRk
        go_wp2_with fail
        go_ret
        exact ⟨rfl, rfl⟩
    · obtain rfl : k = n := by omega
      have hRn : R = true := by
        have := hR.out
        rw [List.drop_eq_nil_of_le (by rw [hn.out ()]; exact Nat.le_refl _)] at this
        exact this.symm
      subst hRn
      go_wp2_with fail
      go_ret
      exact ⟨rfl, rfl⟩
end Go.Proofs.YtkjndgapejbgcaaDoor

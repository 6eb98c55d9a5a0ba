/- FrameExact: the document's End. -/
import Derived.Test.YtjofpjioaiamhaaFxU
namespace Go.Proofs.Ytjofpjioaiamhaa
open Go.RowKit

set_option maxRecDepth 20000 in
set_option maxHeartbeats 2000000 in
theorem end2_any (l : List Nat) (A : Option Addr) (n c B : Nat) (w : World) (hl : ∀ b ∈ l, b < 256) (hn : l.length = n) (hnm : n ≤ 281474976710656) (hB : B ≤ w.heap.size) (h : Byt w B A l) :
    Calls Try.prog 34 #[.slice A n c] w fun e w' => e = .returned (.tuple #[.int .i64 ((endAns l).1 : Nat), .int .i64 ((endAns l).2 : Nat)]) ∧ Below w.heap.size w w' := by
  have hl' := Lib.hid hl
  have hn' := Lib.hid hn
  have h' := Lib.hid h
  clear hl hn h
  go_enter Try.func34, Try.ntmps34
  go_wp2_with fail
  go_loopw [4] (fun i wr => ∃ (pre : List (Nat × List Nat)) (p : Nat), p ≤ n ∧ i = .int .i64 p ∧ Hid (Recs l pre p) ∧ Hid (Below w.heap.size w wr)) (fun i _ => n - (intOf i).toNat)
  case atStart => exact ⟨[], 0, by omega, rfl, Lib.hid .nil, Lib.hid (Below.refl _ _)⟩
  case round =>
    obtain ⟨pre, p, hp, rfl, hrec, hbel⟩ := hrel
    have hdoc := Lib.hid (endDoc hrec.out)
    by_cases hlt : p < n
    · have hu := unpack2_any l (p : Int) A n c B wr hl'.out hn'.out hnm (Nat.le_trans hB hbel.out.size) (h'.out.below (hbel.out.mono hB))
      have e1 : unpL l (p : Int) = unpF (l.drop p) := by
        unfold unpL
        rw [if_neg (by rw [hn'.out]; omega)]
        rfl
      rw [e1] at hu
      by_cases he : (unpF (l.drop p)).1 = 0
      · have hs := unpF_size he
        have hrec2 := hrec.out.snoc he
        have hdl : (l.drop p).length = n - p := by rw [List.length_drop, hn'.out]
        have hrec2' := Lib.hid hrec2
        rw [hdl] at hs
        have hu' := Lib.hid hu
        clear hrec2 hu hrec e1 hdoc
        generalize unpF (l.drop p) = r at hs hrec2' hu' he
        obtain ⟨err, size, body⟩ := r
        simp only at hs he
        obtain ⟨rfl, hs2, hs3⟩ := hs
        subst he
        go_wp2_with (go_at_call 32; refine hu'.out.mono ?_; rintro e w1 ⟨A1, c1, rfl, o1, hb1⟩)
        go_roundw
        case rel => exact ⟨_, p + (10 + body.length), by omega, by go_num, hrec2', Lib.hid (hbel.out.trans (hb1.mono hbel.out.size))⟩
        case measure => simp [intOf]; omega
      · have hans := Lib.hid (hdoc.out.2 (by rw [hn'.out]; exact hlt) he)
        have hu' := Lib.hid hu
        clear hu hrec e1 hdoc
        generalize unpF (l.drop p) = r at hans hu' he
        obtain ⟨err, size, body⟩ := r
        simp only at he hans
        have he1 : ((err : Int) != 0) = true := by simp; omega
        go_wp2_with (go_at_call 32; refine hu'.out.mono ?_; rintro e w1 ⟨A1, c1, rfl, o1, hb1⟩)
        go_ret2
        rw [hans.out]
        exact ⟨rfl, hbel.out.trans (hb1.mono hbel.out.size)⟩
    · obtain rfl : p = n := by omega
      have hans := Lib.hid (hdoc.out.1 hn'.out.symm)
      go_wp2_with fail
      go_ret2
      rw [hans.out]
      exact ⟨rfl, hbel.out⟩
end Go.Proofs.Ytjofpjioaiamhaa

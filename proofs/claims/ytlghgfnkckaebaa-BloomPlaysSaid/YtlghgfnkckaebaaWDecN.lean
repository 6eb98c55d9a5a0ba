/- A decoder's methods: next, Raw, Key, Open. -/
import Derived.Test.YtlghgfnkckaebaaWDecS
namespace Go.Proofs.Ytlghgfnkckaebaa
open Go.RowKit
set_option linter.unusedSimpArgs false
set_option linter.unusedVariables false

def cutD (A : Option Addr) (k c : Nat) : Option Addr := if c = k then A else A.map (·.add k)
theorem slice_cut (A : Option Addr) (L c lo hi : Nat) (H : Int) (hH : H = (hi : Int)) (h1 : lo ≤ hi) (h2 : hi ≤ c) (W : World) :
    (Instr.slice 39 (.slice A L c) (some (.int .i64 (lo : Int))) (some (.int .i64 H)) none).run Try.prog W = .ok (.slice (cutD A lo c) (hi - lo) (c - lo)) W := by
  subst hH
  have hs : (sizeOf (Try.prog.elem 39)).run Try.prog W = .ok 1 W := by kernel_rfl
  rw [run_slice_lh W 39 _ L c (by rw [Try.underlying39]; kernel_rfl) .i64 .i64 (lo : Int) (hi : Int) (by omega) (by omega) (by omega), hs]
  simp only [Result.andThen, sliced, Int.toNat_natCast, cutD, Nat.mul_one]
theorem byt_cut {w : World} {B k n c : Nat} {A : Option Addr} {l : List Nat} (h : Byt w B A l) (hc : l.length ≤ c) (hn : n ≤ l.length - k) : Byt w B (cutD A k c) ((l.drop k).take n) := by
  by_cases hk : k ≤ l.length
  · have h3 : Rd w B (cutD A k c) (l.length - k) (fun j => .int .u8 ((l[k + j]?.getD 0 : Nat) : Int)) := Rd.cut h hk hc
    have h4 := h3.take hn
    have hl : ((l.drop k).take n).length = n := by rw [List.length_take, List.length_drop]; omega
    unfold Byt
    rw [hl]
    refine h4.congr fun j hj => ?_
    rw [List.getElem?_take_of_lt hj, List.getElem?_drop]
  · have h0 : n = 0 := by omega
    subst h0
    exact byt_nil' _ _ _
where byt_nil' (w : World) (B : Nat) (A : Option Addr) : Byt w B A (List.take 0 (l.drop k)) := fun h => absurd h (by simp)

set_option maxRecDepth 20000 in
set_option maxHeartbeats 1000000 in
theorem next_ok {w : World} {g c k : Nat} {A : Option Addr} {l : List Nat} (h : DecAt w g A c l k none) (n : Nat) (hn : n ≤ l.length - k) (z : Int) :
    Calls Try.prog 70 #[.pointer (some ⟨g, 0, none⟩), .int .i64 (n : Int), .int .i64 z] w fun e w' => (∃ A' c', e = .returned (.slice A' n c') ∧ Byt w' w'.heap.size A' ((l.drop k).take n) ∧ n ≤ c') ∧ DecAt w' g A c l (k + n) none ∧ w.grownBy w' (some g) := by
  have h' := Lib.hid h
  obtain ⟨L, hL⟩ : ∃ n, Hid (∀ _ : Unit, l.length = n) := ⟨_, Lib.hid fun _ => rfl⟩
  have c0 := h.c0
  have c1 := h.c1
  have f1 := h.fz 1
  have hle := h.le
  have hcap := h.cap
  rw [hL.out ()] at c0 hle hcap hn
  have w1 : IntKind.i64.wrap ((L : Int) - (k : Int)) = (L : Int) - (k : Int) := IntWalk.i64_in _ (by omega)
  have w2 : IntKind.i64.wrap ((k : Int) + (n : Int)) = (k : Int) + (n : Int) := IntWalk.i64_in _ (by omega)
  have hnl : (n : Int) ≤ (L : Int) - (k : Int) := by omega
  have hsl := fun W => slice_cut A L c k (k + n) ((k : Int) + (n : Int)) (by omega) (by omega) (by omega) W
  rw [show k + n - k = n by omega] at hsl
  have hmv : Hid (∀ q : Nat, DecAt ((w.drewN q).setCell ⟨g, 1, none⟩ (.int .i64 ((k : Int) + (n : Int)))) g A c l (k + n) none ∧ w.grownBy ((w.drewN q).setCell ⟨g, 1, none⟩ (.int .i64 ((k : Int) + (n : Int)))) (some g)) := Lib.hid (fun q => by
    have := (h.drewN q).move (k' := k + n) (by rw [hL.out ()]; omega)
    rw [Int.natCast_add] at this
    exact ⟨this.1, (grown_drewN w q _).trans this.2⟩)
  have hby : Hid (∀ W : World, DecAt W g A c l (k + n) none → Byt W W.heap.size (cutD A k c) ((l.drop k).take n)) := Lib.hid fun W hd => byt_cut hd.byt hd.cap.1 (by rw [hL.out ()]; exact hn)
  have hcn : Hid (n ≤ c - k) := Lib.hid (by omega)
  have ww1 : IntKind.i64.wrap (k : Int) = (k : Int) := IntWalk.i64_in _ (by omega)
  clear h
  go_enter Try.func70, Try.ntmps70
  go_wp2_with fail
  go_quiet (fail)
  go_wp2_with fail
  go_quiet (fail)
  go_wp2_with fail
  go_ret
  exact ⟨⟨_, _, rfl, hby.out _ (DecAt.drewN (hmv.out _).1 _), hcn.out⟩, DecAt.drewN (hmv.out _).1 _, (hmv.out _).2.trans (grown_drewN _ _ _)⟩
theorem next_no {w : World} {g c k : Nat} {A : Option Addr} {l : List Nat} (h : DecAt w g A c l k none) (n : Nat) (hn : l.length - k < n) (hn2 : n ≤ 4611686018427387904) (z : Int) :
    Calls Try.prog 70 #[.pointer (some ⟨g, 0, none⟩), .int .i64 (n : Int), .int .i64 z] w fun e w' => e = .returned (.slice none 0 0) ∧ DecS w' g A c l none ∧ w.grownBy w' (some g) := by
  have h' := Lib.hid h
  obtain ⟨L, hL⟩ : ∃ n, Hid (∀ _ : Unit, l.length = n) := ⟨_, Lib.hid fun _ => rfl⟩
  have c0 := h.c0
  have c1 := h.c1
  have hle := h.le
  have hcap := h.cap
  rw [hL.out ()] at c0 hle hcap hn
  have w1 : IntKind.i64.wrap ((L : Int) - (k : Int)) = (L : Int) - (k : Int) := IntWalk.i64_in _ (by omega)
  have hnl : (L : Int) - (k : Int) < (n : Int) := by omega
  clear h
  go_enter Try.func70, Try.ntmps70
  go_wp2_with fail
  go_quiet (fail)
  go_wp2_with fail
  refine (stop_any (DecAt.drewN h'.out _) _ _).mono ?_
  rintro e w2 ⟨⟨v, rfl⟩, h2, g2⟩
  have h2' := Lib.hid h2
  have g2' := Lib.hid ((grown_drewN w _ _).trans g2)
  clear h2 g2
  go_wp2_with fail
  go_ret
  exact ⟨rfl, h2'.out, g2'.out⟩
end Go.Proofs.Ytlghgfnkckaebaa

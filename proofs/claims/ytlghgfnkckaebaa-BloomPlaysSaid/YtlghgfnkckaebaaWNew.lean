/- New filters: the program's, the document's. -/
import Derived.Test.YtlghgfnkckaebaaWByt
namespace Go.Proofs.Ytlghgfnkckaebaa
open Go.RowKit
set_option linter.unusedSimpArgs false
set_option linter.unusedVariables false

def bls (l : List Bool) : List Value := l.map Value.bool
theorem bls_length (l : List Bool) : (bls l).length = l.length := by simp [bls]
theorem elL : ElemOk Try.prog 24 4 (.bool false) 1 1 := ⟨Try.underlying24, by kernel_rfl, rfl, by decide⟩
/-- The document's filter: its bits, its hashes. -/
structure RFlt (w : World) (B g : Nat) (A : Option Addr) (c : Nat) (l : List Bool) (h : Nat) : Prop where
  blk : w.heap[g]? = some (.cells #[.slice A l.length c, .int .i64 (h : Int)] 89 (0, 0))
  gB : B ≤ g
  own : Own w B 4 1 A l.length c (bls l)
  h1 : 1 ≤ h
  h16 : h ≤ 16
  n1 : 64 ≤ l.length
  nm : l.length ≤ 1048576
  md : l.length % 64 = 0
section
variable {w w' : World} {B g h c : Nat} {A : Option Addr} {l : List Bool}
theorem RFlt.lt_ (f : RFlt w B g A c l h) : g < w.heap.size := lt_of_block f.blk
theorem RFlt.c0 (f : RFlt w B g A c l h) : w.cell? ⟨g, 0, none⟩ = some (.slice A l.length c) := cell_of_row _ _ _ _ _ _ f.blk
theorem RFlt.c1 (f : RFlt w B g A c l h) : w.cell? ⟨g, 1, none⟩ = some (.int .i64 (h : Int)) := cell_of_row _ _ _ _ _ _ f.blk
theorem RFlt.fz (f : RFlt w B g A c l h) (j : Nat) : w.frozen? ⟨g, j, none⟩ = false := by simp [World.frozen?, f.blk]
theorem RFlt.below (f : RFlt w B g A c l h) (hb : Below w.heap.size w w') : RFlt w' B g A c l h :=
  { f with blk := (hb.block g f.lt_).trans f.blk, own := f.own.below hb fun k hk => (f.own.lt k hk).2 }
theorem RFlt.base {B' : Nat} (f : RFlt w B g A c l h) (hB : B' ≤ B) : RFlt w B' g A c l h :=
  { f with gB := Nat.le_trans hB f.gB, own := f.own.base hB }
theorem RFlt.ne (f : RFlt w B g A c l h) : blockOf A ≠ some g := fun he => by
  obtain ⟨k, rfl⟩ := f.own.head (by have := f.n1; omega)
  obtain ⟨_, q⟩ := f.own
  rcases q with ⟨q, _⟩ | ⟨k2, cap, cur, hv, _, hc, _⟩
  · cases q
  · injection hv with hv
    injection hv with hv
    injection hv with hv _ _
    subst hv
    injection he with he
    have he : k = g := he
    rw [he, f.blk] at hc
    injection hc with hc
    injection hc with _ hc _
    exact absurd hc (by decide)
end
theorem buildFn (A : Option Addr) (n c : Nat) (h : Int) (w : World) : (Instr.build 55 #[(0, .slice A n c), (1, .int .i64 h)]).run Try.prog w = .ok (.agg #[.slice A n c, .int .i64 h]) w := run_build w _ _ _ (by kernel_rfl)
theorem buildRf (A : Option Addr) (n c : Nat) (h : Int) (w : World) : (Instr.build 89 #[(0, .slice A n c), (1, .int .i64 h)]).run Try.prog w = .ok (.agg #[.slice A n c, .int .i64 h]) w := run_build w _ _ _ (by kernel_rfl)
theorem shp_nat {b h : Int} (hs : shp b h) : ∃ n H : Nat, b = ((64 * n : Nat) : Int) ∧ h = (H : Int) ∧ 1 ≤ H ∧ H ≤ 16 ∧ 1 ≤ n ∧ n ≤ 16384 := by
  obtain ⟨h1, h2, h3, h4, h5⟩ := hs
  exact ⟨(b / 64).toNat, h.toNat, by omega, by omega, by omega, by omega, by omega, by omega⟩
set_option maxRecDepth 20000 in
set_option maxHeartbeats 1000000 in
theorem fnew_yes (n H : Nat) (hH1 : 1 ≤ H) (hH2 : H ≤ 16) (hn1 : 1 ≤ n) (hn2 : n ≤ 16384) (w : World) : Calls Try.prog 23 #[.int .i64 ((64 * n : Nat) : Int), .int .i64 (H : Int)] w fun e w' =>
    (∃ g A c, e = .returned (.tuple #[.pointer (some ⟨g, 0, none⟩), .int .i64 0]) ∧ Flt w' w.heap.size g A c (List.replicate n 0) H) ∧ Below w.heap.size w w' := by
  have hs : Hid (∀ W, Calls Try.prog 43 #[.int .i64 ((64 * n : Nat) : Int), .int .i64 (H : Int)] W fun e w' => e = .returned (.bool true) ∧ W = w') := Lib.hid fun W => by
    have := shaped_any ((64 * n : Nat) : Int) (H : Int) W
    rwa [decide_eq_true (show shp ((64 * n : Nat) : Int) (H : Int) from ⟨by omega, by omega, by omega, by omega, by omega⟩)] at this
  have hbf := buildFn
  have hq : (((64 * n : Nat) : Int)).tdiv 64 = (n : Int) := by rw [Int.tdiv_eq_ediv_of_nonneg (by omega)]; omega
  obtain ⟨N, hN⟩ : ∃ N, 64 * n = N := ⟨_, rfl⟩
  rw [hN] at hs hq ⊢
  clear hN
  go_enter Try.func23, Try.ntmps23
  go_wp2_with (first
    | (go_at_call 43; refine (hs.out _).mono ?_; rintro e w2 ⟨rfl, rfl⟩)
    | (at_make; refine wpList_mk el64 w rfl _ _ rfl rfl rfl n n (by omega) (by omega) (by omega) (by omega) (by unfold maxLen; omega) (Nat.le_refl _) ?_; intro w1 hown1 hg1 hb1 hs1; rw [made_one _ rfl] at hown1; have ho := Lib.hid hown1; have hb := Lib.hid hb1; have hs1' := Lib.hid hs1; clear hown1 hg1 hb1 hs1))
  go_ret2
  have he : List.replicate n (Value.int .u64 0) = u64s (List.replicate n 0) := by simp [u64s]
  have h1 := ho.out
  rw [he] at h1
  have hnb : Below w1.heap.size w1 (w1.alloc (.cells #[.slice (some ⟨w.heap.size, 0, none⟩) n n, .int .i64 (H : Int)] 55)) := (Below.refl _ _).alloc (Nat.le_refl _) _
  have hsz := hs1'.out
  refine ⟨⟨w1.heap.size, _, n, by rw [hsz]; rfl, ⟨by rw [List.length_replicate]; exact heap_alloc_new w1 _, by omega, ((h1.below hnb fun k hk => (h1.lt k hk).2).rowU (List.length_replicate ..) (Nat.le_refl _)), hH1, hH2, by simpa using hn1, by simpa using hn2, by simp, fun x hx => by rw [(List.mem_replicate.1 hx).2]; decide⟩⟩, hb.out.trans (hnb.mono (by omega))⟩
set_option maxRecDepth 20000 in
theorem fnew_no {b h : Int} (hno : ¬ shp b h) (w : World) : Calls Try.prog 23 #[.int .i64 b, .int .i64 h] w fun e w' => e = .returned (.tuple #[.pointer none, .int .i64 70]) ∧ w = w' := by
  have hs : Hid (∀ W, Calls Try.prog 43 #[.int .i64 b, .int .i64 h] W fun e w' => e = .returned (.bool false) ∧ W = w') := Lib.hid fun W => by
    have := shaped_any b h W
    rwa [decide_eq_false hno] at this
  clear hno
  go_enter Try.func23, Try.ntmps23
  go_wp2_with (go_at_call 43; refine (hs.out _).mono ?_; rintro e w2 ⟨rfl, rfl⟩)
  go_ret2
  exact ⟨rfl, rfl⟩
set_option maxRecDepth 20000 in
set_option maxHeartbeats 1000000 in
theorem rnew_yes (n H : Nat) (hH1 : 1 ≤ H) (hH2 : H ≤ 16) (hn1 : 1 ≤ n) (hn2 : n ≤ 16384) (w : World) : Calls Try.prog 47 #[.int .i64 ((64 * n : Nat) : Int), .int .i64 (H : Int)] w fun e w' =>
    (∃ g A c, e = .returned (.pointer (some ⟨g, 0, none⟩)) ∧ RFlt w' w.heap.size g A c (List.replicate (64 * n) false) H) ∧ Below w.heap.size w w' := by
  have hs : Hid (∀ W, Calls Try.prog 27 #[.int .i64 ((64 * n : Nat) : Int), .int .i64 (H : Int)] W fun e w' => e = .returned (.bool true) ∧ W = w') := Lib.hid fun W => by
    have := refMay_any ((64 * n : Nat) : Int) (H : Int) W
    rwa [decide_eq_true (show shp ((64 * n : Nat) : Int) (H : Int) from ⟨by omega, by omega, by omega, by omega, by omega⟩)] at this
  have hbf := buildRf
  obtain ⟨N, hN⟩ : ∃ N, 64 * n = N := ⟨_, rfl⟩
  rw [hN] at hs ⊢
  have hN' := Lib.hid hN
  have hNm : N ≤ 1048576 := by omega
  clear hN
  go_enter Try.func47, Try.ntmps47
  go_wp2_with (first
    | (go_at_call 27; refine (hs.out _).mono ?_; rintro e w2 ⟨rfl, rfl⟩)
    | (at_make; refine wpList_mk elL w rfl _ _ rfl rfl rfl N N (by omega) (by omega) (by omega) (by omega) (by unfold maxLen; omega) (Nat.le_refl _) ?_; intro w1 hown1 hg1 hb1 hs1; rw [made_one _ rfl] at hown1; have ho := Lib.hid hown1; have hb := Lib.hid hb1; have hs1' := Lib.hid hs1; clear hown1 hg1 hb1 hs1))
  go_ret
  have he : List.replicate N (Value.bool false) = bls (List.replicate N false) := by simp [bls]
  have h1 := ho.out
  rw [he] at h1
  have hnb : Below w1.heap.size w1 (w1.alloc (.cells #[.slice (some ⟨w.heap.size, 0, none⟩) N N, .int .i64 (H : Int)] 89)) := (Below.refl _ _).alloc (Nat.le_refl _) _
  have hsz := hs1'.out
  have hN2 := hN'.out
  refine ⟨⟨w1.heap.size, _, N, by rw [hsz]; rfl, ⟨by rw [List.length_replicate]; exact heap_alloc_new w1 _, by omega, by rw [List.length_replicate]; exact h1.below hnb fun k hk => (h1.lt k hk).2, hH1, hH2, by rw [List.length_replicate]; omega, by rw [List.length_replicate]; omega, by rw [List.length_replicate]; omega⟩⟩, hb.out.trans (hnb.mono (by omega))⟩
set_option maxRecDepth 20000 in
theorem rnew_no {b h : Int} (hno : ¬ shp b h) (w : World) : Calls Try.prog 47 #[.int .i64 b, .int .i64 h] w fun e w' => e = .returned (.pointer none) ∧ w = w' := by
  have hs : Hid (∀ W, Calls Try.prog 27 #[.int .i64 b, .int .i64 h] W fun e w' => e = .returned (.bool false) ∧ W = w') := Lib.hid fun W => by
    have := refMay_any b h W
    rwa [decide_eq_false hno] at this
  clear hno
  go_enter Try.func47, Try.ntmps47
  go_wp2_with (go_at_call 27; refine (hs.out _).mono ?_; rintro e w2 ⟨rfl, rfl⟩)
  go_ret
  exact ⟨rfl, rfl⟩
end Go.Proofs.Ytlghgfnkckaebaa

/- ShaBlocks: the argument opened. -/
import Derived.Test.YtfibfaablpoilaaDoorBlocks
import Derived.Test.YtfibfaablpoilaaDoorTabs
import Derived.Test.YtfibfaablpoilaaDoorArgs
import Derived.ProofKit
import Derived.OpenShut
namespace Go.Proofs.YtfibfaablpoilaaDoor
open Go.RowKit

theorem cell_u32s {H : Type} {enc : TypeId × Value → H} {P : Program} {W : World} {base : Nat} {spare : Nat → Bool} {held : Bool} {t e : TypeId} {fuel : Nat} {c0 : Value} {y : DataW H × List MemPlace} (ht : P.underlying t = some (.slice e)) (he : P.underlying e = some (.int .u32)) (hc : P.cellsOf e = 1)
    (h : DataW.trod enc P W base spare held fuel t [c0] = some y) :
    ∃ (A : Option Addr) (cap : Nat) (l : List Nat), c0 = .slice A l.length cap ∧ l.length ≤ cap ∧ cap ≤ maxLen ∧ Wds W W.heap.size A l ∧ Held y.1 l.length ∧ ∀ z ∈ l, z < 4294967296 := by
  obtain ⟨A, cap, zs, rfl, h1, h2, h3, h4, h5⟩ := cell_slice1 (fun z : Nat => .int .u32 (z : Int)) (ok := fun z => z < 4294967296) ht hc (fun n c y hy => by
    obtain ⟨b, hb, _, hw⟩ := DataW.trod_int he hy
    have hw2 : 0 ≤ b ∧ b < 4294967296 := by
      simp [Lit.wf, IntKind.min, IntKind.max, IntKind.signed, IntKind.bits] at hw
      omega
    exact ⟨b.toNat, by simp only [List.cons.injEq, and_true] at hb; rw [hb, Int.toNat_of_nonneg hw2.1], by omega⟩) 0 h
  exact ⟨A, cap, zs, rfl, h1, h2, h3, h4, h5⟩

theorem array2 {cs : Array Value} (h : cs.size = 2) : ∃ c0 c1, cs = #[c0, c1] := by
  obtain ⟨l⟩ := cs
  match l, h with
  | [c0, c1], _ => exact ⟨c0, c1, rfl⟩
theorem list2 {α : Type} {l : List α} (h : l.length = 2) : ∃ a b, l = [a, b] := by
  match l, h with
  | [a, b], _ => exact ⟨a, b, rfl⟩

set_option maxRecDepth 100000 in
open Go.ChangeShapes Go.WideShapes in
theorem state_open {H : Type} {enc : TypeId × Value → H} (W : World) (base : Nat) (v0 : Value) (d0 : DataW H) (p0 : List MemPlace)
    (o0 : Value.okWide Tryd.prog W .any base 25 v0) (h0 : DataW.Trod enc Tryd.prog W 0 (fun _ => true) true 25 v0 d0 p0)
    (hsz : (DataW.weightsEach Tryd.prog [25] [d0]).all (· ≤ reachBytes) = true) :
    ∃ (l z : List Nat) (A1 A2 : Option Addr) (c1 c2 : Nat),
      v0 = .agg #[.slice A1 l.length c1, .slice A2 z.length c2] ∧ (∀ b ∈ l, b < 4294967296) ∧ (∀ b ∈ z, b < 256) ∧
      l.length ≤ 140737488351232 ∧ z.length ≤ 140737488351232 ∧ Wds W W.heap.size A1 l ∧ Byt W W.heap.size A2 z := by
  obtain ⟨cs, rfl, hcs⟩ := okWide_struct Tryd.underlying25 o0
  obtain ⟨c0, c1, rfl⟩ := array2 (hcs.trans (by kernel_rfl))
  obtain ⟨fuel, hf0⟩ := h0
  have ko : Value.cells (.agg #[c0, c1]) = #[c0, c1] := rfl
  obtain ⟨xs, m, _, hx, _, hxl, hg⟩ := DataW.trod_struct Tryd.underlying25 hf0
  obtain ⟨z0, z1, rfl⟩ := list2 hxl
  have kb : Tryd.prog.cellsOf 23 = 1 := by kernel_rfl
  have kw : Tryd.prog.cellsOf 22 = 1 := by kernel_rfl
  have g0 := hg 0 _ rfl
  have g1 := hg 1 _ rfl
  simp [ko, kw] at g0
  simp [ko, kb] at g1
  obtain ⟨A1, q1, l, rfl, lc1, cm1, r1, hh1, b1⟩ := cell_u32s Tryd.underlying22 Tryd.underlying26 (by kernel_rfl) g0
  obtain ⟨A2, q2, z, rfl, lc2, cm2, r2, hh2, b2⟩ := cell_bytes Tryd.underlying23 Tryd.underlying5 (by kernel_rfl) g1
  simp only [Prod.mk.injEq] at hx
  obtain ⟨rfl, _⟩ := hx
  have hp := reach_struct (j := 0) hsz rfl rfl Tryd.underlying25
  have l1 := hh1.reach (j := 0) (size := 4) hp rfl rfl Tryd.underlying22 (by kernel_rfl)
  have l2 := hh2.reach (j := 1) (size := 1) hp rfl rfl Tryd.underlying23 (by kernel_rfl)
  exact ⟨l, z, A1, A2, q1, q2, rfl, b1, b2, by omega, by omega, r1, r2⟩

theorem shaBlocks_calls {H : Type} {enc : TypeId × Value → H} (W : World) (base : Nat) (v0 : Value) (d0 : DataW H) (p0 : List MemPlace)
    (o0 : Value.okWide Tryd.prog W .any base 25 v0) (h0 : DataW.Trod enc Tryd.prog W 0 (fun _ => true) true 25 v0 d0 p0)
    (hsz : (DataW.weightsEach Tryd.prog [25] [d0]).all (· ≤ reachBytes) = true)
    (t0 : Lib.TabIs Tryd.prog W "gleaner/gleanerref02.added" .u64 [1116352408, 1899447441, 3049323471, 3921009573, 961987163, 1508970993, 2453635748, 2870763221, 3624381080, 310598401, 607225278, 1426881987, 1925078388, 2162078206, 2614888103, 3248222580, 3835390401, 4022224774, 264347078, 604807628, 770255983, 1249150122, 1555081692, 1996064986, 2554220882, 2821834349, 2952996808, 3210313671, 3336571891, 3584528711, 113926993, 338241895, 666307205, 773529912, 1294757372, 1396182291, 1695183700, 1986661051, 2177026350, 2456956037, 2730485921, 2820302411, 3259730800, 3345764771, 3516065817, 3600352804, 4094571909, 275423344, 430227734, 506948616, 659060556, 883997877, 958139571, 1322822218, 1537002063, 1747873779, 1955562222, 2024104815, 2227730452, 2361852424, 2428436474, 2756734187, 3204031479, 3329325298])
    (t1 : Lib.TabIs Tryd.prog W "gleaner/gleanerref02.begin" .u64 [1779033703, 3144134277, 1013904242, 2773480762, 1359893119, 2600822924, 528734635, 1541459225])
    (t2 : Lib.TabIs Tryd.prog W "gleaner/sha.added" .u32 [1116352408, 1899447441, 3049323471, 3921009573, 961987163, 1508970993, 2453635748, 2870763221, 3624381080, 310598401, 607225278, 1426881987, 1925078388, 2162078206, 2614888103, 3248222580, 3835390401, 4022224774, 264347078, 604807628, 770255983, 1249150122, 1555081692, 1996064986, 2554220882, 2821834349, 2952996808, 3210313671, 3336571891, 3584528711, 113926993, 338241895, 666307205, 773529912, 1294757372, 1396182291, 1695183700, 1986661051, 2177026350, 2456956037, 2730485921, 2820302411, 3259730800, 3345764771, 3516065817, 3600352804, 4094571909, 275423344, 430227734, 506948616, 659060556, 883997877, 958139571, 1322822218, 1537002063, 1747873779, 1955562222, 2024104815, 2227730452, 2361852424, 2428436474, 2756734187, 3204031479, 3329325298]) :
    Calls Tryd.prog 3 #[v0] W fun e W' => e = .returned (.bool true) ∧ Below W.heap.size W W' := by
  obtain ⟨l, z, A1, A2, q1, q2, rfl, b1, b2, l1, l2, r1, r2⟩ := state_open W base v0 d0 p0 o0 h0 hsz
  exact blocks_any l z ksL A1 A2 q1 q2 W b1 b2 l1 l2 r1 r2 ksL_length ksL_lt (tab_ref t0) (tab_begin t1) (tab_sha t2)
end Go.Proofs.YtfibfaablpoilaaDoor

/- KeyExact: the argument opened. -/
import Derived.Test.YtlolnpilpdkbkaaDoorKxL
import Derived.Test.YtlolnpilpdkbkaaDoorTabs
import Derived.Test.YtlolnpilpdkbkaaDoorArgs
import Derived.ProofKit
import Derived.OpenShut
namespace Go.Proofs.YtlolnpilpdkbkaaDoor
open Go.RowKit

theorem list4 {α : Type} {l : List α} (h : l.length = 4) : ∃ a b c d, l = [a, b, c, d] := by
  match l, h with
  | [a, b, c, d], _ => exact ⟨a, b, c, d, rfl⟩
theorem split66 {α : Type} (L : List α) (h : L.length = 66) : L = (L.drop 0).take 1 ++ ((L.drop 1).take 1 ++ ((L.drop 2).take 32 ++ (L.drop 34).take 32)) := by
  have e1 : (L.drop 34).take 32 = L.drop 34 := List.take_of_length_le (by simp; omega)
  have e2 : (L.drop 2).take 32 ++ L.drop 34 = L.drop 2 := by
    have := List.take_append_drop 32 (L.drop 2)
    rwa [List.drop_drop] at this
  have e3 : (L.drop 1).take 1 ++ L.drop 2 = L.drop 1 := by
    have := List.take_append_drop 1 (L.drop 1)
    rwa [List.drop_drop] at this
  rw [e1, e2, e3, List.drop_zero, List.take_append_drop]

theorem all_u8 : ∀ cs : List Value, (∀ i, i < cs.length → ∃ b : Nat, cs[i]? = some (.int .u8 (b : Int)) ∧ b < 256) → ∃ l : List Nat, cs = u8s l ∧ ∀ b ∈ l, b < 256
  | [], _ => ⟨[], rfl, by simp⟩
  | c :: cs, h => by
    obtain ⟨b, hb, hlt⟩ := h 0 (by simp)
    obtain ⟨l, rfl, hl⟩ := all_u8 cs fun i hi => by simpa using h (i + 1) (by simpa using hi)
    simp only [List.getElem?_cons_zero, Option.some.injEq] at hb
    refine ⟨b :: l, by rw [hb]; rfl, ?_⟩
    intro x hx
    rcases List.mem_cons.1 hx with rfl | hx
    · exact hlt
    · exact hl x hx

section
open Go.ChangeShapes Go.WideShapes
variable {H : Type} {enc : TypeId × Value → H} {P : Program} {W : World} {base : Nat} {spare : Nat → Bool} {held : Bool}
/-- An array of bytes: its numbers. -/
theorem cells_u8s {t e : TypeId} {n fuel : Nat} {cs : List Value} {x : DataW H × List MemPlace} (ht : P.underlying t = some (.array n e)) (he : P.underlying e = some (.int .u8)) (hc : P.cellsOf e = 1) (hl : P.cellsOf t = n)
    (h : DataW.trod enc P W base spare held fuel t cs = some x) : ∃ l : List Nat, cs = u8s l ∧ l.length = n ∧ ∀ b ∈ l, b < 256 := by
  obtain ⟨xs, m, _, _, hcl, hxl, hg⟩ := DataW.trod_array ht h
  rw [hl] at hcl
  have h1 : ∀ i, i < n → ∃ b : Nat, cs[i]? = some (.int .u8 (b : Int)) ∧ b < 256 := fun i hi => by
    have hg1 := hg i hi
    rw [hc, Nat.mul_one, List.getElem?_eq_getElem (by omega), List.drop_eq_getElem_cons (by omega)] at hg1
    simp only [List.take_succ_cons, List.take_zero] at hg1
    obtain ⟨b, hb, hlt⟩ := cell_u8 he hg1
    exact ⟨b, by rw [List.getElem?_eq_getElem (by omega), hb], hlt⟩
  obtain ⟨l, rfl, hb⟩ := all_u8 cs fun i hi => h1 i (by omega)
  rw [u8s_length] at hcl
  exact ⟨l, rfl, hcl, hb⟩

set_option maxRecDepth 100000 in
theorem keyExact_calls (W : World) (base : Nat) (v0 : Value) (d0 : DataW H) (p0 : List MemPlace)
    (o0 : Value.okWide Tryd.prog W .any base 26 v0) (h0 : DataW.Trod enc Tryd.prog W 0 (fun _ => true) true 26 v0 d0 p0)
    (hsz : (DataW.weightsEach Tryd.prog [26] [d0]).all (· ≤ reachBytes) = true)
    (t0 : Lib.TabIs Tryd.prog W "gleaner/gleanerref02.added" .u64 [1116352408, 1899447441, 3049323471, 3921009573, 961987163, 1508970993, 2453635748, 2870763221, 3624381080, 310598401, 607225278, 1426881987, 1925078388, 2162078206, 2614888103, 3248222580, 3835390401, 4022224774, 264347078, 604807628, 770255983, 1249150122, 1555081692, 1996064986, 2554220882, 2821834349, 2952996808, 3210313671, 3336571891, 3584528711, 113926993, 338241895, 666307205, 773529912, 1294757372, 1396182291, 1695183700, 1986661051, 2177026350, 2456956037, 2730485921, 2820302411, 3259730800, 3345764771, 3516065817, 3600352804, 4094571909, 275423344, 430227734, 506948616, 659060556, 883997877, 958139571, 1322822218, 1537002063, 1747873779, 1955562222, 2024104815, 2227730452, 2361852424, 2428436474, 2756734187, 3204031479, 3329325298])
    (t1 : Lib.TabIs Tryd.prog W "gleaner/gleanerref02.begin" .u64 [1779033703, 3144134277, 1013904242, 2773480762, 1359893119, 2600822924, 528734635, 1541459225])
    (t2 : Lib.TabIs Tryd.prog W "gleaner/sha.added" .u32 [1116352408, 1899447441, 3049323471, 3921009573, 961987163, 1508970993, 2453635748, 2870763221, 3624381080, 310598401, 607225278, 1426881987, 1925078388, 2162078206, 2614888103, 3248222580, 3835390401, 4022224774, 264347078, 604807628, 770255983, 1249150122, 1555081692, 1996064986, 2554220882, 2821834349, 2952996808, 3210313671, 3336571891, 3584528711, 113926993, 338241895, 666307205, 773529912, 1294757372, 1396182291, 1695183700, 1986661051, 2177026350, 2456956037, 2730485921, 2820302411, 3259730800, 3345764771, 3516065817, 3600352804, 4094571909, 275423344, 430227734, 506948616, 659060556, 883997877, 958139571, 1322822218, 1537002063, 1747873779, 1955562222, 2024104815, 2227730452, 2361852424, 2428436474, 2756734187, 3204031479, 3329325298]) :
    Calls Tryd.prog 3 #[v0] W fun e W' => e = .returned (.bool true) ∧ Below W.heap.size W W' := by
  obtain ⟨cs, rfl, hcs⟩ := okWide_struct Tryd.underlying26 o0
  obtain ⟨fuel, hf0⟩ := h0
  have ko : Value.cells (.agg cs) = cs := rfl
  obtain ⟨xs, m, _, hx, _, hxl, hg⟩ := DataW.trod_struct Tryd.underlying26 hf0
  obtain ⟨z0, z1, z2, z3, rfl⟩ := list4 hxl
  have kb : Tryd.prog.cellsOf 22 = 1 := by kernel_rfl
  have ks : Tryd.prog.cellsOf 9 = 1 := by kernel_rfl
  have kk : Tryd.prog.cellsOf 24 = 32 := by kernel_rfl
  have ku : Tryd.prog.cellsOf 5 = 1 := by kernel_rfl
  have h66 : cs.toList.length = 66 := by rw [Array.length_toList, hcs]; kernel_rfl
  have g0 : DataW.trod enc Tryd.prog W 0 (fun _ => true) true m 22 ((cs.toList.drop 0).take (Tryd.prog.cellsOf 22)) = some z0 := hg 0 _ rfl
  have g1 : DataW.trod enc Tryd.prog W 0 (fun _ => true) true m 9 ((cs.toList.drop 1).take (Tryd.prog.cellsOf 9)) = some z1 := hg 1 _ rfl
  have g2 : DataW.trod enc Tryd.prog W 0 (fun _ => true) true m 24 ((cs.toList.drop 2).take (Tryd.prog.cellsOf 24)) = some z2 := hg 2 _ rfl
  have g3 : DataW.trod enc Tryd.prog W 0 (fun _ => true) true m 24 ((cs.toList.drop 34).take (Tryd.prog.cellsOf 24)) = some z3 := hg 3 _ rfl
  rw [kb] at g0
  rw [ks] at g1
  rw [kk] at g2 g3
  obtain ⟨c3, hc3⟩ : ∃ c3, (cs.toList.drop 0).take 1 = [c3] := by
    rw [List.drop_eq_getElem_cons (by omega)]
    exact ⟨_, rfl⟩
  rw [hc3] at g0
  obtain ⟨A, c, bs, e0, hlc, hcm, hA, hh, hbs⟩ := cell_bytes Tryd.underlying22 Tryd.underlying5 ku g0
  rw [e0] at hc3
  have hd0 : d0 = .agg [z0.1, z1.1, z2.1, z3.1] := by have := congrArg Prod.fst hx; exact this
  have hpw : (DataW.weightsEach Tryd.prog [22, 9, 24, 24] [z0.1, z1.1, z2.1, z3.1]).all (· ≤ reachBytes) = true := by
    rw [hd0] at hsz
    simp only [DataW.weightsEach, DataW.weights, Tryd.underlying26, List.append_nil] at hsz
    exact hsz
  have hl := hh.reach (j := 0) (size := 1) hpw rfl rfl Tryd.underlying22 (by kernel_rfl)
  have e0 := hc3
  clear hc3
  obtain ⟨n, hn⟩ : ∃ n, bs.length = n := ⟨_, rfl⟩
  rw [hn] at e0 hlc hl
  obtain ⟨t, e1, _, ht⟩ := DataW.trod_string Tryd.underlying9 g1
  obtain ⟨a, e2, hal, ha⟩ := cells_u8s Tryd.underlying24 Tryd.underlying5 ku kk g2
  obtain ⟨b, e3, hbl, hb⟩ := cells_u8s Tryd.underlying24 Tryd.underlying5 ku kk g3
  have hL := split66 cs.toList h66
  rw [e0, e1, e2, e3] at hL
  have hv : cs = (askL A n c t a b).toArray := by
    apply Array.toList_inj.1
    rw [hL]
    rfl
  rw [hv]
  exact keyExact_any A n c t a b bs W hal hbl ha hb (by unfold maxLen at ht; omega) hn hbs hA hlc (by omega) ksL ksL_length ksL_lt (tab_sha t2) (fun W' hW' => ⟨tab_ref t0 W' hW', tab_begin t1 W' hW'⟩)
end
end Go.Proofs.YtlolnpilpdkbkaaDoor

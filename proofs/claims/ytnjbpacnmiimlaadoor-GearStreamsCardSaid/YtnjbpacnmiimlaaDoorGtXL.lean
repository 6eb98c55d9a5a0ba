/- GearStreams: the arguments opened. -/
import Derived.Test.YtnjbpacnmiimlaaDoorGtX
import Derived.Test.YtnjbpacnmiimlaaDoorGearO
import Derived.Test.YtnjbpacnmiimlaaDoorArgs2
import Derived.Test.YtnjbpacnmiimlaaDoorParts
namespace Go.Proofs.YtnjbpacnmiimlaaDoor
open Go.RowKit Go.ChangeShapes Go.WideShapes

theorem gcut_at {α : Type} (L : List α) (i n : Nat) : L.drop i = (L.drop i).take n ++ L.drop (i + n) := by
  have := List.take_append_drop n (L.drop i)
  rw [List.drop_drop] at this
  exact this.symm
/-- A struct within a list: its parts keep within the reach. -/
theorem greach_elem {H : Type} {P : Program} {ts : List TypeId} {ds Ds parts : List (DataW H)} {d : DataW H} {j : Nat} {t e : TypeId} {fs : Array Field} (h : (DataW.weightsEach P ts ds).all (· ≤ reachBytes) = true) (ht : ts[j]? = some t) (hd : ds[j]? = some d)
    (hE : Elems d Ds) (hu : P.underlying t = some (.slice e)) (hu2 : P.underlying e = some (.struct fs)) (hx : DataW.agg parts ∈ Ds) : (DataW.weightsEach P (fs.toList.map (·.type)) parts).all (· ≤ reachBytes) = true := by
  rcases hE with ⟨rfl, rfl⟩ | ⟨sp2, rfl⟩
  · cases hx
  · rw [List.all_eq_true]
    intro n hn
    refine (List.all_eq_true.1 h) n (DataW.weights_mem_each ht hd n ?_)
    simp only [DataW.weights, hu, List.mem_cons, List.mem_append]
    refine Or.inr (Or.inl (weightsAll_mem_ hx n ?_))
    unfold DataW.weights
    rw [hu2]
    exact hn
theorem garray3 {cs : Array Value} (h : cs.size = 3) : ∃ c0 c1 c2, cs = #[c0, c1, c2] := by
  obtain ⟨l⟩ := cs
  match l, h with
  | [c0, c1, c2], _ => exact ⟨c0, c1, c2, rfl⟩
set_option maxRecDepth 100000 in
theorem cut_open {H : Type} {enc : TypeId × Value → H} (W : World) (base : Nat) (v0 : Value) (d0 : DataW H) (p0 : List MemPlace)
    (o0 : Value.okWide Tryd.prog W .any base 23 v0) (h0 : DataW.Trod enc Tryd.prog W 0 (fun _ => true) true 23 v0 d0 p0) :
    ∃ (a m x : Int), v0 = .agg #[.int .i64 a, .int .i64 m, .int .i64 x] := by
  obtain ⟨cs, rfl, hcs⟩ := okWide_struct Tryd.underlying23 o0
  obtain ⟨c0, c1, c2, rfl⟩ := garray3 (hcs.trans (by kernel_rfl))
  obtain ⟨fuel, hf0⟩ := h0
  have ko : Value.cells (.agg #[c0, c1, c2]) = #[c0, c1, c2] := rfl
  have ki : Tryd.prog.cellsOf 3 = 1 := by kernel_rfl
  obtain ⟨us, n2, _, _, _, hul, hu⟩ := DataW.trod_struct Tryd.underlying23 hf0
  obtain ⟨u0, u1, u2, rfl⟩ := list3 hul
  have a0 := hu 0 _ rfl
  have a1 := hu 1 _ rfl
  have a2 := hu 2 _ rfl
  simp [ko, ki] at a0 a1 a2
  obtain ⟨x0, rfl, _⟩ := cell_i64 Tryd.underlying3 a0
  obtain ⟨x1, rfl, _⟩ := cell_i64 Tryd.underlying3 a1
  obtain ⟨x2, rfl, _⟩ := cell_i64 Tryd.underlying3 a2
  exact ⟨x0, x1, x2, rfl⟩

set_option maxRecDepth 100000 in
theorem gsteps_open {H : Type} {enc : TypeId × Value → H} (W : World) (base : Nat) (v0 : Value) (d0 : DataW H) (p0 : List MemPlace)
    (o0 : Value.okWide Tryd.prog W .any base 57 v0) (h0 : DataW.Trod enc Tryd.prog W 0 (fun _ => true) true 57 v0 d0 p0)
    (hsz : (DataW.weightsEach Tryd.prog [57] [d0]).all (· ≤ reachBytes) = true) :
    ∃ (A : Option Addr) (cap : Nat) (zs : List Stp), v0 = .slice A zs.length cap ∧ zs.length ≤ 4398046511104 ∧ StR W A zs ∧
      ∀ i, Byt W W.heap.size (stAt zs i).A (stAt zs i).l ∧ (∀ b ∈ (stAt zs i).l, b < 256) ∧ (stAt zs i).l.length ≤ 140737488355328 ∧ (stAt zs i).l.length ≤ (stAt zs i).c := by
  obtain ⟨a0, len0, cap0, rfl⟩ := okWide_slice Tryd.underlying57 o0
  obtain ⟨fuel, hf⟩ := h0
  have k1 : Tryd.prog.cellsOf 3 = 1 := by kernel_rfl
  have k4 : Tryd.prog.cellsOf 4 = 1 := by kernel_rfl
  have k2 : Tryd.prog.cellsOf 24 = 1 := by kernel_rfl
  have k3 : Tryd.prog.cellsOf 5 = 1 := by kernel_rfl
  obtain ⟨A, cap, zs, Ds, hcs, _, _, r0, hDl, hE, hok⟩ := cell_slice_d Stp.v (ok := fun z d => Byt W W.heap.size z.A z.l ∧ (∀ b ∈ z.l, b < 256) ∧ (∃ x0 x1 x2, d = .agg [x0, x1, x2] ∧ Held x2 z.l.length) ∧ z.l.length ≤ z.c ∧ z.c ≤ maxLen) Tryd.underlying57 (show Tryd.prog.cellsOf 59 = 3 by kernel_rfl) (by omega)
    (fun n c y hy hc => by
      obtain ⟨xs, m, _, hx, _, hxl, hg⟩ := DataW.trod_struct Tryd.underlying59 hy
      match xs, hxl with
      | [x0, x1, x2], _ =>
        have g0 : DataW.trod enc Tryd.prog W 0 (fun _ => true) true m 3 ((c.drop 0).take (Tryd.prog.cellsOf 3)) = some x0 := hg 0 _ rfl
        have g1 : DataW.trod enc Tryd.prog W 0 (fun _ => true) true m 4 ((c.drop 1).take (Tryd.prog.cellsOf 4)) = some x1 := hg 1 _ rfl
        have g2 : DataW.trod enc Tryd.prog W 0 (fun _ => true) true m 24 ((c.drop 2).take (Tryd.prog.cellsOf 24)) = some x2 := hg 2 _ rfl
        rw [k1] at g0
        rw [k4] at g1
        rw [k2] at g2
        obtain ⟨i0, e0, _, _⟩ := DataW.trod_int Tryd.underlying3 g0
        obtain ⟨i1, e1, _⟩ := DataW.trod_bool Tryd.underlying4 g1
        obtain ⟨c3, hc3⟩ : ∃ c3, (c.drop 2).take 1 = [c3] := by
          rw [List.drop_eq_getElem_cons (by omega)]
          exact ⟨_, rfl⟩
        rw [hc3] at g2
        obtain ⟨A, q, l, e3, hl, hm, r, hh, b⟩ := cell_bytes Tryd.underlying24 Tryd.underlying5 k3 g2
        rw [e3] at hc3
        refine ⟨⟨i0, i1, A, l, q⟩, ?_, r, b, ⟨x0.1, x1.1, x2.1, by rw [hx]; rfl, hh⟩, hl, hm⟩
        have s0 := gcut_at c 0 1
        have s1 := gcut_at c 1 1
        have s2 := gcut_at c 2 1
        rw [List.drop_eq_nil_of_le (show c.length ≤ 2 + 1 by omega), List.append_nil] at s2
        rw [List.drop_zero] at s0
        rw [List.drop_zero] at e0
        rw [s0, s1, s2, e0, e1, hc3]
        rfl) Stp.none_ hf
  simp [Value.cells] at hcs
  obtain ⟨rfl, rfl, rfl⟩ := hcs
  have hR := hE.held_.reach (j := 0) (size := 40) hsz rfl rfl Tryd.underlying57 (by kernel_rfl)
  rw [hDl] at hR
  refine ⟨a0, cap0, zs, rfl, by omega, r0, fun i => ?_⟩
  rcases Nat.lt_or_ge i zs.length with hi | hi
  · obtain ⟨o1, o2, ⟨x0, x1, x2, hd, hh⟩, o4, o5⟩ := hok i hi
    have hiD : Ds[i]? = some Ds[i] := List.getElem?_eq_getElem (by omega)
    rw [hiD, Option.getD_some] at hd
    have hp := greach_elem (j := 0) hsz rfl rfl hE Tryd.underlying57 Tryd.underlying59 (parts := [x0, x1, x2]) (by rw [← hd]; exact List.getElem_mem _)
    have := hh.reach (j := 2) (size := 1) hp rfl rfl Tryd.underlying24 (by kernel_rfl)
    exact ⟨o1, o2, by unfold stAt; omega, o4⟩
  · have e : stAt zs i = Stp.none_ := by unfold stAt; rw [List.getElem?_eq_none hi]; rfl
    rw [e]
    exact ⟨Rd.empty, fun b hb => (by cases hb), Nat.zero_le _, Nat.le_refl _⟩

theorem gearStreams_calls {H : Type} {enc : TypeId × Value → H} (W : World) (base : Nat) (v0 v1 v2 : Value) (d0 d1 d2 : DataW H) (p0 p1 p2 : List MemPlace)
    (o0 : Value.okWide Tryd.prog W .any base 23 v0) (h0 : DataW.Trod enc Tryd.prog W 0 (fun _ => true) true 23 v0 d0 p0)
    (o1 : Value.okWide Tryd.prog W .any base 23 v1) (h1 : DataW.Trod enc Tryd.prog W 0 (fun _ => true) true 23 v1 d1 p1)
    (o2 : Value.okWide Tryd.prog W .any base 57 v2) (h2 : DataW.Trod enc Tryd.prog W 0 (fun _ => true) true 57 v2 d2 p2)
    (hsz : (DataW.weightsEach Tryd.prog [23, 23, 57] [d0, d1, d2]).all (· ≤ reachBytes) = true)
    (_t0 : Lib.TabIs Tryd.prog W "math/bits.deBruijn32tab" .u8 [0, 1, 28, 2, 29, 14, 24, 3, 30, 22, 20, 15, 25, 17, 4, 8, 31, 27, 13, 23, 21, 19, 16, 7, 26, 12, 18, 6, 11, 5, 10, 9])
    (t1 : Lib.TabIs Tryd.prog W "math/bits.deBruijn64tab" .u8 [0, 1, 56, 2, 57, 49, 28, 3, 61, 58, 42, 50, 38, 29, 17, 4, 62, 47, 59, 36, 45, 43, 51, 22, 53, 39, 33, 30, 24, 18, 12, 5, 63, 55, 48, 27, 60, 41, 37, 16, 46, 35, 44, 21, 52, 32, 23, 11, 54, 26, 40, 15, 34, 20, 31, 10, 25, 14, 19, 9, 13, 8, 7, 6]) :
    Calls Tryd.prog 7 #[v0, v1, v2] W fun e W' => e = .returned (.bool true) ∧ Below W.heap.size W W' := by
  obtain ⟨a, m, x, rfl⟩ := cut_open W base v0 d0 p0 o0 h0
  obtain ⟨a1, m1, x1, rfl⟩ := cut_open W base v1 d1 p1 o1 h1
  have hsz1 : (DataW.weightsEach Tryd.prog [57] [d2]).all (· ≤ reachBytes) = true := by
    rw [List.all_eq_true] at hsz ⊢
    intro n hn
    refine hsz n ?_
    simp only [DataW.weightsEach, List.append_nil, List.mem_append] at hn ⊢
    exact .inr (.inr hn)
  obtain ⟨A, cap, zs, rfl, hl, hr, hall⟩ := gsteps_open W base v2 d2 p2 o2 h2 hsz1
  exact gearStreams_any (fun s => if s = 0 then (a, m, x) else (a1, m1, x1)) zs A _ cap W rfl hl hr (fun i => (hall i).1) (fun i => (hall i).2.1) (fun i => (hall i).2.2) (tz_of t1)
end Go.Proofs.YtnjbpacnmiimlaaDoor

/- ShaScript: the argument opened. -/
import Derived.Test.YtfibfaablpoilaaDoorScrW
import Derived.Test.YtfibfaablpoilaaDoorChainP
import Derived.Test.YtfibfaablpoilaaDoorTabs
namespace Go.Proofs.YtfibfaablpoilaaDoor
open Go.RowKit Go.ChangeShapes Go.WideShapes

theorem cut_at {α : Type} (L : List α) (i n : Nat) : L.drop i = (L.drop i).take n ++ L.drop (i + n) := by
  have := List.take_append_drop n (L.drop i)
  rw [List.drop_drop] at this
  exact this.symm
/-- A struct within a list: its parts keep within the reach. -/
theorem reach_elem {H : Type} {P : Program} {ts : List TypeId} {ds Ds parts : List (DataW H)} {d : DataW H} {j : Nat} {t e : TypeId} {fs : Array Field} (h : (DataW.weightsEach P ts ds).all (· ≤ reachBytes) = true) (ht : ts[j]? = some t) (hd : ds[j]? = some d)
    (hE : Elems d Ds) (hu : P.underlying t = some (.slice e)) (hu2 : P.underlying e = some (.struct fs)) (hx : DataW.agg parts ∈ Ds) : (DataW.weightsEach P (fs.toList.map (·.type)) parts).all (· ≤ reachBytes) = true := by
  rcases hE with ⟨rfl, rfl⟩ | ⟨sp2, rfl⟩
  · cases hx
  · rw [List.all_eq_true]
    intro n hn
    refine (List.all_eq_true.1 h) n (DataW.weights_mem_each ht hd n ?_)
    simp only [DataW.weights, hu, List.mem_cons, List.mem_append]
    refine Or.inr (Or.inl (weightsAll_mem_ hx n ?_))
    unfold DataW.weights
    rw [hu2]
    exact hn

set_option maxRecDepth 100000 in
theorem steps_open {H : Type} {enc : TypeId × Value → H} (W : World) (base : Nat) (v0 : Value) (d0 : DataW H) (p0 : List MemPlace)
    (o0 : Value.okWide Tryd.prog W .any base 39 v0) (h0 : DataW.Trod enc Tryd.prog W 0 (fun _ => true) true 39 v0 d0 p0)
    (hsz : (DataW.weightsEach Tryd.prog [39] [d0]).all (· ≤ reachBytes) = true) :
    ∃ (A : Option Addr) (cap : Nat) (zs : List StT), v0 = .slice A zs.length cap ∧ zs.length ≤ 4398046510976 ∧ Steps W zs A := by
  obtain ⟨a0, len0, cap0, rfl⟩ := okWide_slice Tryd.underlying39 o0
  obtain ⟨fuel, hf⟩ := h0
  have k1 : Tryd.prog.cellsOf 3 = 1 := by kernel_rfl
  have k2 : Tryd.prog.cellsOf 23 = 1 := by kernel_rfl
  have k3 : Tryd.prog.cellsOf 5 = 1 := by kernel_rfl
  obtain ⟨A, cap, zs, Ds, hcs, _, _, r0, hDl, hE, hok⟩ := cell_slice_d encS (ok := fun z d => Byt W W.heap.size z.A z.l ∧ (∀ b ∈ z.l, b < 256) ∧ (∃ x0 x1 x2 x3, d = .agg [x0, x1, x2, x3] ∧ Held x3 z.l.length) ∧ z.l.length ≤ z.c ∧ z.c ≤ maxLen) Tryd.underlying39 (show Tryd.prog.cellsOf 41 = 4 by kernel_rfl) (by omega)
    (fun n c y hy hc => by
      obtain ⟨xs, m, _, hx, _, hxl, hg⟩ := DataW.trod_struct Tryd.underlying41 hy
      match xs, hxl with
      | [x0, x1, x2, x3], _ =>
        have g0 : DataW.trod enc Tryd.prog W 0 (fun _ => true) true m 3 ((c.drop 0).take (Tryd.prog.cellsOf 3)) = some x0 := hg 0 _ rfl
        have g1 : DataW.trod enc Tryd.prog W 0 (fun _ => true) true m 3 ((c.drop 1).take (Tryd.prog.cellsOf 3)) = some x1 := hg 1 _ rfl
        have g2 : DataW.trod enc Tryd.prog W 0 (fun _ => true) true m 3 ((c.drop 2).take (Tryd.prog.cellsOf 3)) = some x2 := hg 2 _ rfl
        have g3 : DataW.trod enc Tryd.prog W 0 (fun _ => true) true m 23 ((c.drop 3).take (Tryd.prog.cellsOf 23)) = some x3 := hg 3 _ rfl
        rw [k1] at g0 g1 g2
        rw [k2] at g3
        obtain ⟨i0, e0, _, _⟩ := DataW.trod_int Tryd.underlying3 g0
        obtain ⟨i1, e1, _, _⟩ := DataW.trod_int Tryd.underlying3 g1
        obtain ⟨i2, e2, _, _⟩ := DataW.trod_int Tryd.underlying3 g2
        obtain ⟨c3, hc3⟩ : ∃ c3, (c.drop 3).take 1 = [c3] := by
          rw [List.drop_eq_getElem_cons (by omega)]
          exact ⟨_, rfl⟩
        rw [hc3] at g3
        obtain ⟨A, q, l, e3, hl, hm, r, hh, b⟩ := cell_bytes Tryd.underlying23 Tryd.underlying5 k3 g3
        rw [e3] at hc3
        refine ⟨⟨i0, i1, i2, A, l, q⟩, ?_, r, b, ⟨x0.1, x1.1, x2.1, x3.1, by rw [hx]; rfl, hh⟩, hl, hm⟩
        have s0 := cut_at c 0 1
        have s1 := cut_at c 1 1
        have s2 := cut_at c 2 1
        have s3 := cut_at c 3 1
        rw [List.drop_eq_nil_of_le (show c.length ≤ 3 + 1 by omega), List.append_nil] at s3
        rw [List.drop_zero] at s0
        rw [List.drop_zero] at e0
        rw [s0, s1, s2, s3, e0, e1, e2, hc3]
        rfl) zS hf
  simp [Value.cells] at hcs
  obtain ⟨rfl, rfl, rfl⟩ := hcs
  have hR := hE.held_.reach (j := 0) (size := 48) hsz rfl rfl Tryd.underlying39 (by kernel_rfl)
  rw [hDl] at hR
  have all : ∀ x ∈ zs, (Byt W W.heap.size x.A x.l ∧ (∀ b ∈ x.l, b < 256)) ∧ (x.l.length ≤ x.c ∧ x.c ≤ maxLen) ∧ x.l.length ≤ 140737488351232 := fun x hx => by
    obtain ⟨i, hi, rfl⟩ := List.mem_iff_getElem.1 hx
    have h1 := hok i hi
    rw [List.getElem?_eq_getElem hi, Option.getD_some] at h1
    obtain ⟨o1, o2, ⟨x0, x1, x2, x3, hd, hh⟩, o4, o5⟩ := h1
    have hiD : Ds[i]? = some Ds[i] := List.getElem?_eq_getElem (by omega)
    rw [hiD, Option.getD_some] at hd
    have hp := reach_elem (j := 0) hsz rfl rfl hE Tryd.underlying39 Tryd.underlying41 (parts := [x0, x1, x2, x3]) (by rw [← hd]; exact List.getElem_mem _)
    have := hh.reach (j := 3) (size := 1) hp rfl rfl Tryd.underlying23 (by kernel_rfl)
    exact ⟨⟨o1, o2⟩, ⟨o4, o5⟩, by omega⟩
  refine ⟨a0, cap0, zs, rfl, by omega, ⟨?_, fun x hx => (all x hx).1.1, fun x hx => (all x hx).1.2, fun x hx => ⟨(all x hx).2.1.1, by have := (all x hx).2.1.2; unfold maxLen at this; omega⟩, fun x hx => (all x hx).2.2⟩⟩
  refine Rd.congr r0 fun j hj => ?_
  have hq : j / 4 < zs.length := Nat.div_lt_of_lt_mul (by rwa [Nat.mul_comm] at hj)
  have := flat_get encS_length zs (j / 4) (j % 4) hq (Nat.mod_lt _ (by decide))
  rw [Nat.mul_comm, Nat.div_add_mod] at this
  rw [this, List.getElem?_eq_getElem hq, Option.getD_some]

theorem shaScript_calls {H : Type} {enc : TypeId × Value → H} (W : World) (base : Nat) (v0 : Value) (d0 : DataW H) (p0 : List MemPlace)
    (o0 : Value.okWide Tryd.prog W .any base 39 v0) (h0 : DataW.Trod enc Tryd.prog W 0 (fun _ => true) true 39 v0 d0 p0)
    (hsz : (DataW.weightsEach Tryd.prog [39] [d0]).all (· ≤ reachBytes) = true)
    (t0 : Lib.TabIs Tryd.prog W "gleaner/gleanerref02.added" .u64 [1116352408, 1899447441, 3049323471, 3921009573, 961987163, 1508970993, 2453635748, 2870763221, 3624381080, 310598401, 607225278, 1426881987, 1925078388, 2162078206, 2614888103, 3248222580, 3835390401, 4022224774, 264347078, 604807628, 770255983, 1249150122, 1555081692, 1996064986, 2554220882, 2821834349, 2952996808, 3210313671, 3336571891, 3584528711, 113926993, 338241895, 666307205, 773529912, 1294757372, 1396182291, 1695183700, 1986661051, 2177026350, 2456956037, 2730485921, 2820302411, 3259730800, 3345764771, 3516065817, 3600352804, 4094571909, 275423344, 430227734, 506948616, 659060556, 883997877, 958139571, 1322822218, 1537002063, 1747873779, 1955562222, 2024104815, 2227730452, 2361852424, 2428436474, 2756734187, 3204031479, 3329325298])
    (t1 : Lib.TabIs Tryd.prog W "gleaner/gleanerref02.begin" .u64 [1779033703, 3144134277, 1013904242, 2773480762, 1359893119, 2600822924, 528734635, 1541459225])
    (t2 : Lib.TabIs Tryd.prog W "gleaner/sha.added" .u32 [1116352408, 1899447441, 3049323471, 3921009573, 961987163, 1508970993, 2453635748, 2870763221, 3624381080, 310598401, 607225278, 1426881987, 1925078388, 2162078206, 2614888103, 3248222580, 3835390401, 4022224774, 264347078, 604807628, 770255983, 1249150122, 1555081692, 1996064986, 2554220882, 2821834349, 2952996808, 3210313671, 3336571891, 3584528711, 113926993, 338241895, 666307205, 773529912, 1294757372, 1396182291, 1695183700, 1986661051, 2177026350, 2456956037, 2730485921, 2820302411, 3259730800, 3345764771, 3516065817, 3600352804, 4094571909, 275423344, 430227734, 506948616, 659060556, 883997877, 958139571, 1322822218, 1537002063, 1747873779, 1955562222, 2024104815, 2227730452, 2361852424, 2428436474, 2756734187, 3204031479, 3329325298]) :
    Calls Tryd.prog 5 #[v0] W fun e W' => e = .returned (.bool true) ∧ Below W.heap.size W W' := by
  obtain ⟨A, cap, zs, rfl, hl, hS⟩ := steps_open W base v0 d0 p0 o0 h0 hsz
  have r := Below.refl W.heap.size W
  exact script_any W ksL ⟨tab_sha t2 W r, tab_ref t0 W r, tab_begin t1 W r⟩ ksL_length ksL_lt digests_ne zs A _ cap rfl hS hl
end Go.Proofs.YtfibfaablpoilaaDoor

/- KeySets: the argument opened. -/
import Derived.Test.YtlolnpilpdkbkaaPkA38
import Derived.Test.YtlolnpilpdkbkaaPkA39

namespace Go.Proofs.Ytlolnpilpdkbkaa
open Go.RowKit Go.ChangeShapes Go.WideShapes
set_option linter.unusedVariables false

theorem rd_range {α : Type} {f : α → List Value} {size : Nat} (hs : 0 < size) {zs : List α} {z0 : α} {W : World} {A : Option Addr} (h : Rd W W.heap.size A (zs.length * size) (fun j => (f (zs[j / size]?.getD z0))[j % size]?.getD undef)) {i : Nat} {z : α} (hi : zs[i]? = some z) (hl : (f z).length = size) :
    ∃ b off, A = some ⟨b, off, none⟩ ∧ b < W.heap.size ∧ W.rangeAt b (off + i * size) (f z) := by
  have hil := (List.getElem?_eq_some_iff.1 hi).1
  have hlt : ∀ j, j < size → i * size + j < zs.length * size := fun j hj => by
    have : (i + 1) * size ≤ zs.length * size := Nat.mul_le_mul_right _ hil
    rw [Nat.add_mul] at this
    omega
  obtain ⟨b, off, e, hb, hc⟩ := h (by have := hlt 0 hs; omega)
  refine ⟨b, off, e, hb, fun j v hv => ?_⟩
  have hj : j < size := by have := (List.getElem?_eq_some_iff.1 hv).1; omega
  have h1 := hc (i * size + j) (hlt j hj)
  simp only [] at h1
  have e1 : (i * size + j) / size = i := by rw [Nat.mul_comm, Nat.mul_add_div hs, Nat.div_eq_of_lt hj, Nat.add_zero]
  have e2 : (i * size + j) % size = j := by rw [Nat.mul_comm, Nat.mul_add_mod, Nat.mod_eq_of_lt hj]
  rw [e1, e2, hi, Option.getD_some, hv, Option.getD_some] at h1
  rw [Nat.add_assoc]
  exact h1
theorem cut_atS {α : Type} (L : List α) (i n : Nat) : L.drop i = (L.drop i).take n ++ L.drop (i + n) := by
  have := List.take_append_drop n (L.drop i)
  rw [List.drop_drop] at this
  exact this.symm
def stZ : St := ⟨0, 0, 0, zeros 32, none, 0, [], false, ⟨#[]⟩⟩
section
variable {H : Type}
/-- What a step that came in holds. -/
def StIn (W : World) (z : St) (d : DataW H) : Prop := IsK z.key ∧ KeyRow W z.A z.xs ∧ z.xs.length + z.pre.size + 2 ≤ Rows.uptoBulk d
def allK (zs : List St) : List (List Nat) := zs.flatMap fun s => s.key :: s.xs
theorem allK_len (W : World) : ∀ (zs : List St) (Ds : List (DataW H)), Ds.length = zs.length → (∀ i, i < zs.length → StIn W (zs[i]?.getD stZ) (Ds[i]?.getD .nil)) → (allK zs).length ≤ Rows.uptoBulkAll Ds
  | [], _, _, _ => by simp [allK]
  | z :: r, [], h, _ => by simp at h
  | z :: r, d :: D, h, hk => by
    have h0 := (hk 0 (by simp)).2.2
    simp only [List.getElem?_cons_zero, Option.getD_some] at h0
    have ih := allK_len W r D (by simpa using h) fun i hi => by
      have := hk (i + 1) (by simpa using hi)
      simpa using this
    unfold allK at ih ⊢
    rw [List.flatMap_cons, List.length_append, List.length_cons]
    simp only [Rows.uptoBulkAll]
    omega
theorem allK_mem {zs : List St} {z : St} (h : z ∈ zs) : z.key ∈ allK zs ∧ ∀ x ∈ z.xs, x ∈ allK zs :=
  ⟨List.mem_flatMap.2 ⟨z, h, by simp⟩, fun x hx => List.mem_flatMap.2 ⟨z, h, by simp [hx]⟩⟩
end
section
variable {H : Type} {enc : TypeId × Value → H} {W : World} {base : Nat} {spare : Nat → Bool} {held : Bool}
set_option maxRecDepth 100000 in
set_option maxHeartbeats 2000000 in
theorem stepsK_open {fuel : Nat} {cs : List Value} {y : DataW H × List MemPlace} (h : DataW.trod enc Try.prog W base spare held fuel 47 cs = some y) :
    ∃ (A : Option Addr) (cap : Nat) (zs : List St) (Ds : List (DataW H)), cs = [.slice A zs.length cap] ∧ Rd W W.heap.size A (zs.length * 38) (fun j => (stepL (zs[j / 38]?.getD stZ))[j % 38]?.getD undef) ∧ Ds.length = zs.length ∧ Elems y.1 Ds ∧ ∀ i, i < zs.length → StIn W (zs[i]?.getD stZ) (Ds[i]?.getD .nil) := by
  have k1 : Try.prog.cellsOf 3 = 1 := by kernel_rfl
  have k2 : Try.prog.cellsOf 34 = 1 := by kernel_rfl
  have k3 : Try.prog.cellsOf 5 = 1 := by kernel_rfl
  have k4 : Try.prog.cellsOf 25 = 32 := by kernel_rfl
  have k5 : Try.prog.cellsOf 4 = 1 := by kernel_rfl
  have k6 : Try.prog.cellsOf 9 = 1 := by kernel_rfl
  obtain ⟨A, cap, zs, Ds, hcs, _, _, r0, hDl, hE, hok⟩ := cell_slice_d stepL (ok := StIn W) (size := 38) Try.underlying47 (by kernel_rfl) (by decide)
    (fun n c y hy hc => by
      obtain ⟨xs, m, _, hx, _, hxl, hg⟩ := DataW.trod_struct Try.underlying60 hy
      match xs, hxl with
      | [x0, x1, x2, x3, x4, x5, x6], _ =>
        have g0 : DataW.trod enc Try.prog W base spare held m 3 ((c.drop 0).take (Try.prog.cellsOf 3)) = some x0 := hg 0 _ rfl
        have g1 : DataW.trod enc Try.prog W base spare held m 3 ((c.drop 1).take (Try.prog.cellsOf 3)) = some x1 := hg 1 _ rfl
        have g2 : DataW.trod enc Try.prog W base spare held m 3 ((c.drop 2).take (Try.prog.cellsOf 3)) = some x2 := hg 2 _ rfl
        have g3 : DataW.trod enc Try.prog W base spare held m 25 ((c.drop 3).take (Try.prog.cellsOf 25)) = some x3 := hg 3 _ rfl
        have g4 : DataW.trod enc Try.prog W base spare held m 34 ((c.drop 35).take (Try.prog.cellsOf 34)) = some x4 := hg 4 _ rfl
        have g5 : DataW.trod enc Try.prog W base spare held m 4 ((c.drop 36).take (Try.prog.cellsOf 4)) = some x5 := hg 5 _ rfl
        have g6 : DataW.trod enc Try.prog W base spare held m 9 ((c.drop 37).take (Try.prog.cellsOf 9)) = some x6 := hg 6 _ rfl
        rw [k1] at g0 g1 g2
        rw [k4] at g3
        rw [k2] at g4
        rw [k5] at g5
        rw [k6] at g6
        obtain ⟨i0, e0, _, _⟩ := DataW.trod_int Try.underlying3 g0
        obtain ⟨i1, e1, _, _⟩ := DataW.trod_int Try.underlying3 g1
        obtain ⟨i2, e2, _, _⟩ := DataW.trod_int Try.underlying3 g2
        obtain ⟨l, e3, e3l, e3b⟩ := cells_keyA Try.underlying25 Try.underlying5 k3 k4 g3
        obtain ⟨A, q, xs, Dx, e4, _, _, r4, hDx, hEx, hkx⟩ := cell_slice_d u8s (ok := fun z _ => IsK z) (size := 32) Try.underlying34 k4 (by decide) (fun n c y hy _ => by
          obtain ⟨l, e1, e2, e3⟩ := cells_keyA Try.underlying25 Try.underlying5 k3 k4 hy
          exact ⟨l, e1, e2, e3⟩) (zeros 32) g4
        obtain ⟨b5, e5, _⟩ := DataW.trod_bool Try.underlying4 g5
        obtain ⟨s6, e6, hx6, _⟩ := DataW.trod_string Try.underlying9 g6
        refine ⟨⟨i0, i1, i2, l, A, q, xs, b5, s6⟩, ?_, ⟨e3l, e3b⟩, ?_, ?_⟩
        · have s0 := cut_atS c 0 1
          have s1 := cut_atS c 1 1
          have s2 := cut_atS c 2 1
          have s3 := cut_atS c 3 32
          have s4 := cut_atS c 35 1
          have s5 := cut_atS c 36 1
          have s6' := cut_atS c 37 1
          rw [List.drop_eq_nil_of_le (show c.length ≤ 37 + 1 by omega), List.append_nil] at s6'
          rw [List.drop_zero] at s0
          rw [List.drop_zero] at e0
          rw [s0, s1, s2, s3, s4, s5, s6', e0, e1, e2, e3, e4, e5, e6]
          simp [stepL]
        · intro k x hk
          have hkl := (List.getElem?_eq_some_iff.1 hk).1
          have h1 := hkx k hkl
          rw [hk, Option.getD_some] at h1
          obtain ⟨b, off, e, hb, hr⟩ := rd_range (by decide) r4 hk (by rw [u8s_length, h1.1])
          exact ⟨h1, b, off, e, hb, hr⟩
        · have b4 := bulk_elems hEx
          have b4l := bulk_len Dx
          have b0 := bulk_one x0.1
          have b1 := bulk_one x1.1
          rw [hx]
          simp only [List.map_cons, List.map_nil, Rows.uptoBulk, Rows.uptoBulkAll]
          rw [hx6]
          simp only [Rows.uptoBulk]
          rw [show s6.data.toList.length = s6.size from (Lib.size_eq s6).symm]
          show xs.length + s6.size + 2 ≤ _
          omega) stZ h
  exact ⟨A, cap, zs, Ds, hcs, r0, hDl, hE, hok⟩
set_option maxRecDepth 100000 in
theorem keySets_calls {H : Type} {enc : TypeId × Value → H} (W : World) (base : Nat) (v0 : Value) (d0 : DataW H) (p0 : List MemPlace)
    (o0 : Value.okWide Try.prog W .any base 47 v0) (h0 : DataW.Trod enc Try.prog W 0 (fun _ => true) true 47 v0 d0 p0)
    (hsz : (DataW.weightsEach Try.prog [47] [d0]).all (· ≤ reachBytes) = true) (hup : Rows.uptoSmall H [d0] = true) :
    Calls Try.prog 6 #[v0] W fun e W' => e = .returned (.bool true) ∧ Below W.heap.size W W' := by
  obtain ⟨a0, len0, cap0, rfl⟩ := okWide_slice Try.underlying47 o0
  obtain ⟨fuel, hf⟩ := h0
  obtain ⟨A, cap, zs, Ds, hcs, r0, hDl, hE, hok⟩ := stepsK_open hf
  simp [Value.cells] at hcs
  obtain ⟨rfl, rfl, rfl⟩ := hcs
  have hb : Rows.uptoBulk d0 ≤ 1048576 := by
    have := of_decide_eq_true hup
    simpa [Rows.uptoBulkAll] using this
  have hE2 : Rows.uptoBulkAll Ds + 1 ≤ Rows.uptoBulk d0 := bulk_elems hE
  have hT := allK_len W zs Ds hDl hok
  have hDn := bulk_len Ds
  refine keySets_any W (allK zs) (by omega) a0 zs.length cap0 zs rfl (by omega) fun k st hk => ?_
  have hkl := (List.getElem?_eq_some_iff.1 hk).1
  have h1 := hok k hkl
  rw [hk, Option.getD_some] at h1
  obtain ⟨hk1, hk2, hk3⟩ := h1
  have hbm := bulk_mem (l := Ds) (i := k) (by omega)
  have hm := allK_mem (List.mem_of_getElem? hk)
  refine ⟨⟨hk1, hk2, by omega, hm.1, hm.2, by omega⟩, ?_⟩
  exact rd_range (by decide) r0 hk (stepL_len st hk1.1)
end
end Go.Proofs.Ytlolnpilpdkbkaa

/- Arguments opened, the elements' data at hand too. No program is named here. An object as an argument, opened. -/
import Derived.Test.YtkjndgapejbgcaaDoorPkD17
import Derived.Test.YtkjndgapejbgcaaDoorPkD6
import Derived.ProofKit
import Derived.OpenShut

namespace Go.Proofs.YtkjndgapejbgcaaDoor
open Go.RowKit Go.ChangeShapes Go.WideShapes

/-- The elements' data of a slice. -/
def Elems {H : Type} (d : DataW H) (Ds : List (DataW H)) : Prop := (d = .nil ∧ Ds = []) ∨ ∃ sp, d = .slice Ds sp

section
variable {H : Type} {enc : TypeId × Value → H} {P : Program} {W : World} {base : Nat} {spare : Nat → Bool} {held : Bool}
theorem Elems.held_ {d : DataW H} {Ds : List (DataW H)} (h : Elems d Ds) : Held d Ds.length := by
  rcases h with ⟨rfl, rfl⟩ | ⟨sp, rfl⟩
  · exact .inl ⟨rfl, rfl⟩
  · exact .inr ⟨_, _, rfl, rfl⟩

theorem arg_slice_d {t e : TypeId} {size fuel : Nat} {cs : List Value} {x : DataW H × List MemPlace} (ht : P.underlying t = some (.slice e)) (hc : P.cellsOf e = size) (hs : 0 < size)
    (h : DataW.trod enc P W base spare held fuel t cs = some x) :
    ∃ (A : Option Addr) (len cap : Nat) (V : Nat → Value) (Ds : List (DataW H)), cs = [.slice A len cap] ∧ len ≤ cap ∧ cap ≤ maxLen ∧ Rd W W.heap.size A (len * size) V ∧ Ds.length = len ∧ Elems x.1 Ds ∧
      ∃ n, ∀ i, i < len → ∃ pl, DataW.trod enc P W base spare held n e ((List.range size).map fun j => V (i * size + j)) = some (Ds[i]?.getD .nil, pl) := by
  rcases Go.Deep.open_slice ht h with ⟨rfl, rfl⟩ | ⟨a, len, cap, m, n, D, Pl, rfl, hb, hl, hm, hmm, rfl, hx⟩
  · exact ⟨none, 0, 0, fun _ => undef, [], rfl, Nat.le_refl _, Nat.zero_le _, by rw [Nat.zero_mul]; exact Rd.empty, rfl, .inl ⟨rfl, rfl⟩, 0, fun i hi => absurd hi (by omega)⟩
  · have hlm : len ≤ m := by rw [hmm]; split <;> omega
    refine ⟨some a, len, cap, fun j => (W.cell? (a.add j)).getD undef, (List.range len).map D, rfl, hl, hm, ?_, by simp, .inr ⟨_, rfl⟩, n, ?_⟩
    · intro hp
      obtain ⟨b, off, spot⟩ := a
      have cellAt : ∀ j, j < len * size → ∃ u, W.cell? ((⟨b, off, spot⟩ : Addr).add j) = some u := by
        intro j hj
        obtain ⟨cs', hcs, hr⟩ := hx (j / size) (Nat.lt_of_lt_of_le (Nat.div_lt_of_lt_mul (by rwa [Nat.mul_comm] at hj)) hlm)
        rw [hc] at hcs
        obtain ⟨_, hcl, hat⟩ := World.cells?_some hcs
        have hmod : j % size < size := Nat.mod_lt _ hs
        have h1 := hat (j % size) hmod
        rw [Go.Deep.add_add, Nat.mul_comm, Nat.div_add_mod] at h1
        exact ⟨_, h1.trans (List.getElem?_eq_getElem (by omega))⟩
      obtain ⟨u0, hu0⟩ := cellAt 0 hp
      have hspot : spot = none := by simpa [Addr.add] using World.cell?_spot hu0
      subst hspot
      refine ⟨b, off, rfl, ?_, fun j hj => ?_⟩
      · have := World.block_lt_of_cell? _ _ hu0
        simpa [Addr.add] using this
      · obtain ⟨u, hu⟩ := cellAt j hj
        rw [Addr.add_lit] at hu
        simp only [Addr.add_lit, hu, Option.getD_some]
    · intro i hi
      obtain ⟨cs', hcs, hr⟩ := hx i (by omega)
      rw [hc] at hcs
      obtain ⟨_, hcl, hat⟩ := World.cells?_some hcs
      refine ⟨Pl i, ?_⟩
      have e1 : (((List.range len).map D)[i]?.getD .nil) = D i := by simp [hi]
      rw [e1, ← hr]
      congr 1
      apply List.ext_getElem
      · simp [hcl]
      · intro j hj hj2
        have h1 := hat j (by simpa using hj)
        rw [Go.Deep.add_add] at h1
        simp [h1, List.getElem?_eq_getElem hj2]

/-- A slice of elements of size cells each, each of one form: f z its cells. -/
theorem cell_slice_d {α : Type} (f : α → List Value) {ok : α → DataW H → Prop} {t e : TypeId} {size fuel : Nat} {cs : List Value} {y : DataW H × List MemPlace} (ht : P.underlying t = some (.slice e)) (hc : P.cellsOf e = size) (hs : 0 < size)
    (hf : ∀ n c y, DataW.trod enc P W base spare held n e c = some y → c.length = size → ∃ z, c = f z ∧ ok z y.1) (z0 : α)
    (h : DataW.trod enc P W base spare held fuel t cs = some y) :
    ∃ (A : Option Addr) (cap : Nat) (zs : List α) (Ds : List (DataW H)), cs = [.slice A zs.length cap] ∧ zs.length ≤ cap ∧ cap ≤ maxLen ∧ Rd W W.heap.size A (zs.length * size) (fun j => (f (zs[j / size]?.getD z0))[j % size]?.getD undef) ∧ Ds.length = zs.length ∧ Elems y.1 Ds ∧
      ∀ i, i < zs.length → ok (zs[i]?.getD z0) (Ds[i]?.getD .nil) := by
  obtain ⟨A, len, cap, V, Ds, hcs, h1, h2, h3, h4, hE, n, h5⟩ := arg_slice_d ht hc hs h
  subst hcs
  have h6 : ∀ i, i < len → ∃ z, ((List.range size).map fun j => V (i * size + j)) = f z ∧ ok z (Ds[i]?.getD .nil) := fun i hi => by
    obtain ⟨pl, hy⟩ := h5 i hi
    exact hf n _ _ hy (by simp)
  have h7 : ∃ zs : List α, zs.length = len ∧ ∀ i, i < len → ((List.range size).map fun j => V (i * size + j)) = f (zs[i]?.getD z0) ∧ ok (zs[i]?.getD z0) (Ds[i]?.getD .nil) := by
    clear h1 h3 h4 h5 h hE
    induction len with
    | zero => exact ⟨[], rfl, fun i hi => absurd hi (by omega)⟩
    | succ k ih =>
      obtain ⟨zs, hl, hz⟩ := ih fun i hi => h6 i (by omega)
      obtain ⟨z, hzz⟩ := h6 k (by omega)
      refine ⟨zs ++ [z], by simp [hl], fun i hi => ?_⟩
      by_cases hik : i < k
      · rw [List.getElem?_append_left (by omega)]
        exact hz i hik
      · obtain rfl : i = k := by omega
        rw [show (zs ++ [z])[i]? = some z by simp [← hl]]
        exact hzz
  obtain ⟨zs, rfl, hz⟩ := h7
  refine ⟨A, cap, zs, Ds, rfl, h1, h2, ?_, h4, hE, fun i hi => (hz i hi).2⟩
  refine h3.congr fun j hj => ?_
  have hq : j / size < zs.length := Nat.div_lt_of_lt_mul (by rwa [Nat.mul_comm] at hj)
  have hm : j % size < size := Nat.mod_lt _ hs
  rw [← (hz _ hq).1]
  simp only [List.getElem?_map, List.getElem?_range hm, Option.map_some, Option.getD_some]
  congr 1
  have := Nat.div_add_mod j size
  rw [Nat.mul_comm] at this
  exact this.symm
end
end Go.Proofs.YtkjndgapejbgcaaDoor

namespace Go.Proofs.YtkjndgapejbgcaaDoor
open Go.RowKit Go.ChangeShapes Go.WideShapes
set_option linter.unusedSimpArgs false

theorem cut_at {α : Type} (L : List α) (i n : Nat) : L.drop i = (L.drop i).take n ++ L.drop (i + n) := by
  have := List.take_append_drop n (L.drop i)
  rw [List.drop_drop] at this
  exact this.symm
theorem all_u8 : ∀ cs : List Value, (∀ i, i < cs.length → ∃ b : Nat, cs[i]? = some (.int .u8 (b : Int)) ∧ b < 256) → ∃ l : List Nat, cs = u8s l ∧ ∀ b ∈ l, b < 256
  | [], _ => ⟨[], rfl, by simp⟩
  | c :: cs, h => by
    obtain ⟨b, hb, hlt⟩ := h 0 (by simp)
    obtain ⟨l, rfl, hl⟩ := all_u8 cs fun i hi => by simpa using h (i + 1) (by simpa using hi)
    simp only [List.getElem?_cons_zero, Option.some.injEq] at hb
    refine ⟨b :: l, by rw [hb]; rfl, ?_⟩
    intro x hx
    rcases List.mem_cons.1 hx with rfl | hx
    · exact hlt
    · exact hl x hx
/-- What the numbers keep to. -/
def okK (x : Key32) : Prop := ∀ b ∈ x.1, b < 256
def okP (x : PartT) : Prop := okK x.1 ∧ x.2 < 18446744073709551616
def okI (x : ItemT) : Prop := x.1.size ≤ maxLen ∧ x.2.1 < 256 ∧ x.2.2.1 < 18446744073709551616 ∧ okK x.2.2.2
structure Good (o : ObjT) : Prop where
  kind : o.kind < 256
  ps : ∀ x ∈ o.parts, okP x
  xs : ∀ x ∈ o.items, okI x
  ks : ∀ x ∈ o.parents, okK x
  tree : okK o.tree
  time : -9223372036854775808 ≤ o.time ∧ o.time ≤ 9223372036854775807
  note : o.note.size ≤ maxLen

section
variable {H : Type} {enc : TypeId × Value → H} {P : Program} {W : World} {base : Nat} {spare : Nat → Bool} {held : Bool}
/-- An array of bytes: its numbers. -/
theorem cells_u8s {t e : TypeId} {n fuel : Nat} {cs : List Value} {x : DataW H × List MemPlace} (ht : P.underlying t = some (.array n e)) (he : P.underlying e = some (.int .u8)) (hc : P.cellsOf e = 1) (hl : P.cellsOf t = n)
    (h : DataW.trod enc P W base spare held fuel t cs = some x) : ∃ l : List Nat, cs = u8s l ∧ l.length = n ∧ ∀ b ∈ l, b < 256 := by
  obtain ⟨xs, m, _, _, hcl, hxl, hg⟩ := DataW.trod_array ht h
  rw [hl] at hcl
  have h1 : ∀ i, i < n → ∃ b : Nat, cs[i]? = some (.int .u8 (b : Int)) ∧ b < 256 := fun i hi => by
    have hg1 := hg i hi
    rw [hc, Nat.mul_one, List.getElem?_eq_getElem (by omega), List.drop_eq_getElem_cons (by omega)] at hg1
    simp only [List.take_succ_cons, List.take_zero] at hg1
    obtain ⟨b, hb, hlt⟩ := cell_u8 he hg1
    exact ⟨b, by rw [List.getElem?_eq_getElem (by omega), hb], hlt⟩
  obtain ⟨l, rfl, hb⟩ := all_u8 cs fun i hi => h1 i (by omega)
  rw [u8s_length] at hcl
  exact ⟨l, rfl, hcl, hb⟩
theorem cell_u64 {t : TypeId} {fuel : Nat} {c0 : List Value} {y : DataW H × List MemPlace} (ht : P.underlying t = some (.int .u64)) (h : DataW.trod enc P W base spare held fuel t c0 = some y) : ∃ b : Nat, c0 = [.int .u64 (b : Int)] ∧ b < 18446744073709551616 := by
  obtain ⟨b, hb, _, hw⟩ := DataW.trod_int ht h
  have hw2 : 0 ≤ b ∧ b < 18446744073709551616 := by
    simp [Lit.wf, IntKind.min, IntKind.max, IntKind.signed, IntKind.bits] at hw
    omega
  exact ⟨b.toNat, by rw [hb, Int.toNat_of_nonneg hw2.1], by omega⟩
theorem cells_u8 {t : TypeId} {fuel : Nat} {c0 : List Value} {y : DataW H × List MemPlace} (ht : P.underlying t = some (.int .u8)) (h : DataW.trod enc P W base spare held fuel t c0 = some y) : ∃ b : Nat, c0 = [.int .u8 (b : Int)] ∧ b < 256 := by
  obtain ⟨b, hb, _, hw⟩ := DataW.trod_int ht h
  have hw2 : 0 ≤ b ∧ b < 256 := by
    simp [Lit.wf, IntKind.min, IntKind.max, IntKind.signed, IntKind.bits] at hw
    omega
  exact ⟨b.toNat, by rw [hb, Int.toNat_of_nonneg hw2.1], by omega⟩
/-- A slice of elements of several cells, as a row. -/
theorem slice_row {α : Type} (f : α → List Value) {k : Nat} (hk : ∀ x, (f x).length = k) {ok : α → Prop} {t e : TypeId} {fuel : Nat} {cs : List Value} {y : DataW H × List MemPlace} (ht : P.underlying t = some (.slice e)) (hc : P.cellsOf e = k) (hs : 0 < k)
    (hf : ∀ n c y, DataW.trod enc P W base spare held n e c = some y → c.length = k → ∃ z, c = f z ∧ ok z) (z0 : α)
    (h : DataW.trod enc P W base spare held fuel t cs = some y) :
    ∃ (A : Option Addr) (cap : Nat) (zs : List α), cs = [.slice A zs.length cap] ∧ Row f k W W.heap.size A zs ∧ Held y.1 zs.length ∧ ∀ x ∈ zs, ok x := by
  obtain ⟨A, cap, zs, Ds, h1, _, _, h2, h3, h4, h5⟩ := cell_slice_d (ok := fun z _ => ok z) f ht hc hs hf z0 h
  refine ⟨A, cap, zs, h1, ?_, by rw [← h3]; exact h4.held_, fun x hx => ?_⟩
  · refine Rd.congr h2 fun j hj => ?_
    have hq : j / k < zs.length := Nat.div_lt_of_lt_mul (by rwa [Nat.mul_comm] at hj)
    have := flat_get hk zs (j / k) (j % k) hq (Nat.mod_lt _ hs)
    rw [Nat.mul_comm, Nat.div_add_mod] at this
    rw [this, List.getElem?_eq_getElem hq, Option.getD_some]
  · obtain ⟨i, hi, rfl⟩ := List.mem_iff_getElem.1 hx
    have := h5 i hi
    rwa [List.getElem?_eq_getElem hi, Option.getD_some] at this
end

section
variable {H : Type} {enc : TypeId × Value → H} {W : World} {base : Nat} {spare : Nat → Bool} {held : Bool}
theorem ku : Tryd.prog.cellsOf 5 = 1 := by kernel_rfl
theorem kk : Tryd.prog.cellsOf 28 = 32 := by kernel_rfl
theorem kz : Tryd.prog.cellsOf 45 = 1 := by kernel_rfl
theorem ks : Tryd.prog.cellsOf 9 = 1 := by kernel_rfl
theorem km : Tryd.prog.cellsOf 48 = 1 := by kernel_rfl
theorem key_open {n : Nat} {c : List Value} {y : DataW H × List MemPlace} (h : DataW.trod enc Tryd.prog W base spare held n 28 c = some y) : ∃ z : Key32, c = encK z ∧ okK z := by
  obtain ⟨l, rfl, hl, hb⟩ := cells_u8s Tryd.underlying28 Tryd.underlying5 ku kk h
  exact ⟨⟨l, hl⟩, rfl, hb⟩
theorem part_open {n : Nat} {c : List Value} {y : DataW H × List MemPlace} (h : DataW.trod enc Tryd.prog W base spare held n 47 c = some y) (hc : c.length = 33) : ∃ z : PartT, c = encP z ∧ okP z := by
  obtain ⟨xs, m, _, _, _, hxl, hg⟩ := DataW.trod_struct Tryd.underlying47 h
  match xs, hxl with
  | [x0, x1], _ =>
    have g0 : DataW.trod enc Tryd.prog W base spare held m 28 ((c.drop 0).take (Tryd.prog.cellsOf 28)) = some x0 := hg 0 _ rfl
    have g1 : DataW.trod enc Tryd.prog W base spare held m 45 ((c.drop 32).take (Tryd.prog.cellsOf 45)) = some x1 := hg 1 _ rfl
    rw [kk] at g0
    rw [kz] at g1
    obtain ⟨k, e0, hk⟩ := key_open g0
    obtain ⟨z, e1, hz⟩ := cell_u64 Tryd.underlying45 g1
    refine ⟨(k, z), ?_, hk, hz⟩
    have s0 := cut_at c 0 32
    have s1 := cut_at c 32 1
    rw [List.drop_eq_nil_of_le (show c.length ≤ 32 + 1 by omega), List.append_nil] at s1
    rw [List.drop_zero] at s0
    rw [List.drop_zero] at e0
    rw [s0, s1, e0, e1]
    rfl
theorem item_open {n : Nat} {c : List Value} {y : DataW H × List MemPlace} (h : DataW.trod enc Tryd.prog W base spare held n 50 c = some y) (hc : c.length = 35) : ∃ z : ItemT, c = encI z ∧ okI z := by
  obtain ⟨xs, m, _, _, _, hxl, hg⟩ := DataW.trod_struct Tryd.underlying50 h
  match xs, hxl with
  | [x0, x1, x2, x3], _ =>
    have g0 : DataW.trod enc Tryd.prog W base spare held m 9 ((c.drop 0).take (Tryd.prog.cellsOf 9)) = some x0 := hg 0 _ rfl
    have g1 : DataW.trod enc Tryd.prog W base spare held m 48 ((c.drop 1).take (Tryd.prog.cellsOf 48)) = some x1 := hg 1 _ rfl
    have g2 : DataW.trod enc Tryd.prog W base spare held m 45 ((c.drop 2).take (Tryd.prog.cellsOf 45)) = some x2 := hg 2 _ rfl
    have g3 : DataW.trod enc Tryd.prog W base spare held m 28 ((c.drop 3).take (Tryd.prog.cellsOf 28)) = some x3 := hg 3 _ rfl
    rw [ks] at g0
    rw [km] at g1
    rw [kz] at g2
    rw [kk] at g3
    obtain ⟨s, e0, _, hs⟩ := DataW.trod_string Tryd.underlying9 g0
    obtain ⟨mo, e1, hm⟩ := cells_u8 Tryd.underlying48 g1
    obtain ⟨z, e2, hz⟩ := cell_u64 Tryd.underlying45 g2
    obtain ⟨k, e3, hk⟩ := key_open g3
    refine ⟨(s, mo, z, k), ?_, hs, hm, hz, hk⟩
    have s0 := cut_at c 0 1
    have s1 := cut_at c 1 1
    have s2 := cut_at c 2 1
    have s3 := cut_at c 3 32
    rw [List.drop_eq_nil_of_le (show c.length ≤ 3 + 32 by omega), List.append_nil] at s3
    rw [List.drop_zero] at s0
    rw [List.drop_zero] at e0
    rw [s0, s1, s2, s3, e0, e1, e2, e3]
    rfl
end

section
variable {H : Type} {enc : TypeId × Value → H}
set_option maxRecDepth 100000 in
theorem object_open (W : World) (base : Nat) (v0 : Value) (d0 : DataW H) (p0 : List MemPlace)
    (o0 : Value.okWide Tryd.prog W .any base 31 v0) (h0 : DataW.Trod enc Tryd.prog W 0 (fun _ => true) true 31 v0 d0 p0)
    {ts : List TypeId} {ds : List (DataW H)} {jj : Nat} (hsz : (DataW.weightsEach Tryd.prog ts ds).all (· ≤ reachBytes) = true) (hj : ts[jj]? = some 31) (hd : ds[jj]? = some d0) :
    ∃ o p, v0 = .agg (ocells o p).toArray ∧ ObjIn W W.heap.size o p ∧ Fit o ∧ Good o := by
  obtain ⟨cs, rfl, hcs⟩ := okWide_struct Tryd.underlying31 o0
  obtain ⟨fuel, hf0⟩ := h0
  obtain ⟨xs, m, _, hx, _, hxl, hg⟩ := DataW.trod_struct Tryd.underlying31 hf0
  have h39 : cs.toList.length = 39 := by rw [Array.length_toList, hcs]; kernel_rfl
  have k1 : Tryd.prog.cellsOf 23 = 1 := by kernel_rfl
  have k2 : Tryd.prog.cellsOf 24 = 1 := by kernel_rfl
  have k3 : Tryd.prog.cellsOf 25 = 1 := by kernel_rfl
  have k4 : Tryd.prog.cellsOf 26 = 1 := by kernel_rfl
  have k5 : Tryd.prog.cellsOf 29 = 1 := by kernel_rfl
  have k6 : Tryd.prog.cellsOf 2 = 1 := by kernel_rfl
  match xs, hxl with
  | [x0, x1, x2, x3, x4, x5, x6, x7], _ =>
    have g0 : DataW.trod enc Tryd.prog W 0 (fun _ => true) true m 23 ((cs.toList.drop 0).take (Tryd.prog.cellsOf 23)) = some x0 := hg 0 _ rfl
    have g1 : DataW.trod enc Tryd.prog W 0 (fun _ => true) true m 24 ((cs.toList.drop 1).take (Tryd.prog.cellsOf 24)) = some x1 := hg 1 _ rfl
    have g2 : DataW.trod enc Tryd.prog W 0 (fun _ => true) true m 25 ((cs.toList.drop 2).take (Tryd.prog.cellsOf 25)) = some x2 := hg 2 _ rfl
    have g3 : DataW.trod enc Tryd.prog W 0 (fun _ => true) true m 26 ((cs.toList.drop 3).take (Tryd.prog.cellsOf 26)) = some x3 := hg 3 _ rfl
    have g4 : DataW.trod enc Tryd.prog W 0 (fun _ => true) true m 28 ((cs.toList.drop 4).take (Tryd.prog.cellsOf 28)) = some x4 := hg 4 _ rfl
    have g5 : DataW.trod enc Tryd.prog W 0 (fun _ => true) true m 29 ((cs.toList.drop 36).take (Tryd.prog.cellsOf 29)) = some x5 := hg 5 _ rfl
    have g6 : DataW.trod enc Tryd.prog W 0 (fun _ => true) true m 2 ((cs.toList.drop 37).take (Tryd.prog.cellsOf 2)) = some x6 := hg 6 _ rfl
    have g7 : DataW.trod enc Tryd.prog W 0 (fun _ => true) true m 9 ((cs.toList.drop 38).take (Tryd.prog.cellsOf 9)) = some x7 := hg 7 _ rfl
    rw [k1] at g0
    rw [k2] at g1
    rw [k3] at g2
    rw [k4] at g3
    rw [kk] at g4
    rw [k5] at g5
    rw [k6] at g6
    rw [ks] at g7
    obtain ⟨kd, e0, hkd⟩ := cells_u8 Tryd.underlying23 g0
    have hd1 : ∃ c, (cs.toList.drop 1).take 1 = [c] := by
      rw [List.drop_eq_getElem_cons (by omega)]
      exact ⟨_, rfl⟩
    obtain ⟨c1, hc1⟩ := hd1
    rw [hc1] at g1
    obtain ⟨A1, n1, dl, e1, _, _, r1, hh1, b1⟩ := cell_bytes Tryd.underlying24 Tryd.underlying5 ku g1
    rw [e1] at hc1
    obtain ⟨A2, n2, pl, e2, r2, hh2, b2⟩ := slice_row encP encP_length (ok := okP) Tryd.underlying25 (by kernel_rfl) (by decide) (fun n c y hy hc => part_open hy hc) (zK, 0) g2
    obtain ⟨A3, n3, il, e3, r3, hh3, b3⟩ := slice_row encI encI_length (ok := okI) Tryd.underlying26 (by kernel_rfl) (by decide) (fun n c y hy hc => item_open hy hc) mkI g3
    obtain ⟨tr, e4, b4⟩ := key_open g4
    obtain ⟨A5, n5, kl, e5, r5, hh5, b5⟩ := slice_row encK encK_length (ok := okK) Tryd.underlying29 (by kernel_rfl) (by decide) (fun n c y hy _ => key_open hy) zK g5
    have hd6 : ∃ c, (cs.toList.drop 37).take 1 = [c] := by
      rw [List.drop_eq_getElem_cons (by omega)]
      exact ⟨_, rfl⟩
    obtain ⟨c6, hc6⟩ := hd6
    rw [hc6] at g6
    obtain ⟨tm, e6, b6⟩ := cell_i64 Tryd.underlying2 g6
    rw [e6] at hc6
    obtain ⟨nt, e7, _, b7⟩ := DataW.trod_string Tryd.underlying9 g7
    simp only [Prod.mk.injEq] at hx
    obtain ⟨rfl, _⟩ := hx
    have hp := reach_struct (j := jj) hsz hj hd Tryd.underlying31
    have l1 := hh1.reach (j := 1) (size := 1) hp rfl rfl Tryd.underlying24 (by kernel_rfl)
    have l2 := hh2.reach (j := 2) (size := 40) hp rfl rfl Tryd.underlying25 (by kernel_rfl)
    have l3 := hh3.reach (j := 3) (size := 64) hp rfl rfl Tryd.underlying26 (by kernel_rfl)
    have l5 := hh5.reach (j := 5) (size := 32) hp rfl rfl Tryd.underlying29 (by kernel_rfl)
    refine ⟨⟨kd, dl, pl, il, tr, kl, tm, nt⟩, ⟨A1, A2, A3, A5, n1, n2, n3, n5⟩, ?_, ⟨r1, r2, r3, r5⟩, ⟨by simp only; omega, by simp only; omega, by simp only; omega, by simp only; omega, b1⟩, ⟨hkd, b2, b3, b5, b4, b6, b7⟩⟩
    congr 1
    apply Array.toList_inj.1
    have s0 := cut_at cs.toList 0 1
    have s1 := cut_at cs.toList 1 1
    have s2 := cut_at cs.toList 2 1
    have s3 := cut_at cs.toList 3 1
    have s4 := cut_at cs.toList 4 32
    have s5 := cut_at cs.toList 36 1
    have s6 := cut_at cs.toList 37 1
    have s7 := cut_at cs.toList 38 1
    rw [List.drop_eq_nil_of_le (show cs.toList.length ≤ 38 + 1 by omega), List.append_nil] at s7
    rw [List.drop_zero] at s0
    rw [List.drop_zero] at e0
    rw [s0, s1, s2, s3, s4, s5, s6, s7, e0, hc1, e2, e3, e4, e5, hc6, e7]
    rfl
end
end Go.Proofs.YtkjndgapejbgcaaDoor

/- Arguments of a law opened: from what they read as to what their cells hold. No program is named here. -/
import Derived.Test.YtgjokkjmljdmbaaBase
import Derived.ProofKit
import Derived.OpenShut
import Derived.Deep.Slices
import Derived.SizedLaws
namespace Go.Proofs.Ytgjokkjmljdmbaa
open Go.RowKit Go.ChangeShapes Go.WideShapes

section
variable {H : Type} {enc : TypeId × Value → H} {P : Program} {W : World} {r : Reach} {base b0 : Nat} {spare : Nat → Bool} {held : Bool}

theorem trod_float {k : FloatKind} {t : TypeId} {cs : List Value} {fuel : Nat} {x : DataW H × List MemPlace} (ht : P.underlying t = some (.float k)) (h : DataW.trod enc P W base spare held fuel t cs = some x) :
    ∃ b, cs = [.float k b] ∧ (Lit.float k b).wf = true := by
  cases fuel with
  | zero => simp [DataW.trod] at h
  | succ n =>
    unfold DataW.trod at h
    rw [ht] at h
    split at h <;> simp_all

/-- How many elements were read: for the reach. -/
def Held (d : DataW H) (len : Nat) : Prop := (d = .nil ∧ len = 0) ∨ ∃ es sp, d = .slice es sp ∧ es.length = len

theorem Held.reach {d : DataW H} {len j : Nat} (h : Held d len) {ts : List TypeId} {ds : List (DataW H)} {t e : TypeId} {size : Nat} (hsz : (DataW.weightsEach P ts ds).all (· ≤ reachBytes) = true) (hj : ts[j]? = some t) (hd : ds[j]? = some d) (ht : P.underlying t = some (.slice e))
    (hs : P.bytesOf e = size) : len * size ≤ 140737488351232 := by
  rcases h with ⟨_, rfl⟩ | ⟨es, sp, rfl, rfl⟩
  · simp
  · have := sized_slice hsz hj hd ht
    rw [hs] at this
    have h2 : es.length * size ≤ (es.length + sp.length) * size := Nat.mul_le_mul_right _ (by omega)
    have : reachBytes = 140737488351232 := rfl
    omega

/-- A slice, whatever its elements: its cells from A on, element by element. -/
theorem arg_slice {t e : TypeId} {size fuel : Nat} {cs : List Value} {x : DataW H × List MemPlace} (ht : P.underlying t = some (.slice e)) (hc : P.cellsOf e = size) (hs : 0 < size)
    (h : DataW.trod enc P W base spare held fuel t cs = some x) :
    ∃ (A : Option Addr) (len cap : Nat) (V : Nat → Value), cs = [.slice A len cap] ∧ len ≤ cap ∧ cap ≤ maxLen ∧ Rd W W.heap.size A (len * size) V ∧ Held x.1 len ∧
      ∃ n, ∀ i, i < len → ∃ y, DataW.trod enc P W base spare held n e ((List.range size).map fun j => V (i * size + j)) = some y := by
  rcases Go.Deep.open_slice ht h with ⟨rfl, rfl⟩ | ⟨a, len, cap, m, n, D, Pl, rfl, hb, hl, hm, hmm, rfl, hx⟩
  · exact ⟨none, 0, 0, fun _ => undef, rfl, Nat.le_refl _, Nat.zero_le _, by rw [Nat.zero_mul]; exact Rd.empty, .inl ⟨rfl, rfl⟩, 0, fun i hi => absurd hi (by omega)⟩
  · have hlm : len ≤ m := by rw [hmm]; split <;> omega
    refine ⟨some a, len, cap, fun j => (W.cell? (a.add j)).getD undef, rfl, hl, hm, ?_, .inr ⟨_, _, rfl, by simp⟩, n, ?_⟩
    · intro hp
      obtain ⟨b, off, spot⟩ := a
      have cellAt : ∀ j, j < len * size → ∃ u, W.cell? ((⟨b, off, spot⟩ : Addr).add j) = some u := by
        intro j hj
        obtain ⟨cs', hcs, hr⟩ := hx (j / size) (Nat.lt_of_lt_of_le (Nat.div_lt_of_lt_mul (by rwa [Nat.mul_comm] at hj)) hlm)
        rw [hc] at hcs
        obtain ⟨_, hcl, hat⟩ := World.cells?_some hcs
        have hmod : j % size < size := Nat.mod_lt _ hs
        have h1 := hat (j % size) hmod
        rw [Go.Deep.add_add, Nat.mul_comm, Nat.div_add_mod] at h1
        exact ⟨_, h1.trans (List.getElem?_eq_getElem (by omega))⟩
      obtain ⟨u0, hu0⟩ := cellAt 0 hp
      have hspot : spot = none := by simpa [Addr.add] using World.cell?_spot hu0
      subst hspot
      refine ⟨b, off, rfl, ?_, fun j hj => ?_⟩
      · have := World.block_lt_of_cell? _ _ hu0
        simpa [Addr.add] using this
      · obtain ⟨u, hu⟩ := cellAt j hj
        rw [Addr.add_lit] at hu
        simp only [Addr.add_lit, hu, Option.getD_some]
    · intro i hi
      obtain ⟨cs', hcs, hr⟩ := hx i (by omega)
      rw [hc] at hcs
      obtain ⟨_, hcl, hat⟩ := World.cells?_some hcs
      refine ⟨(D i, Pl i), ?_⟩
      rw [← hr]
      congr 1
      apply List.ext_getElem
      · simp [hcl]
      · intro j hj hj2
        have h1 := hat j (by simpa using hj)
        rw [Go.Deep.add_add] at h1
        simp [h1, List.getElem?_eq_getElem hj2]

theorem arg_slice_v {t e : TypeId} {size : Nat} {v : Value} {d : DataW H} {ps : List MemPlace} (ht : P.underlying t = some (.slice e)) (hc : P.cellsOf e = size) (hs : 0 < size)
    (hv : Value.okWide P W r b0 t v) (h : DataW.Trod enc P W base spare held t v d ps) :
    ∃ (A : Option Addr) (len cap : Nat) (V : Nat → Value), v = .slice A len cap ∧ len ≤ cap ∧ cap ≤ maxLen ∧ Rd W W.heap.size A (len * size) V ∧ Held d len ∧
      ∃ n, ∀ i, i < len → ∃ y, DataW.trod enc P W base spare held n e ((List.range size).map fun j => V (i * size + j)) = some y := by
  obtain ⟨a0, len0, cap0, rfl⟩ := okWide_slice ht hv
  obtain ⟨fuel, hf⟩ := h
  obtain ⟨A, len, cap, V, hcs, h1, h2, h3, h4, h5⟩ := arg_slice ht hc hs hf
  simp [Value.cells] at hcs
  obtain ⟨rfl, rfl, rfl⟩ := hcs
  exact ⟨_, _, _, V, rfl, h1, h2, h3, h4, h5⟩

/-- A slice of elements of one cell each, each of one form. -/
theorem arg_slice1 {α : Type} (f : α → Value) {ok : α → Prop} {t e : TypeId} {v : Value} {d : DataW H} {ps : List MemPlace} (ht : P.underlying t = some (.slice e)) (hc : P.cellsOf e = 1)
    (hf : ∀ n c y, DataW.trod enc P W base spare held n e [c] = some y → ∃ z, c = f z ∧ ok z) (z0 : α)
    (hv : Value.okWide P W r b0 t v) (h : DataW.Trod enc P W base spare held t v d ps) :
    ∃ (A : Option Addr) (cap : Nat) (zs : List α), v = .slice A zs.length cap ∧ zs.length ≤ cap ∧ cap ≤ maxLen ∧ Rd W W.heap.size A zs.length (fun j => f (zs[j]?.getD z0)) ∧ Held d zs.length ∧ ∀ z ∈ zs, ok z := by
  obtain ⟨A, len, cap, V, rfl, h1, h2, h3, h4, n, h5⟩ := arg_slice_v ht hc (by omega) hv h
  have h6 : ∀ i, i < len → ∃ z, V i = f z ∧ ok z := fun i hi => by
    obtain ⟨y, hy⟩ := h5 i hi
    exact hf n (V i) y (by simpa using hy)
  have h7 : ∃ zs : List α, zs.length = len ∧ ∀ i, i < len → ∃ z, zs[i]? = some z ∧ V i = f z ∧ ok z := by
    clear h1 h3 h4 h5 h hv
    induction len with
    | zero => exact ⟨[], rfl, fun i hi => absurd hi (by omega)⟩
    | succ k ih =>
      obtain ⟨zs, hl, hz⟩ := ih fun i hi => h6 i (by omega)
      obtain ⟨z, hzz⟩ := h6 k (by omega)
      refine ⟨zs ++ [z], by simp [hl], fun i hi => ?_⟩
      by_cases hik : i < k
      · obtain ⟨z', h', r'⟩ := hz i hik
        exact ⟨z', by rw [List.getElem?_append_left (by omega)]; exact h', r'⟩
      · obtain rfl : i = k := by omega
        exact ⟨z, by simp [← hl], hzz⟩
  obtain ⟨zs, rfl, hz⟩ := h7
  refine ⟨A, cap, zs, rfl, h1, h2, ?_, h4, ?_⟩
  · rw [Nat.mul_one] at h3
    exact h3.congr fun j hj => by
      obtain ⟨z, h', h'', _⟩ := hz j hj
      rw [h'', h', Option.getD_some]
  · intro z hm
    obtain ⟨i, hi, rfl⟩ := List.mem_iff_getElem.1 hm
    obtain ⟨z', h', _, h''⟩ := hz i hi
    rw [List.getElem?_eq_getElem hi] at h'
    cases h'
    exact h''

theorem arg_floats {t e : TypeId} {k : FloatKind} {v : Value} {d : DataW H} {ps : List MemPlace} (ht : P.underlying t = some (.slice e)) (he : P.underlying e = some (.float k)) (hc : P.cellsOf e = 1)
    (hv : Value.okWide P W r b0 t v) (h : DataW.Trod enc P W base spare held t v d ps) :
    ∃ (A : Option Addr) (cap : Nat) (zs : List Nat), v = .slice A zs.length cap ∧ zs.length ≤ cap ∧ cap ≤ maxLen ∧ Rd W W.heap.size A zs.length (fun j => .float k (zs[j]?.getD 0)) ∧ Held d zs.length ∧ ∀ z ∈ zs, (Lit.float k z).wf = true :=
  arg_slice1 (.float k) ht hc (fun n c y hy => by obtain ⟨b, hb, hw⟩ := trod_float he hy; exact ⟨b, by simpa using hb, hw⟩) 0 hv h
theorem arg_ints {t e : TypeId} {k : IntKind} {v : Value} {d : DataW H} {ps : List MemPlace} (ht : P.underlying t = some (.slice e)) (he : P.underlying e = some (.int k)) (hc : P.cellsOf e = 1)
    (hv : Value.okWide P W r b0 t v) (h : DataW.Trod enc P W base spare held t v d ps) :
    ∃ (A : Option Addr) (cap : Nat) (zs : List Int), v = .slice A zs.length cap ∧ zs.length ≤ cap ∧ cap ≤ maxLen ∧ Rd W W.heap.size A zs.length (fun j => .int k (zs[j]?.getD 0)) ∧ Held d zs.length ∧ ∀ z ∈ zs, (Lit.int k z).wf = true :=
  arg_slice1 (.int k) ht hc (fun n c y hy => by obtain ⟨b, hb, _, hw⟩ := DataW.trod_int he hy; exact ⟨b, by simpa using hb, hw⟩) 0 hv h
/-- A slice of bytes: its list of numbers. -/
theorem arg_bytes {t e : TypeId} {v : Value} {d : DataW H} {ps : List MemPlace} (ht : P.underlying t = some (.slice e)) (he : P.underlying e = some (.int .u8)) (hc : P.cellsOf e = 1)
    (hv : Value.okWide P W r b0 t v) (h : DataW.Trod enc P W base spare held t v d ps) :
    ∃ (A : Option Addr) (cap : Nat) (l : List Nat), v = .slice A l.length cap ∧ l.length ≤ cap ∧ cap ≤ maxLen ∧ Byt W W.heap.size A l ∧ Held d l.length ∧ ∀ z ∈ l, z < 256 := by
  obtain ⟨A, cap, zs, rfl, h1, h2, h3, h4, h5⟩ := arg_ints ht he hc hv h
  have h6 : ∀ z ∈ zs, 0 ≤ z ∧ z < 256 := fun z hz => by
    have := h5 z hz
    simp [Lit.wf, IntKind.min, IntKind.max, IntKind.signed, IntKind.bits] at this
    omega
  have hl : (zs.map Int.toNat).length = zs.length := by simp
  refine ⟨A, cap, zs.map Int.toNat, by rw [hl], by rw [hl]; exact h1, h2, ?_, by rw [hl]; exact h4, ?_⟩
  · intro hn
    rw [hl] at hn ⊢
    obtain ⟨b, off, e1, e2, e3⟩ := h3 hn
    refine ⟨b, off, e1, e2, fun j hj => (e3 j hj).trans ?_⟩
    have := h6 _ (List.getElem_mem hj)
    simp only [List.getElem?_map, List.getElem?_eq_getElem hj, Option.map_some, Option.getD_some]
    rw [Int.toNat_of_nonneg this.1]
  · intro z hz
    obtain ⟨x, hx, rfl⟩ := List.mem_map.1 hz
    have := h6 x hx
    omega
theorem arg_bools {t e : TypeId} {v : Value} {d : DataW H} {ps : List MemPlace} (ht : P.underlying t = some (.slice e)) (he : P.underlying e = some .bool) (hc : P.cellsOf e = 1)
    (hv : Value.okWide P W r b0 t v) (h : DataW.Trod enc P W base spare held t v d ps) :
    ∃ (A : Option Addr) (cap : Nat) (zs : List Bool), v = .slice A zs.length cap ∧ zs.length ≤ cap ∧ cap ≤ maxLen ∧ Rd W W.heap.size A zs.length (fun j => .bool (zs[j]?.getD false)) ∧ Held d zs.length ∧ ∀ z ∈ zs, True :=
  arg_slice1 .bool (ok := fun _ => True) ht hc (fun n c y hy => by obtain ⟨b, hb, _⟩ := DataW.trod_bool he hy; exact ⟨b, by simpa using hb, trivial⟩) false hv h
/-- The same of a field's cell. -/
theorem cell_slice1 {α : Type} (f : α → Value) {ok : α → Prop} {t e : TypeId} {fuel : Nat} {c0 : Value} {y : DataW H × List MemPlace} (ht : P.underlying t = some (.slice e)) (hc : P.cellsOf e = 1)
    (hf : ∀ n c y, DataW.trod enc P W base spare held n e [c] = some y → ∃ z, c = f z ∧ ok z) (z0 : α)
    (h : DataW.trod enc P W base spare held fuel t [c0] = some y) :
    ∃ (A : Option Addr) (cap : Nat) (zs : List α), c0 = .slice A zs.length cap ∧ zs.length ≤ cap ∧ cap ≤ maxLen ∧ Rd W W.heap.size A zs.length (fun j => f (zs[j]?.getD z0)) ∧ Held y.1 zs.length ∧ ∀ z ∈ zs, ok z := by
  obtain ⟨A, len, cap, V, hcs, h1, h2, h3, h4, n, h5⟩ := arg_slice ht hc (by omega) h
  simp only [List.cons.injEq, and_true] at hcs
  subst hcs
  have h6 : ∀ i, i < len → ∃ z, V i = f z ∧ ok z := fun i hi => by
    obtain ⟨y, hy⟩ := h5 i hi
    exact hf n (V i) y (by simpa using hy)
  have h7 : ∃ zs : List α, zs.length = len ∧ ∀ i, i < len → ∃ z, zs[i]? = some z ∧ V i = f z ∧ ok z := by
    clear h1 h3 h4 h5 h
    induction len with
    | zero => exact ⟨[], rfl, fun i hi => absurd hi (by omega)⟩
    | succ k ih =>
      obtain ⟨zs, hl, hz⟩ := ih fun i hi => h6 i (by omega)
      obtain ⟨z, hzz⟩ := h6 k (by omega)
      refine ⟨zs ++ [z], by simp [hl], fun i hi => ?_⟩
      by_cases hik : i < k
      · obtain ⟨z', h', r'⟩ := hz i hik
        exact ⟨z', by rw [List.getElem?_append_left (by omega)]; exact h', r'⟩
      · obtain rfl : i = k := by omega
        exact ⟨z, by simp [← hl], hzz⟩
  obtain ⟨zs, rfl, hz⟩ := h7
  refine ⟨A, cap, zs, rfl, h1, h2, ?_, h4, ?_⟩
  · rw [Nat.mul_one] at h3
    exact h3.congr fun j hj => by
      obtain ⟨z, h', h'', _⟩ := hz j hj
      rw [h'', h', Option.getD_some]
  · intro z hm
    obtain ⟨i, hi, rfl⟩ := List.mem_iff_getElem.1 hm
    obtain ⟨z', h', _, h''⟩ := hz i hi
    rw [List.getElem?_eq_getElem hi] at h'
    cases h'
    exact h''
theorem cell_bytes {t e : TypeId} {fuel : Nat} {c0 : Value} {y : DataW H × List MemPlace} (ht : P.underlying t = some (.slice e)) (he : P.underlying e = some (.int .u8)) (hc : P.cellsOf e = 1)
    (h : DataW.trod enc P W base spare held fuel t [c0] = some y) :
    ∃ (A : Option Addr) (cap : Nat) (l : List Nat), c0 = .slice A l.length cap ∧ l.length ≤ cap ∧ cap ≤ maxLen ∧ Byt W W.heap.size A l ∧ Held y.1 l.length ∧ ∀ z ∈ l, z < 256 := by
  obtain ⟨A, cap, zs, rfl, h1, h2, h3, h4, h5⟩ := cell_slice1 (fun z : Nat => .int .u8 (z : Int)) (ok := fun z => z < 256) ht hc (fun n c y hy => by
    obtain ⟨b, hb, _, hw⟩ := DataW.trod_int he hy
    have hw2 : 0 ≤ b ∧ b < 256 := by
      simp [Lit.wf, IntKind.min, IntKind.max, IntKind.signed, IntKind.bits] at hw
      omega
    exact ⟨b.toNat, by simp only [List.cons.injEq, and_true] at hb; rw [hb, Int.toNat_of_nonneg hw2.1], by omega⟩) 0 h
  exact ⟨A, cap, zs, rfl, h1, h2, h3, h4, h5⟩
theorem cell_u8 {t : TypeId} {fuel : Nat} {c0 : Value} {y : DataW H × List MemPlace} (ht : P.underlying t = some (.int .u8)) (h : DataW.trod enc P W base spare held fuel t [c0] = some y) : ∃ b : Nat, c0 = .int .u8 (b : Int) ∧ b < 256 := by
  obtain ⟨b, hb, _, hw⟩ := DataW.trod_int ht h
  have hw2 : 0 ≤ b ∧ b < 256 := by
    simp [Lit.wf, IntKind.min, IntKind.max, IntKind.signed, IntKind.bits] at hw
    omega
  exact ⟨b.toNat, by simp only [List.cons.injEq, and_true] at hb; rw [hb, Int.toNat_of_nonneg hw2.1], by omega⟩
theorem cell_i64 {t : TypeId} {fuel : Nat} {c0 : Value} {y : DataW H × List MemPlace} (ht : P.underlying t = some (.int .i64)) (h : DataW.trod enc P W base spare held fuel t [c0] = some y) : ∃ b : Int, c0 = .int .i64 b ∧ -9223372036854775808 ≤ b ∧ b ≤ 9223372036854775807 := by
  obtain ⟨b, hb, _, hw⟩ := DataW.trod_int ht h
  refine ⟨b, by simpa using hb, ?_⟩
  simp [Lit.wf, IntKind.min, IntKind.max, IntKind.signed, IntKind.bits] at hw
  omega
theorem cell_bool {t : TypeId} {fuel : Nat} {c0 : Value} {y : DataW H × List MemPlace} (ht : P.underlying t = some .bool) (h : DataW.trod enc P W base spare held fuel t [c0] = some y) : ∃ b : Bool, c0 = .bool b := by
  obtain ⟨b, hb, _⟩ := DataW.trod_bool ht h
  exact ⟨b, by simpa using hb⟩
/-- A struct's parts keep within the reach, each. -/
theorem reach_struct {ts : List TypeId} {ds parts : List (DataW H)} {j : Nat} {t : TypeId} {fs : Array Field} (h : (DataW.weightsEach P ts ds).all (· ≤ reachBytes) = true) (hj : ts[j]? = some t) (hd : ds[j]? = some (.agg parts)) (hu : P.underlying t = some (.struct fs)) :
    (DataW.weightsEach P (fs.toList.map (·.type)) parts).all (· ≤ reachBytes) = true := by
  rw [List.all_eq_true] at h ⊢
  intro n hn
  refine h n (DataW.weights_mem_each hj hd n ?_)
  unfold DataW.weights
  rw [hu]
  exact hn
end
end Go.Proofs.Ytgjokkjmljdmbaa

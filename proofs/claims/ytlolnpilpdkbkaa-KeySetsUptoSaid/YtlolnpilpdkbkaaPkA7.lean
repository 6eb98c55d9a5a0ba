/- Sets of keys as rising lists: the calls. Rows of keys. slices.SortFunc of keys, laid by the shelf. (Written by the shelf's laying, turned into a template by tools/totpl.py.) sorted: a set's keys, rising, in a row of its own. -/
import Derived.Test.YtlolnpilpdkbkaaPkA6
import Derived.Great.Walk
import Derived.Shelf.SlSortCmp.NoneTotal
import Derived.Test.YtlolnpilpdkbkaaProg

namespace Go.Proofs.Ytlolnpilpdkbkaa
open Go.RowKit Go.Maps
set_option linter.unusedSimpArgs false
set_option linter.unusedVariables false

theorem hasK_any (w : World) (s m n : Nat) (ks : List (List Nat)) (h : SetK w s m n ks) (x : List Nat) (hx : IsK x) :
    Calls Try.prog 16 #[.pointer (some ⟨s, 0, none⟩), .agg (u8s x).toArray] w fun e w' => e = .returned (.bool (decide (x ∈ ks))) ∧ Below w.heap.size w w' := by
  obtain ⟨D, h1, h2⟩ := h
  obtain ⟨l, hl⟩ := keyOf_u8s x hx.1 hx.2
  have := setHas_any w s m n D h1 x hx.1 l hl
  rw [h2.has hl] at this
  exact this
def AddK (w : World) (s m n : Nat) (ks : List (List Nat)) (x : List Nat) (e : Ending) (w' : World) : Prop :=
  e = .returned (.bool (!decide (x ∈ ks))) ∧ SetK w' s m (n + 1) (insK x ks) ∧ w.grownBy w' (some m)
theorem addK_any (w : World) (s m n : Nat) (ks : List (List Nat)) (h : SetK w s m n ks) (hn : n < 140737488355328) (x : List Nat) (hx : IsK x) :
    Calls Try.prog 46 #[.pointer (some ⟨s, 0, none⟩), .agg (u8s x).toArray] w (AddK w s m n ks x) := by
  obtain ⟨D, h1, h2⟩ := h
  obtain ⟨l, hl⟩ := keyOf_u8s x hx.1 hx.2
  refine (setAdd_any w s m n D h1 hn x hx.1 l hl).mono ?_
  rintro e w' ⟨he, hs, hg⟩
  refine ⟨by rw [he, h2.has hl], ⟨_, hs, ?_⟩, hg⟩
  unfold addD
  split
  · rename_i hh
    rw [h2.has hl] at hh
    rw [insK_of_mem h2.rise (of_decide_eq_true hh)]
    exact h2
  · exact h2.put hl
def NextK (w : World) (ks : List (List Nat)) (any : Bool) (af : List Nat) (e : Ending) (w' : World) : Prop :=
  e = .returned (.tuple #[.agg (u8s ((ks.find? (passK any af)).getD (zeros 32))).toArray, .bool (ks.find? (passK any af)).isSome]) ∧ Below w.heap.size w w'
theorem nextK_any (w : World) (s m n : Nat) (ks : List (List Nat)) (h : SetK w s m n ks) (any : Bool) (af : List Nat) (haf : IsK af) :
    Calls Try.prog 17 #[.pointer (some ⟨s, 0, none⟩), .agg (u8s af).toArray, .bool any] w (NextK w ks any af) := by
  obtain ⟨D, h1, h2⟩ := h
  refine (next_any w s m n D h1 any af haf.1 haf.2).mono ?_
  rintro e w' ⟨F, L, he, hn, hb⟩
  obtain ⟨rfl, rfl⟩ := h2.next hn
  exact ⟨he, hb⟩
/-- A list of keys in memory. -/
def KeyRow (w : World) (A : Option Addr) (xs : List (List Nat)) : Prop :=
  ∀ (k : Nat) x, xs[k]? = some x → IsK x ∧ ∃ b off, A = some ⟨b, off, none⟩ ∧ b < w.heap.size ∧ w.rangeAt b (off + k * 32) (u8s x)
theorem KeyRow.nil (w : World) (A : Option Addr) : KeyRow w A [] := fun k x h => by simp at h
def NewK (w : World) (xs : List (List Nat)) (e : Ending) (w' : World) : Prop :=
  e = .returned (.pointer (some ⟨w.heap.size + 1, 0, none⟩)) ∧ SetK w' (w.heap.size + 1) w.heap.size xs.length (insAll xs []) ∧ Below w.heap.size w w'
theorem lits_of : ∀ xs : List (List Nat), (∀ x ∈ xs, IsK x) → ∃ ls : List Lit, ls.length = xs.length ∧ ∀ (k : Nat) x l, xs[k]? = some x → ls[k]? = some l → keyOf Try.prog 25 (.agg (u8s x).toArray) = some l
  | [], _ => ⟨[], rfl, fun k x l h => by simp at h⟩
  | x :: xs, h => by
    obtain ⟨l, hl⟩ := keyOf_u8s x (h x (by simp)).1 (h x (by simp)).2
    obtain ⟨ls, h1, h2⟩ := lits_of xs fun y hy => h y (by simp [hy])
    refine ⟨l :: ls, by simp [h1], fun k y l' h3 h4 => ?_⟩
    cases k with
    | zero => simp at h3 h4; rw [← h3, ← h4]; exact hl
    | succ k => exact h2 k y l' (by simpa using h3) (by simpa using h4)
theorem newK_any (w : World) (A : Option Addr) (xs : List (List Nat)) (n c : Nat) (hn : xs.length = n) (hL : n < 140737488355328) (hA : KeyRow w A xs) :
    Calls Try.prog 10 #[.slice A n c] w (NewK w xs) := by
  have hok : ∀ x ∈ xs, IsK x := fun x hx => by
    obtain ⟨k, hk, rfl⟩ := List.mem_iff_getElem.1 hx
    exact (hA k _ (List.getElem?_eq_getElem hk)).1
  obtain ⟨ls, h1, h2⟩ := lits_of xs hok
  have hK : KeysAt w A ls := fun k l hl => by
    have hkl := (List.getElem?_eq_some_iff.1 hl).1
    obtain ⟨h3, b, off, e, hb, hr⟩ := hA k xs[k] (List.getElem?_eq_getElem (by omega))
    exact ⟨b, off, xs[k]'(by omega), e, hb, h3.1, hr, h2 k _ l (List.getElem?_eq_getElem (by omega)) hl⟩
  refine (newSet_any w A ls n c (by omega) hL hK).mono ?_
  rintro e w' ⟨he, hs, hb⟩
  refine ⟨he, ⟨_, by rw [List.take_length] at hs; rw [← h1]; exact hs, ?_⟩, hb⟩
  exact ksOf_fold xs ls _ _ KsOf.empty h1.symm h2
end Go.Proofs.Ytlolnpilpdkbkaa

namespace Go.Proofs.Ytlolnpilpdkbkaa
open Go.RowKit Go.Maps
set_option linter.unusedSimpArgs false
set_option linter.unusedVariables false

def rowsK (l : List (List Nat)) : List Value := l.flatMap u8s
theorem rowsK_append (a b : List (List Nat)) : rowsK (a ++ b) = rowsK a ++ rowsK b := by simp [rowsK]
theorem rowsK_one (x : List Nat) : rowsK [x] = u8s x := by simp [rowsK]
theorem rowsK_length : ∀ {l : List (List Nat)}, (∀ x ∈ l, x.length = 32) → (rowsK l).length = l.length * 32
  | [], _ => by simp [rowsK]
  | x :: l, h => by
    have := rowsK_length (l := l) fun y hy => h y (by simp [hy])
    simp only [rowsK, List.flatMap_cons, List.length_append, u8s_length, h x (by simp), List.length_cons] at this ⊢
    omega
theorem rowsK_get : ∀ {l : List (List Nat)}, (∀ x ∈ l, x.length = 32) → ∀ {j i : Nat} {x : List Nat}, l[j]? = some x → i < 32 → (rowsK l)[j * 32 + i]? = (u8s x)[i]?
  | [], _, j, i, x, h, _ => by simp at h
  | y :: l, hl, 0, i, x, h, hi => by
    simp only [List.getElem?_cons_zero, Option.some.injEq] at h
    subst h
    simp only [rowsK, List.flatMap_cons, Nat.zero_mul, Nat.zero_add]
    rw [List.getElem?_append_left (by rw [u8s_length, hl y (by simp)]; exact hi)]
  | y :: l, hl, j + 1, i, x, h, hi => by
    have hy := hl y (by simp)
    have := rowsK_get (l := l) (fun z hz => hl z (by simp [hz])) (j := j) (i := i) (x := x) (by simpa using h) hi
    simp only [rowsK, List.flatMap_cons] at this ⊢
    rw [List.getElem?_append_right (by rw [u8s_length, hy]; omega), u8s_length, hy, ← this]
    congr 1
    omega
theorem elK : ElemOk Try.prog 34 25 (.agg (u8s (zeros 32)).toArray) 32 32 := ⟨Try.underlying34, by kernel_rfl, by simp [Value.cells, u8s, zeros], by decide⟩
/-- A key of a row that the call owns. -/
theorem ownK_at {w : World} {B n c : Nat} {A : Option Addr} {l : List (List Nat)} (h : Own w B 25 32 A n c (rowsK l)) (hl : ∀ x ∈ l, x.length = 32) {j : Nat} {x : List Nat} (hj : l[j]? = some x) :
    ∃ b off, A = some ⟨b, off, none⟩ ∧ b < w.heap.size ∧ w.rangeAt b (off + j * 32) (u8s x) := by
  have hjl := (List.getElem?_eq_some_iff.1 hj).1
  have hlen := h.len
  rw [rowsK_length hl] at hlen
  have hx : x.length = 32 := hl x (List.mem_of_getElem? hj)
  obtain ⟨b, off, e, hb, hc⟩ := h.rd (by omega)
  refine ⟨b, off, e, hb, fun i v hv => ?_⟩
  have hi : i < 32 := by
    have := (List.getElem?_eq_some_iff.1 hv).1
    rwa [u8s_length, hx] at this
  have h1 := hc (j * 32 + i) (by omega)
  rw [Nat.add_assoc, h1]
  show some ((rowsK l)[j * 32 + i]?.getD undef) = some v
  rw [rowsK_get hl hj hi, hv, Option.getD_some]
theorem ownK_len {w : World} {B n c : Nat} {A : Option Addr} {l : List (List Nat)} (h : Own w B 25 32 A n c (rowsK l)) (hl : ∀ x ∈ l, x.length = 32) : l.length = n := by
  have := h.len
  rw [rowsK_length hl] at this
  omega
theorem builtKL (a0 a1 a2 a3 a4 a5 a6 a7 a8 a9 a10 a11 a12 a13 a14 a15 a16 a17 a18 a19 a20 a21 a22 a23 a24 a25 a26 a27 a28 a29 a30 a31 : Nat) : Try.prog.builtSlice 25 1 [(0, .agg (u8s [a0, a1, a2, a3, a4, a5, a6, a7, a8, a9, a10, a11, a12, a13, a14, a15, a16, a17, a18, a19, a20, a21, a22, a23, a24, a25, a26, a27, a28, a29, a30, a31]).toArray)] = some (u8s [a0, a1, a2, a3, a4, a5, a6, a7, a8, a9, a10, a11, a12, a13, a14, a15, a16, a17, a18, a19, a20, a21, a22, a23, a24, a25, a26, a27, a28, a29, a30, a31]).toArray := by kernel_rfl
theorem builtK (x : List Nat) (hx : x.length = 32) : Try.prog.builtSlice 25 1 [(0, .agg (u8s x).toArray)] = some (u8s x).toArray := by
  match x, hx with
  | [a0, a1, a2, a3, a4, a5, a6, a7, a8, a9, a10, a11, a12, a13, a14, a15, a16, a17, a18, a19, a20, a21, a22, a23, a24, a25, a26, a27, a28, a29, a30, a31], _ => exact builtKL a0 a1 a2 a3 a4 a5 a6 a7 a8 a9 a10 a11 a12 a13 a14 a15 a16 a17 a18 a19 a20 a21 a22 a23 a24 a25 a26 a27 a28 a29 a30 a31
end Go.Proofs.Ytlolnpilpdkbkaa

namespace Go.Proofs.Ytlolnpilpdkbkaa
open Go.Shelf
def sortK_ren : Go.Shelf.Ren := ⟨fun | 6 => 62 | 15 => 66 | 14 => 65 | 28 => 75 | 29 => 76 | 20 => 67 | 21 => 68 | 22 => 69 | 23 => 70 | 24 => 71 | 25 => 72 | 26 => 73 | 27 => 74 | 46 => 77 | 47 => 78 | 48 => 79 | 49 => 80 | 50 => 81 | 57 => 82 | n => n, fun | 22 => 34 | 24 => 25 | 25 => 32 | 3 => 3 | 39 => 75 | 0 => 0 | 53 => 111 | 55 => 113 | 4 => 4 | 46 => 104 | 45 => 103 | 50 => 108 | 5 => 5 | 9 => 9 | 66 => 114 | 70 => 118 | 76 => 120 | 77 => 121 | n => n, fun | n => n⟩
theorem sortK : Go.Proofs.SlLaysF0.n6 Try.prog sortK_ren := {
  mixed := by kernel_rfl
  f6 := ⟨Try.f62.name, by decide, Try.func62.trans (congrArg some (by kernel_rfl))⟩
  f14 := ⟨Try.f65.name, by decide, Try.func65.trans (congrArg some (by kernel_rfl))⟩
  f15 := Try.func66.trans (congrArg some (by kernel_rfl))
  f20 := ⟨Try.f67.name, by decide, Try.func67.trans (congrArg some (by kernel_rfl))⟩
  f21 := ⟨Try.f68.name, by decide, Try.func68.trans (congrArg some (by kernel_rfl))⟩
  f22 := ⟨Try.f69.name, by decide, Try.func69.trans (congrArg some (by kernel_rfl))⟩
  f23 := ⟨Try.f70.name, by decide, Try.func70.trans (congrArg some (by kernel_rfl))⟩
  f24 := ⟨Try.f71.name, by decide, Try.func71.trans (congrArg some (by kernel_rfl))⟩
  f25 := ⟨Try.f72.name, by decide, Try.func72.trans (congrArg some (by kernel_rfl))⟩
  f26 := ⟨Try.f73.name, by decide, Try.func73.trans (congrArg some (by kernel_rfl))⟩
  f27 := ⟨Try.f74.name, by decide, Try.func74.trans (congrArg some (by kernel_rfl))⟩
  f28 := Try.func75.trans (congrArg some (by kernel_rfl))
  f29 := Try.func76.trans (congrArg some (by kernel_rfl))
  f46 := ⟨Try.f77.name, by decide, Try.func77.trans (congrArg some (by kernel_rfl))⟩
  f47 := Try.func78.trans (congrArg some (by kernel_rfl))
  f48 := Try.func79.trans (congrArg some (by kernel_rfl))
  f49 := ⟨Try.f80.name, by decide, Try.func80.trans (congrArg some (by kernel_rfl))⟩
  f50 := ⟨Try.f81.name, by decide, Try.func81.trans (congrArg some (by kernel_rfl))⟩
  f57 := ⟨Try.f82.name, by decide, Try.func82.trans (congrArg some (by kernel_rfl))⟩
  t0 := Try.underlying0
  a0 := Try.isAgg0
  z0 := Try.sizeOf0
  v0 := Try.zeroValue0
  t3 := Try.underlying3
  a3 := Try.isAgg3
  z3 := Try.sizeOf3
  v3 := Try.zeroValue3
  t4 := Try.underlying4
  a4 := Try.isAgg4
  z4 := Try.sizeOf4
  v4 := Try.zeroValue4
  t5 := Try.underlying5
  a5 := Try.isAgg5
  z5 := Try.sizeOf5
  v5 := Try.zeroValue5
  t9 := Try.underlying9
  a9 := Try.isAgg9
  z9 := Try.sizeOf9
  v9 := Try.zeroValue9
  t22 := Try.underlying34
  a22 := Try.isAgg34
  z22 := Try.sizeOf34
  v22 := Try.zeroValue34
  t25 := Try.underlying32
  a25 := Try.isAgg32
  z25 := Try.sizeOf32
  v25 := Try.zeroValue32
  t39 := Try.underlying75
  a39 := Try.isAgg75
  z39 := Try.sizeOf75
  v39 := Try.zeroValue75
  t45 := Try.underlying103
  a45 := Try.isAgg103
  z45 := Try.sizeOf103
  v45 := Try.zeroValue103
  t46 := Try.underlying104
  a46 := Try.isAgg104
  z46 := Try.sizeOf104
  v46 := Try.zeroValue104
  t50 := Try.underlying108
  a50 := Try.isAgg108
  z50 := Try.sizeOf108
  v50 := Try.zeroValue108
  t53 := Try.underlying111
  a53 := Try.isAgg111
  z53 := Try.sizeOf111
  v53 := Try.zeroValue111
  t55 := Try.underlying113
  a55 := Try.isAgg113
  z55 := Try.sizeOf113
  v55 := Try.zeroValue113
  t66 := Try.underlying114
  a66 := Try.isAgg114
  z66 := Try.sizeOf114
  v66 := Try.zeroValue114
  t70 := Try.underlying118
  a70 := Try.isAgg118
  z70 := Try.sizeOf118
  v70 := Try.zeroValue118
  t76 := Try.underlying120
  a76 := Try.isAgg120
  z76 := Try.sizeOf120
  v76 := Try.zeroValue120
  t77 := Try.underlying121
  a77 := Try.isAgg121
  z77 := Try.sizeOf121
  v77 := Try.zeroValue121 }
end Go.Proofs.Ytlolnpilpdkbkaa

namespace Go.Proofs.Ytlolnpilpdkbkaa
open Go.RowKit Go.Maps Go.Sort
set_option linter.unusedSimpArgs false
set_option linter.unusedVariables false

abbrev KS := { x : List Nat // x.length = 32 ∧ ∀ b ∈ x, b < 256 }
instance : Inhabited KS := ⟨⟨zeros 32, by simp [zeros], by simp [zeros]⟩⟩
def encKS (x : KS) : List Value := u8s x.1
def cfK (x y : KS) : Int := cmpK x.1 y.1
theorem encKS_len (x : KS) : (encKS x).length = 32 := by unfold encKS; rw [u8s_length]; exact x.2.1
theorem encKS_one (x : KS) : ∀ v ∈ encKS x, v.oneCell' = true := fun v hv => u8s_one v hv
theorem cfK_swap (x y : KS) : cfK y x = -cfK x y := cmpK_swap _ _
theorem swoK : SWO (ltOf cfK) where
  irrefl x := by unfold ltOf cfK; rw [cmpK_self]; rfl
  trans x y z h1 h2 := by
    unfold ltOf at *
    exact decide_eq_true (cmpK_tr (of_decide_eq_true h1) (of_decide_eq_true h2))
  ntrans x y z h1 h2 := by
    unfold ltOf at *
    have h1 := of_decide_eq_false h1
    have h2 := of_decide_eq_false h2
    refine decide_eq_false fun h3 => ?_
    by_cases e1 : cfK x y = 0
    · have : x = y := Subtype.ext (cmpK_eq ⟨x.2.1, x.2.2⟩ ⟨y.2.1, y.2.2⟩ e1)
      subst this
      exact h2 h3
    · have h4 := cfK_swap x y
      have h5 : cmpK y.1 x.1 < 0 := by
        have : cfK y x < 0 := by omega
        exact this
      exact h2 (cmpK_tr h5 h3)
theorem totK (x y : KS) (h1 : (ltOf cfK) x y = false) (h2 : (ltOf cfK) y x = false) : x = y := by
  unfold ltOf at *
  have h1 := of_decide_eq_false h1
  have h2 := of_decide_eq_false h2
  have h3 := cfK_swap x y
  exact Subtype.ext (cmpK_eq ⟨x.2.1, x.2.2⟩ ⟨y.2.1, y.2.2⟩ (by show cfK x y = 0; omega))
theorem cmpLaysK (blk off size : Nat) (w : World) : CmpLays Try.prog 9 #[] encKS 32 cfK blk off size w :=
  fun m os dk _ x y => (compareX_any _ x.1 y.1 x.2.1 y.2.1 x.2.2 y.2.2).mono fun e w' h => by
    obtain ⟨h1, q, rfl⟩ := h
    refine ⟨h1, q, #[.cells (u8s x.1).toArray 25, .cells (u8s y.1).toArray 25], ?_⟩
    rw [alloc_eq_grow, alloc_eq_grow, grow_grow]
    rfl
theorem aggK (w : World) : (isAgg 25).run Try.prog w = .ok true w := by kernel_rfl
theorem sizeK (w : World) : (Go.sizeOf 25).run Try.prog w = .ok 32 w := by kernel_rfl
def valsK (d : List KS) : List (List Nat) := d.map (·.1)
theorem flatK_get (d : Array KS) (j : Nat) : (flatK encKS 32 d).toList[j]? = (rowsK (valsK d.toList))[j]? := by
  have hl : (rowsK (valsK d.toList)).length = d.size * 32 := by
    rw [rowsK_length (fun x hx => by obtain ⟨y, _, rfl⟩ := List.mem_map.1 hx; exact y.2.1)]
    simp [valsK]
  by_cases h : j < d.size * 32
  · have hq : j / 32 < d.size := by omega
    have hr : j % 32 < 32 := Nat.mod_lt _ (by decide)
    have h1 := get_flatK encKS 32 d j h
    have h2 : (flatK encKS 32 d).toList[j]? = some ((encKS d[j / 32]!)[j % 32]!) := by
      rw [← h1, List.getElem?_eq_getElem (by simpa using h)]
      simp [getElem!_pos (flatK encKS 32 d) j (by simpa using h)]
    have hv : (valsK d.toList)[j / 32]? = some (d[j / 32]'hq).1 := by simp [valsK, hq]
    have h3 := rowsK_get (l := valsK d.toList) (fun x hx => by obtain ⟨y, _, rfl⟩ := List.mem_map.1 hx; exact y.2.1) hv hr
    rw [show j / 32 * 32 + j % 32 = j by omega] at h3
    rw [h2, h3, getElem!_pos d _ hq]
    show some ((u8s (d[j / 32]'hq).1)[j % 32]!) = _
    rw [List.getElem?_eq_getElem (by rw [u8s_length, (d[j / 32]'hq).2.1]; exact hr), getElem!_pos (u8s (d[j / 32]'hq).1) (j % 32) (by rw [u8s_length, (d[j / 32]'hq).2.1]; exact hr)]
  · rw [List.getElem?_eq_none (by simp; omega), List.getElem?_eq_none (by omega)]
theorem flatK_list (d : Array KS) : (flatK encKS 32 d).toList = rowsK (valsK d.toList) := List.ext_getElem? (flatK_get d)
theorem putCells_list (F cur : Array Value) (h : F.size ≤ cur.size) : (putCells id 0 F cur).toList.take F.size = F.toList := by
  apply List.ext_getElem?
  intro j
  rw [List.getElem?_take]
  by_cases hj : j < F.size
  · rw [if_pos hj]
    simp only [putCells, Array.getElem?_toList, Array.getElem?_mapIdx]
    rw [Array.getElem?_eq_getElem (show j < cur.size by omega)]
    simp [hj]
  · rw [if_neg hj, List.getElem?_eq_none (by simp; omega)]
/-- The row behind the sort. -/
theorem own_sorted {w : World} {B n c blk m : Nat} {l : List Value} {d : Array KS} {os : Array Obj} (h : Own w B 25 32 (some ⟨blk, 0, none⟩) n c l) (hd : d.size = n) :
    Own (sortWorldK encKS 32 w blk 0 m d os) B 25 32 (some ⟨blk, 0, none⟩) n c (rowsK (valsK d.toList)) ∧ w.grownBy (sortWorldK encKS 32 w blk 0 m d os) (some blk) := by
  have hb := (h.lt blk rfl).2
  refine ⟨⟨?_, ?_⟩, ?_⟩
  · rw [rowsK_length (fun x hx => by obtain ⟨y, _, rfl⟩ := List.mem_map.1 hx; exact y.2.1)]
    simp [valsK, hd]
  · rcases h.2 with ⟨hv, _⟩ | ⟨g, cap, cur, hv, h1, h2, h3, h4, h5, h6⟩
    · cases hv
    · cases hv
      refine .inr ⟨blk, c, putCells id 0 (flatK encKS 32 d) cur, rfl, h1, ?_, h3, h4, by simp [putCells, h5], ?_⟩
      · unfold sortWorldK putRowK putRow
        rw [heap_grow_old _ _ (by simpa [mapBlock, ahead] using hb)]
        simp only [mapBlock, ahead, Array.getElem?_modify]
        rw [if_pos trivial]
        show Option.map _ w.heap[blk]? = _
        rw [h2]
        rfl
      · have e : n * 32 = (flatK encKS 32 d).size := by simp [hd]
        rw [e, putCells_list _ _ (by simp [hd, h5]; omega), flatK_list]
  · refine ⟨rfl, rfl, rfl, ?_, fun k hk hne => ?_⟩
    · unfold sortWorldK
      rw [size_grow]
      simp [putRowK, putRow, mapBlock, ahead]
    · unfold sortWorldK putRowK putRow
      rw [heap_grow_old _ _ (by simpa [mapBlock, ahead] using hk)]
      simp only [mapBlock, ahead, Array.getElem?_modify]
      rw [if_neg (fun e => hne (by rw [e]))]
      rfl
theorem holds_own {w : World} {B n c blk : Nat} {d : Array KS} (h : Own w B 25 32 (some ⟨blk, 0, none⟩) n c (rowsK (valsK d.toList))) : HoldsK encKS 32 w blk 0 d := by
  intro j hj
  have hj' : j < (rowsK (valsK d.toList)).length := by
    rw [rowsK_length (fun x hx => by obtain ⟨y, _, rfl⟩ := List.mem_map.1 hx; exact y.2.1)]
    simpa [valsK] using hj
  have hg := flatK_get d j
  rw [List.getElem?_eq_getElem hj'] at hg
  have hc := World.ownsRow.cells h (g := blk) rfl j _ (List.getElem?_eq_getElem hj')
  rw [Addr.add_lit] at hc
  refine ⟨?_, ?_⟩
  · rw [hc]
    have h1 : (flatK encKS 32 d).toList[j]? = some ((flatK encKS 32 d)[j]!) := by
      rw [List.getElem?_eq_getElem (by simpa using hj)]
      simp [getElem!_pos (flatK encKS 32 d) j hj]
    rw [h1] at hg
    simp only [Option.some.injEq] at hg
    show some _ = some (id ((flatK encKS 32 d)[j]!))
    rw [hg]
    rfl
  · rcases h.2 with ⟨hv, _⟩ | ⟨g, cap, cur, hv, h1, h2, _⟩
    · cases hv
    · cases hv
      exact frozen_of_row _ _ _ _ _ h2
/-- A list of keys, each once: its keys in their order. -/
theorem sort_keys {d : List KS} {ks : List (List Nat)} (hr : Rise32 ks) (hn : (valsK d).Nodup) (hm : ∀ x, x ∈ valsK d ↔ x ∈ ks) : valsK (d.mergeSort fun x y => !(ltOf cfK) y x) = ks := by
  have hp : (d.mergeSort fun x y => !(ltOf cfK) y x).Perm d := List.mergeSort_perm _ _
  have hs : (d.mergeSort fun x y => !(ltOf cfK) y x).Pairwise fun a b => (!(ltOf cfK) b a) = true := List.pairwise_mergeSort (fun a b c h1 h2 => by
      simp only [Bool.not_eq_true'] at *
      exact swoK.ntrans c b a h2 h1) (fun a b => by
      cases h : ltOf cfK b a
      · simp
      · have : ltOf cfK a b = false := by
          unfold ltOf at *
          have h := of_decide_eq_true h
          have := cfK_swap b a
          exact decide_eq_false (by omega)
        simp [this]) d
  have hpm : (valsK (d.mergeSort fun x y => !(ltOf cfK) y x)).Perm (valsK d) := List.Perm.map (fun x : KS => x.1) hp
  refine Rise32.ext ⟨fun x hx => ?_, ?_⟩ hr fun x => ?_
  · obtain ⟨y, _, rfl⟩ := List.mem_map.1 hx
    exact y.2
  · have hnd : (valsK (d.mergeSort fun x y => !(ltOf cfK) y x)).Nodup := hpm.nodup_iff.2 hn
    unfold valsK at hnd ⊢
    rw [List.Nodup, List.pairwise_map] at hnd
    rw [List.pairwise_map]
    refine (hs.and hnd).imp fun {a b} h => ?_
    obtain ⟨h1, h2⟩ := h
    have h3 : ¬ cfK b a < 0 := by
      have : ltOf cfK b a = false := by simpa using h1
      exact of_decide_eq_false this
    have h4 : cfK a b ≠ 0 := fun e => h2 (cmpK_eq a.2 b.2 e)
    have := cfK_swap b a
    show cfK a b < 0
    omega
  · rw [← hm x]
    exact hpm.mem_iff
/-- What sorted keeps while it goes over the map: pre is what has come, left what is still to come. -/
structure SoL (D : DataW Unit) (left : Lit → Bool) (pre : List KS) : Prop where
  nodup : (valsK pre).Nodup
  iff : ∀ x l, keyOf Try.prog 25 (.agg (u8s x).toArray) = some l → (x ∈ valsK pre ↔ Maps.has D l = true ∧ left l = false)
theorem SoL.start (D : DataW Unit) : SoL D (Maps.has D) [] := ⟨List.nodup_nil, fun x l _ => by simp [valsK]⟩
theorem SoL.next {D : DataW Unit} {left : Lit → Bool} {pre : List KS} (h : SoL D left pre) {x : KS} {kl : Lit} (hk : keyOf Try.prog 25 (.agg (u8s x.1).toArray) = some kl) (hD : Maps.has D kl = true) (hl : left kl = true) :
    SoL D (fun z => left z && !z.sameKey kl) (pre ++ [x]) := by
  have hx : x.1 ∉ valsK pre := fun hm => by
    have := (h.iff x.1 kl hk).1 hm
    rw [hl] at this
    cases this.2
  refine ⟨?_, fun y l hy => ?_⟩
  · show (valsK (pre ++ [x])).Nodup
    unfold valsK
    rw [List.map_append, List.nodup_append]
    refine ⟨h.nodup, by simp, fun a ha b hb => ?_⟩
    simp at hb
    subst hb
    exact fun e => hx (e ▸ ha)
  · have e1 : y ∈ valsK (pre ++ [x]) ↔ y ∈ valsK pre ∨ y = x.1 := by simp [valsK]
    rw [e1, h.iff y l hy]
    by_cases e : l = kl
    · subst e
      have : y = x.1 := key_inj hy hk
      simp [this, hD, hl, WideAt.sameKey_self (lawK.key hk)]
    · have hne : y ≠ x.1 := fun e2 => e (by subst e2; rw [hk] at hy; exact (Option.some.inj hy).symm)
      simp [hne, sameKey_ne e]
theorem SoL.fin {D : DataW Unit} {ks : List (List Nat)} {left : Lit → Bool} {pre : List KS} (h : SoL D left pre) (hK : KsOf D ks) (h0 : ∀ kl, left kl = false) : ∀ x, x ∈ valsK pre ↔ x ∈ ks := fun x => by
  constructor
  · intro hm
    obtain ⟨y, _, rfl⟩ := List.mem_map.1 hm
    obtain ⟨l, hl⟩ := keyOf_u8s y.1 y.2.1 y.2.2
    exact (hK.iff _ l hl).1 ((h.iff _ l hl).1 hm).1
  · intro hm
    have hk := hK.rise.ok x hm
    obtain ⟨l, hl⟩ := keyOf_u8s x hk.1 hk.2
    exact (h.iff x l hl).2 ⟨(hK.iff x l hl).2 hm, h0 l⟩
end Go.Proofs.Ytlolnpilpdkbkaa

/- sorted: a set's keys, rising, in a row of its own. -/
import Derived.Test.YtgjokkjmljdmbaaKyR
import Derived.Test.YtgjokkjmljdmbaaSortL
namespace Go.Proofs.Ytgjokkjmljdmbaa
open Go.RowKit Go.Maps Go.Sort
set_option linter.unusedSimpArgs false
set_option linter.unusedVariables false

abbrev KS := { x : List Nat // x.length = 32 ∧ ∀ b ∈ x, b < 256 }
instance : Inhabited KS := ⟨⟨zeros 32, by simp [zeros], by simp [zeros]⟩⟩
def encKS (x : KS) : List Value := u8s x.1
def cfK (x y : KS) : Int := cmpK x.1 y.1
theorem encKS_len (x : KS) : (encKS x).length = 32 := by unfold encKS; rw [u8s_length]; exact x.2.1
theorem encKS_one (x : KS) : ∀ v ∈ encKS x, v.oneCell' = true := fun v hv => u8s_one v hv
theorem cfK_swap (x y : KS) : cfK y x = -cfK x y := cmpK_swap _ _
theorem swoK : SWO (ltOf cfK) where
  irrefl x := by unfold ltOf cfK; rw [cmpK_self]; rfl
  trans x y z h1 h2 := by
    unfold ltOf at *
    exact decide_eq_true (cmpK_tr (of_decide_eq_true h1) (of_decide_eq_true h2))
  ntrans x y z h1 h2 := by
    unfold ltOf at *
    have h1 := of_decide_eq_false h1
    have h2 := of_decide_eq_false h2
    refine decide_eq_false fun h3 => ?_
    by_cases e1 : cfK x y = 0
    · have : x = y := Subtype.ext (cmpK_eq ⟨x.2.1, x.2.2⟩ ⟨y.2.1, y.2.2⟩ e1)
      subst this
      exact h2 h3
    · have h4 := cfK_swap x y
      have h5 : cmpK y.1 x.1 < 0 := by
        have : cfK y x < 0 := by omega
        exact this
      exact h2 (cmpK_tr h5 h3)
theorem totK (x y : KS) (h1 : (ltOf cfK) x y = false) (h2 : (ltOf cfK) y x = false) : x = y := by
  unfold ltOf at *
  have h1 := of_decide_eq_false h1
  have h2 := of_decide_eq_false h2
  have h3 := cfK_swap x y
  exact Subtype.ext (cmpK_eq ⟨x.2.1, x.2.2⟩ ⟨y.2.1, y.2.2⟩ (by show cfK x y = 0; omega))
theorem cmpLaysK (blk off size : Nat) (w : World) : CmpLays Try.prog 36 #[] encKS 32 cfK blk off size w :=
  fun m os dk _ x y => (compareX_any _ x.1 y.1 x.2.1 y.2.1 x.2.2 y.2.2).mono fun e w' h => by
    obtain ⟨h1, q, rfl⟩ := h
    refine ⟨h1, q, #[.cells (u8s x.1).toArray 29, .cells (u8s y.1).toArray 29], ?_⟩
    rw [alloc_eq_grow, alloc_eq_grow, grow_grow]
    rfl
theorem aggK (w : World) : (isAgg 29).run Try.prog w = .ok true w := by kernel_rfl
theorem sizeK (w : World) : (Go.sizeOf 29).run Try.prog w = .ok 32 w := by kernel_rfl
def valsK (d : List KS) : List (List Nat) := d.map (·.1)
theorem flatK_get (d : Array KS) (j : Nat) : (flatK encKS 32 d).toList[j]? = (rowsK (valsK d.toList))[j]? := by
  have hl : (rowsK (valsK d.toList)).length = d.size * 32 := by
    rw [rowsK_length (fun x hx => by obtain ⟨y, _, rfl⟩ := List.mem_map.1 hx; exact y.2.1)]
    simp [valsK]
  by_cases h : j < d.size * 32
  · have hq : j / 32 < d.size := by omega
    have hr : j % 32 < 32 := Nat.mod_lt _ (by decide)
    have h1 := get_flatK encKS 32 d j h
    have h2 : (flatK encKS 32 d).toList[j]? = some ((encKS d[j / 32]!)[j % 32]!) := by
      rw [← h1, List.getElem?_eq_getElem (by simpa using h)]
      simp [getElem!_pos (flatK encKS 32 d) j (by simpa using h)]
    have hv : (valsK d.toList)[j / 32]? = some (d[j / 32]'hq).1 := by simp [valsK, hq]
    have h3 := rowsK_get (l := valsK d.toList) (fun x hx => by obtain ⟨y, _, rfl⟩ := List.mem_map.1 hx; exact y.2.1) hv hr
    rw [show j / 32 * 32 + j % 32 = j by omega] at h3
    rw [h2, h3, getElem!_pos d _ hq]
    show some ((u8s (d[j / 32]'hq).1)[j % 32]!) = _
    rw [List.getElem?_eq_getElem (by rw [u8s_length, (d[j / 32]'hq).2.1]; exact hr), getElem!_pos (u8s (d[j / 32]'hq).1) (j % 32) (by rw [u8s_length, (d[j / 32]'hq).2.1]; exact hr)]
  · rw [List.getElem?_eq_none (by simp; omega), List.getElem?_eq_none (by omega)]
theorem flatK_list (d : Array KS) : (flatK encKS 32 d).toList = rowsK (valsK d.toList) := List.ext_getElem? (flatK_get d)
theorem putCells_list (F cur : Array Value) (h : F.size ≤ cur.size) : (putCells id 0 F cur).toList.take F.size = F.toList := by
  apply List.ext_getElem?
  intro j
  rw [List.getElem?_take]
  by_cases hj : j < F.size
  · rw [if_pos hj]
    simp only [putCells, Array.getElem?_toList, Array.getElem?_mapIdx]
    rw [Array.getElem?_eq_getElem (show j < cur.size by omega)]
    simp [hj]
  · rw [if_neg hj, List.getElem?_eq_none (by simp; omega)]
/-- The row behind the sort. -/
theorem own_sorted {w : World} {B n c blk m : Nat} {l : List Value} {d : Array KS} {os : Array Obj} (h : Own w B 29 32 (some ⟨blk, 0, none⟩) n c l) (hd : d.size = n) :
    Own (sortWorldK encKS 32 w blk 0 m d os) B 29 32 (some ⟨blk, 0, none⟩) n c (rowsK (valsK d.toList)) ∧ w.grownBy (sortWorldK encKS 32 w blk 0 m d os) (some blk) := by
  have hb := (h.lt blk rfl).2
  refine ⟨⟨?_, ?_⟩, ?_⟩
  · rw [rowsK_length (fun x hx => by obtain ⟨y, _, rfl⟩ := List.mem_map.1 hx; exact y.2.1)]
    simp [valsK, hd]
  · rcases h.2 with ⟨hv, _⟩ | ⟨g, cap, cur, hv, h1, h2, h3, h4, h5, h6⟩
    · cases hv
    · cases hv
      refine .inr ⟨blk, c, putCells id 0 (flatK encKS 32 d) cur, rfl, h1, ?_, h3, h4, by simp [putCells, h5], ?_⟩
      · unfold sortWorldK putRowK putRow
        rw [heap_grow_old _ _ (by simpa [mapBlock, ahead] using hb)]
        simp only [mapBlock, ahead, Array.getElem?_modify]
        rw [if_pos trivial]
        show Option.map _ w.heap[blk]? = _
        rw [h2]
        rfl
      · have e : n * 32 = (flatK encKS 32 d).size := by simp [hd]
        rw [e, putCells_list _ _ (by simp [hd, h5]; omega), flatK_list]
  · refine ⟨rfl, rfl, rfl, ?_, fun k hk hne => ?_⟩
    · unfold sortWorldK
      rw [size_grow]
      simp [putRowK, putRow, mapBlock, ahead]
    · unfold sortWorldK putRowK putRow
      rw [heap_grow_old _ _ (by simpa [mapBlock, ahead] using hk)]
      simp only [mapBlock, ahead, Array.getElem?_modify]
      rw [if_neg (fun e => hne (by rw [e]))]
      rfl
theorem holds_own {w : World} {B n c blk : Nat} {d : Array KS} (h : Own w B 29 32 (some ⟨blk, 0, none⟩) n c (rowsK (valsK d.toList))) : HoldsK encKS 32 w blk 0 d := by
  intro j hj
  have hj' : j < (rowsK (valsK d.toList)).length := by
    rw [rowsK_length (fun x hx => by obtain ⟨y, _, rfl⟩ := List.mem_map.1 hx; exact y.2.1)]
    simpa [valsK] using hj
  have hg := flatK_get d j
  rw [List.getElem?_eq_getElem hj'] at hg
  have hc := World.ownsRow.cells h (g := blk) rfl j _ (List.getElem?_eq_getElem hj')
  rw [Addr.add_lit] at hc
  refine ⟨?_, ?_⟩
  · rw [hc]
    have h1 : (flatK encKS 32 d).toList[j]? = some ((flatK encKS 32 d)[j]!) := by
      rw [List.getElem?_eq_getElem (by simpa using hj)]
      simp [getElem!_pos (flatK encKS 32 d) j hj]
    rw [h1] at hg
    simp only [Option.some.injEq] at hg
    show some _ = some (id ((flatK encKS 32 d)[j]!))
    rw [hg]
    rfl
  · rcases h.2 with ⟨hv, _⟩ | ⟨g, cap, cur, hv, h1, h2, _⟩
    · cases hv
    · cases hv
      exact frozen_of_row _ _ _ _ _ h2
/-- A list of keys, each once: its keys in their order. -/
theorem sort_keys {d : List KS} {ks : List (List Nat)} (hr : Rise32 ks) (hn : (valsK d).Nodup) (hm : ∀ x, x ∈ valsK d ↔ x ∈ ks) : valsK (d.mergeSort fun x y => !(ltOf cfK) y x) = ks := by
  have hp : (d.mergeSort fun x y => !(ltOf cfK) y x).Perm d := List.mergeSort_perm _ _
  have hs : (d.mergeSort fun x y => !(ltOf cfK) y x).Pairwise fun a b => (!(ltOf cfK) b a) = true := List.pairwise_mergeSort (fun a b c h1 h2 => by
      simp only [Bool.not_eq_true'] at *
      exact swoK.ntrans c b a h2 h1) (fun a b => by
      cases h : ltOf cfK b a
      · simp
      · have : ltOf cfK a b = false := by
          unfold ltOf at *
          have h := of_decide_eq_true h
          have := cfK_swap b a
          exact decide_eq_false (by omega)
        simp [this]) d
  have hpm : (valsK (d.mergeSort fun x y => !(ltOf cfK) y x)).Perm (valsK d) := List.Perm.map (fun x : KS => x.1) hp
  refine Rise32.ext ⟨fun x hx => ?_, ?_⟩ hr fun x => ?_
  · obtain ⟨y, _, rfl⟩ := List.mem_map.1 hx
    exact y.2
  · have hnd : (valsK (d.mergeSort fun x y => !(ltOf cfK) y x)).Nodup := hpm.nodup_iff.2 hn
    unfold valsK at hnd ⊢
    rw [List.Nodup, List.pairwise_map] at hnd
    rw [List.pairwise_map]
    refine (hs.and hnd).imp fun {a b} h => ?_
    obtain ⟨h1, h2⟩ := h
    have h3 : ¬ cfK b a < 0 := by
      have : ltOf cfK b a = false := by simpa using h1
      exact of_decide_eq_false this
    have h4 : cfK a b ≠ 0 := fun e => h2 (cmpK_eq a.2 b.2 e)
    have := cfK_swap b a
    show cfK a b < 0
    omega
  · rw [← hm x]
    exact hpm.mem_iff
/-- What sorted keeps while it goes over the map: pre is what has come, left what is still to come. -/
structure SoL (D : DataW Unit) (left : Lit → Bool) (pre : List KS) : Prop where
  nodup : (valsK pre).Nodup
  iff : ∀ x l, keyOf Try.prog 29 (.agg (u8s x).toArray) = some l → (x ∈ valsK pre ↔ Maps.has D l = true ∧ left l = false)
theorem SoL.start (D : DataW Unit) : SoL D (Maps.has D) [] := ⟨List.nodup_nil, fun x l _ => by simp [valsK]⟩
theorem SoL.next {D : DataW Unit} {left : Lit → Bool} {pre : List KS} (h : SoL D left pre) {x : KS} {kl : Lit} (hk : keyOf Try.prog 29 (.agg (u8s x.1).toArray) = some kl) (hD : Maps.has D kl = true) (hl : left kl = true) :
    SoL D (fun z => left z && !z.sameKey kl) (pre ++ [x]) := by
  have hx : x.1 ∉ valsK pre := fun hm => by
    have := (h.iff x.1 kl hk).1 hm
    rw [hl] at this
    cases this.2
  refine ⟨?_, fun y l hy => ?_⟩
  · show (valsK (pre ++ [x])).Nodup
    unfold valsK
    rw [List.map_append, List.nodup_append]
    refine ⟨h.nodup, by simp, fun a ha b hb => ?_⟩
    simp at hb
    subst hb
    exact fun e => hx (e ▸ ha)
  · have e1 : y ∈ valsK (pre ++ [x]) ↔ y ∈ valsK pre ∨ y = x.1 := by simp [valsK]
    rw [e1, h.iff y l hy]
    by_cases e : l = kl
    · subst e
      have : y = x.1 := key_inj hy hk
      simp [this, hD, hl, WideAt.sameKey_self (lawK.key hk)]
    · have hne : y ≠ x.1 := fun e2 => e (by subst e2; rw [hk] at hy; exact (Option.some.inj hy).symm)
      simp [hne, sameKey_ne e]
theorem SoL.fin {D : DataW Unit} {ks : List (List Nat)} {left : Lit → Bool} {pre : List KS} (h : SoL D left pre) (hK : KsOf D ks) (h0 : ∀ kl, left kl = false) : ∀ x, x ∈ valsK pre ↔ x ∈ ks := fun x => by
  constructor
  · intro hm
    obtain ⟨y, _, rfl⟩ := List.mem_map.1 hm
    obtain ⟨l, hl⟩ := keyOf_u8s y.1 y.2.1 y.2.2
    exact (hK.iff _ l hl).1 ((h.iff _ l hl).1 hm).1
  · intro hm
    have hk := hK.rise.ok x hm
    obtain ⟨l, hl⟩ := keyOf_u8s x hk.1 hk.2
    exact (h.iff x l hl).2 ⟨(hK.iff x l hl).2 hm, h0 l⟩
end Go.Proofs.Ytgjokkjmljdmbaa

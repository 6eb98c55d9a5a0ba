/- Kids of an object. -/
import Derived.Test.YtkjndgapejbgcaaCopS
import Derived.BigRegion
import Derived.Deep.RegionHeld3
namespace Go.Proofs.Ytkjndgapejbgcaa
open Go.RowKit
set_option linter.unusedSimpArgs false

def kidsL (o : ObjT) : List Key32 := if o.kind = 2 then o.parts.map (·.1) else if o.kind = 3 then o.items.map (·.2.2.2) else if o.kind = 4 then o.tree :: o.parents else []
theorem zeroP (w : World) : (zeroValue 41).run Try.prog w = .ok (.agg (encP (zK, 0)).toArray) w :=
  (zero_of_info (P := Try.prog) (t := 41) (v := .agg (encP (zK, 0)).toArray) (n := 33) (by kernel_rfl)).1 w
theorem zeroI (w : World) : (zeroValue 45).run Try.prog w = .ok (.agg (encI (⟨#[]⟩, 0, 0, zK)).toArray) w :=
  (zero_of_info (P := Try.prog) (t := 45) (v := .agg (encI (⟨#[]⟩, 0, 0, zK)).toArray) (n := 35) (by kernel_rfl)).1 w
theorem built1 (x : Key32) : Try.prog.builtSlice 28 1 [(0, .agg (encK x).toArray)] = some (encK x).toArray := by
  obtain ⟨i, hi, hz0, hz1, _⟩ := info_parts elK.hi
  unfold Program.builtSlice
  simp only [hi, hz0, hz1]
  rw [if_neg (by decide)]
  refine Eq.trans (b := some (([Value.agg (encK x).toArray]).flatMap fun v => v.cells.toList).toArray) (Great.fill_whole (s := 32) (by decide) [.agg (encK x).toArray] _ ?_ ?_) ?_
  · intro v hv
    simp at hv
    subst hv
    simp [Value.cells, encK_length]
  · simp
  · simp [Value.cells]
theorem elemK_ok (n : Nat) (h : n * 32 ≤ 140737488355328) : n + 1 ≤ maxLen ∧ (n + 1 + (n + 1) / 4 + 192) * 32 ≤ 281474976710656 := by
  unfold maxLen
  constructor <;> omega
theorem take_map {α β : Type} (f : α → β) {l : List α} {k : Nat} {x : α} (hk : k < l.length) (hx : l[k] = x) : (l.take (k + 1)).map f = (l.take k).map f ++ [f x] := by
  rw [List.take_succ_eq_append_getElem hk, hx, List.map_append]
  rfl
theorem encP_key (x : PartT) : ∀ (j : Nat) (v : Value), (encK x.1)[j]? = some v → (encP x)[j]? = some v := fun j v hv => by
  have h : j < (u8s x.1.1).length := (List.getElem?_eq_some_iff.1 hv).1
  unfold encP
  rw [List.getElem?_append_left h]
  exact hv
theorem encI_key (x : ItemT) : ∀ (j : Nat) (v : Value), (encK x.2.2.2)[j]? = some v → (encI x)[3 + j]? = some v := fun j v hv => by
  unfold encI
  rw [List.getElem?_append_right (by simp)]
  simpa [encK] using hv
/-- What stands while kids are told. -/
structure KSt (w wr : World) (o : ObjT) (p : Lay) : Prop where
  bel : Below w.heap.size w wr
  blk : OBlk wr w.heap.size o p
theorem KSt.below {w wr w' : World} {o : ObjT} {p : Lay} (h : KSt w wr o p) (hb : Below (w.heap.size + 1) wr w') : KSt w w' o p := ⟨h.bel.trans (hb.mono (by omega)), h.blk.below hb (by omega)⟩
theorem KSt.le {w wr : World} {o : ObjT} {p : Lay} (h : KSt w wr o p) : w.heap.size + 1 ≤ wr.heap.size := lt_of_block h.blk
theorem KSt.start {w : World} {o : ObjT} {p : Lay} : KSt w (w.alloc (.cells (ocells o p).toArray 31)) o p := ⟨(Below.refl _ _).alloc (Nat.le_refl _) _, heap_alloc_new w _⟩
/-- An element copied into a block of its own. -/
theorem row_new (w : World) (t : TypeId) (z x : Array Value) : ((w.alloc (.cells z t)).setRow w.heap.size x).heap[w.heap.size]? = some (.cells x t (0, 0)) ∧ ∀ B, B ≤ w.heap.size → Below B w ((w.alloc (.cells z t)).setRow w.heap.size x) :=
  ⟨setRow_heap _ w.heap.size _ _ _ _ (heap_alloc_new w _), fun _ hB => setRow_below ((Below.refl _ _).alloc hB _) hB _⟩
theorem range_of {w : World} {g : Nat} {cs : List Value} {t : TypeId} (h : w.heap[g]? = some (.cells cs.toArray t (0, 0))) {k : Nat} {ks : List Value} (hk : ∀ (j : Nat) (v : Value), ks[j]? = some v → cs[k + j]? = some v) : w.rangeAt g k ks := fun j v hv => by
  rw [cell_of_row _ _ _ _ _ _ h]
  simpa using hk j v hv

set_option maxRecDepth 100000 in
set_option maxHeartbeats 4000000 in
theorem refKids_parts (w : World) (o : ObjT) (p : Lay) (ha : ObjIn w w.heap.size o p) (hf : Fit o) (hk : o.kind = 2) :
    Calls Try.prog 9 #[.agg (ocells o p).toArray] w fun e w' => (∃ A c, e = .returned (.slice A o.parts.length c) ∧ Own w' w.heap.size 28 32 A o.parts.length c (flat encK (o.parts.map (·.1)))) ∧ Below w.heap.size w w' := by
  have hi32 : (Try.prog.info? 28).map (·.size) = some 32 := by kernel_rfl
  have hi33 : (Try.prog.info? 41).map (·.size) = some 33 := by kernel_rfl
  have hi35 : (Try.prog.info? 45).map (·.size) = some 35 := by kernel_rfl
  have hi32' := Lib.hid hi32
  have hi33' := Lib.hid hi33
  have hi35' := Lib.hid hi35
  have zP := zeroP; have zI := zeroI
  have ha' := Lib.hid ha
  have hS0' := Lib.hid (KSt.start (w := w) (o := o) (p := p))

  obtain ⟨n, hn⟩ : ∃ n, Hid (∀ _ : Unit, o.parts.length = n) := ⟨_, Lib.hid fun _ => rfl⟩
  have ln : n * 40 ≤ 140737488355328 := by rw [← hn.out ()]; exact hf.ps
  rw [hn.out ()]
  obtain ⟨Ap, hAp⟩ : ∃ A, Hid (∀ _ : Unit, p.Ap = A) := ⟨_, Lib.hid fun _ => rfl⟩
  have c0 := hS0'.out.blk.c0
  have c2 := hS0'.out.blk.c2
  rw [hk] at c0
  rw [hn.out (), hAp.out ()] at c2
  clear ha hf hi32 hi33 hi35 hk
  go_enter Try.func9, Try.ntmps9
  go_wp2_with fail
  generalize (w.alloc (.cells (ocells o p).toArray 31)) = w1 at hS0' c0 c2 ⊢
  have hw1 : Hid (w.heap.size + 1 ≤ w1.heap.size) := Lib.hid hS0'.out.le
  go_loopw [3, 4] (fun s i wr => ∃ (k : Nat) (A : Option Addr) (c : Nat), k ≤ n ∧ i = .int .i64 k ∧ s = .slice A k c ∧ Hid (Own wr (w.heap.size + 1) 28 32 A k c (flat encK ((o.parts.take k).map (·.1)))) ∧ Hid (KSt w wr o p)) (fun _ i _ => n - (intOf i).toNat)
  case atStart => exact ⟨0, none, 0, by omega, rfl, rfl, Lib.hid (Own.nil _ _ _ _), hS0'⟩
  case round =>
    clear c0 c2
    obtain ⟨k, A, c, hk, rfl, rfl, hown, hS⟩ := hrel
    have c2 := hS.out.blk.c2
    rw [hn.out (), hAp.out ()] at c2
    by_cases hlt : k < n
    · have hkx : k < o.parts.length := by rw [hn.out ()]; exact hlt
      obtain ⟨b, off, hA, _, hc⟩ := Row.elem (Rd.below ha'.out.ps hS.out.bel) encP_length (by decide) hkx
      obtain ⟨x, hx⟩ : ∃ x, o.parts[k] = x := ⟨_, rfl⟩
      rw [hx] at hc
      have hm := Lib.hid (take_map (·.1) hkx hx)
      have hle := Lib.hid hS.out.le
      rw [hAp.out ()] at hA
      subst hA
      have hel : (k + 1 : Nat) ≤ maxLen ∧ (k + 1 + (k + 1) / 4 + 192) * 32 ≤ 281474976710656 := elemK_ok k (by omega)
      have hel' := Lib.hid hel
      clear hel hx hkx
      have hrg := Lib.hid (show wr.rangeAt b (off + k * 33) (encK x.1) from fun j v hv => hc j v (encP_key x j v hv))
      clear hc
      go_wp2_with (first
        | (refine wpList_load_mid rfl 28 _ rfl b (off + k * 33) rfl (encK x.1) _ hrg.out Try.underlying28 rfl (by rw [encK_length]; exact hi32'.out) ?_)
        | (refine Great.wpList_buildSliceTo rfl 29 28 1 _ rfl _ rfl _ rfl Try.underlying29 (encK x.1).toArray (by rw [List.map_toArray]; exact built1 x.1) ?_)
        | (at_builtin; refine wpList_app1 elK _ (encK x.1).toArray (by simp [encK_length]) rfl _ _ rfl rfl hown.out rfl (by intro u hu; exact encK_one _ u (by simpa using hu)) hel'.out.1 hel'.out.2 hle.out (k + 1) rfl (flat encK ((o.parts.take (k + 1)).map (·.1))) (by rw [hm.out, flat_append]; simp [flat]) ?_
           intro A' c' w' hown' _ hb'))
      go_roundw
      case rel => exact ⟨k + 1, A', c', by omega, by go_num, rfl, Lib.hid hown', Lib.hid (hS.out.below hb')⟩
      case measure => simp [intOf]; omega
    · obtain rfl : k = n := by omega
      have hfull : o.parts.take k = o.parts := List.take_of_length_le (by rw [hn.out ()]; exact Nat.le_refl _)
      rw [hfull] at hown
      go_wp2_with fail
      go_ret
      exact ⟨⟨A, c, rfl, hown.out.base (by omega)⟩, hS.out.bel⟩

set_option maxRecDepth 100000 in
set_option maxHeartbeats 4000000 in
theorem refKids_items (w : World) (o : ObjT) (p : Lay) (ha : ObjIn w w.heap.size o p) (hf : Fit o) (hk : o.kind = 3) :
    Calls Try.prog 9 #[.agg (ocells o p).toArray] w fun e w' => (∃ A c, e = .returned (.slice A o.items.length c) ∧ Own w' w.heap.size 28 32 A o.items.length c (flat encK (o.items.map (·.2.2.2)))) ∧ Below w.heap.size w w' := by
  have hi32 : (Try.prog.info? 28).map (·.size) = some 32 := by kernel_rfl
  have hi33 : (Try.prog.info? 41).map (·.size) = some 33 := by kernel_rfl
  have hi35 : (Try.prog.info? 45).map (·.size) = some 35 := by kernel_rfl
  have hi32' := Lib.hid hi32
  have hi33' := Lib.hid hi33
  have hi35' := Lib.hid hi35
  have zP := zeroP; have zI := zeroI
  have ha' := Lib.hid ha
  have hS0' := Lib.hid (KSt.start (w := w) (o := o) (p := p))

  obtain ⟨n, hn⟩ : ∃ n, Hid (∀ _ : Unit, o.items.length = n) := ⟨_, Lib.hid fun _ => rfl⟩
  have ln : n * 64 ≤ 140737488355328 := by rw [← hn.out ()]; exact hf.xs
  rw [hn.out ()]
  obtain ⟨Ap, hAp⟩ : ∃ A, Hid (∀ _ : Unit, p.Ai = A) := ⟨_, Lib.hid fun _ => rfl⟩
  have c0 := hS0'.out.blk.c0
  have c3 := hS0'.out.blk.c3
  rw [hk] at c0
  rw [hn.out (), hAp.out ()] at c3
  clear ha hf hi32 hi33 hi35 hk
  go_enter Try.func9, Try.ntmps9
  go_wp2_with fail
  generalize (w.alloc (.cells (ocells o p).toArray 31)) = w1 at hS0' c0 c3 ⊢
  have hw1 : Hid (w.heap.size + 1 ≤ w1.heap.size) := Lib.hid hS0'.out.le
  go_loopw [3, 5] (fun s i wr => ∃ (k : Nat) (A : Option Addr) (c : Nat), k ≤ n ∧ i = .int .i64 k ∧ s = .slice A k c ∧ Hid (Own wr (w.heap.size + 1) 28 32 A k c (flat encK ((o.items.take k).map (·.2.2.2)))) ∧ Hid (KSt w wr o p)) (fun _ i _ => n - (intOf i).toNat)
  case atStart => exact ⟨0, none, 0, by omega, rfl, rfl, Lib.hid (Own.nil _ _ _ _), hS0'⟩
  case round =>
    clear c0 c3
    obtain ⟨k, A, c, hk, rfl, rfl, hown, hS⟩ := hrel
    have c3 := hS.out.blk.c3
    rw [hn.out (), hAp.out ()] at c3
    by_cases hlt : k < n
    · have hkx : k < o.items.length := by rw [hn.out ()]; exact hlt
      obtain ⟨b, off, hA, _, hc⟩ := Row.elem (Rd.below ha'.out.xs hS.out.bel) encI_length (by decide) hkx
      obtain ⟨x, hx⟩ : ∃ x, o.items[k] = x := ⟨_, rfl⟩
      rw [hx] at hc
      have hm := Lib.hid (take_map (·.2.2.2) hkx hx)
      have hle := Lib.hid hS.out.le
      rw [hAp.out ()] at hA
      subst hA
      have hel : (k + 1 : Nat) ≤ maxLen ∧ (k + 1 + (k + 1) / 4 + 192) * 32 ≤ 281474976710656 := elemK_ok k (by omega)
      have hel' := Lib.hid hel
      clear hel hx hkx
      have hrg := Lib.hid (show wr.rangeAt b (off + k * 35 + 3) (encK x.2.2.2) from fun j v hv => by rw [Nat.add_assoc (off + k * 35)]; exact hc _ v (encI_key x j v hv))
      clear hc
      go_wp2_with (first
        | (refine wpList_load_mid rfl 28 _ rfl b (off + k * 35 + 3) rfl (encK x.2.2.2) _ hrg.out Try.underlying28 rfl (by rw [encK_length]; exact hi32'.out) ?_)
        | (refine Great.wpList_buildSliceTo rfl 29 28 1 _ rfl _ rfl _ rfl Try.underlying29 (encK x.2.2.2).toArray (by rw [List.map_toArray]; exact built1 x.2.2.2) ?_)
        | (at_builtin; refine wpList_app1 elK _ (encK x.2.2.2).toArray (by simp [encK_length]) rfl _ _ rfl rfl hown.out rfl (by intro u hu; exact encK_one _ u (by simpa using hu)) hel'.out.1 hel'.out.2 hle.out (k + 1) rfl (flat encK ((o.items.take (k + 1)).map (·.2.2.2))) (by rw [hm.out, flat_append]; simp [flat]) ?_
           intro A' c' w' hown' _ hb'))
      go_roundw
      case rel => exact ⟨k + 1, A', c', by omega, by go_num, rfl, Lib.hid hown', Lib.hid (hS.out.below hb')⟩
      case measure => simp [intOf]; omega
    · obtain rfl : k = n := by omega
      have hfull : o.items.take k = o.items := List.take_of_length_le (by rw [hn.out ()]; exact Nat.le_refl _)
      rw [hfull] at hown
      go_wp2_with fail
      go_ret
      exact ⟨⟨A, c, rfl, hown.out.base (by omega)⟩, hS.out.bel⟩

set_option maxRecDepth 100000 in
set_option maxHeartbeats 4000000 in
theorem kids_parts (w : World) (o : ObjT) (p : Lay) (ha : ObjIn w w.heap.size o p) (hf : Fit o) (hk : o.kind = 2) :
    Calls Try.prog 10 #[.agg (ocells o p).toArray] w fun e w' => (∃ A c, e = .returned (.slice A o.parts.length c) ∧ Own w' w.heap.size 28 32 A o.parts.length c (flat encK (o.parts.map (·.1)))) ∧ Below w.heap.size w w' := by
  have hi32 : (Try.prog.info? 28).map (·.size) = some 32 := by kernel_rfl
  have hi33 : (Try.prog.info? 41).map (·.size) = some 33 := by kernel_rfl
  have hi35 : (Try.prog.info? 45).map (·.size) = some 35 := by kernel_rfl
  have hi32' := Lib.hid hi32
  have hi33' := Lib.hid hi33
  have hi35' := Lib.hid hi35
  have zP := zeroP; have zI := zeroI
  have ha' := Lib.hid ha
  have hS0' := Lib.hid (KSt.start (w := w) (o := o) (p := p))

  obtain ⟨n, hn⟩ : ∃ n, Hid (∀ _ : Unit, o.parts.length = n) := ⟨_, Lib.hid fun _ => rfl⟩
  have ln : n * 40 ≤ 140737488355328 := by rw [← hn.out ()]; exact hf.ps
  rw [hn.out ()]
  obtain ⟨Ap, hAp⟩ : ∃ A, Hid (∀ _ : Unit, p.Ap = A) := ⟨_, Lib.hid fun _ => rfl⟩
  have c0 := hS0'.out.blk.c0
  have c2 := hS0'.out.blk.c2
  rw [hk] at c0
  rw [hn.out (), hAp.out ()] at c2
  clear ha hf hi32 hi33 hi35 hk
  go_enter Try.func10, Try.ntmps10
  go_wp2_with fail
  generalize (w.alloc (.cells (ocells o p).toArray 31)) = w1 at hS0' c0 c2 ⊢
  have hw1 : Hid (w.heap.size + 1 ≤ w1.heap.size) := Lib.hid hS0'.out.le
  go_loopw [3, 15] (fun s i wr => ∃ (k : Nat) (A : Option Addr) (c : Nat), k ≤ n ∧ i = .int .i64 k ∧ s = .slice A k c ∧ Hid (Own wr (w.heap.size + 1) 28 32 A k c (flat encK ((o.parts.take k).map (·.1)))) ∧ Hid (KSt w wr o p)) (fun _ i _ => n - (intOf i).toNat)
  case atStart => exact ⟨0, none, 0, by omega, rfl, rfl, Lib.hid (Own.nil _ _ _ _), hS0'⟩
  case round =>
    clear c0 c2
    obtain ⟨k, A, c, hk, rfl, rfl, hown, hS⟩ := hrel
    have c2 := hS.out.blk.c2
    rw [hn.out (), hAp.out ()] at c2
    by_cases hlt : k < n
    · have hkx : k < o.parts.length := by rw [hn.out ()]; exact hlt
      obtain ⟨b, off, hA, _, hc⟩ := Row.elem (Rd.below ha'.out.ps hS.out.bel) encP_length (by decide) hkx
      obtain ⟨x, hx⟩ : ∃ x, o.parts[k] = x := ⟨_, rfl⟩
      rw [hx] at hc
      have hm := Lib.hid (take_map (·.1) hkx hx)
      have hle := Lib.hid hS.out.le
      rw [hAp.out ()] at hA
      subst hA
      have hel : (k + 1 : Nat) ≤ maxLen ∧ (k + 1 + (k + 1) / 4 + 192) * 32 ≤ 281474976710656 := elemK_ok k (by omega)
      have hel' := Lib.hid hel
      clear hel hx hkx
      have hrg := Lib.hid (show wr.rangeAt b (off + k * 33) (encP x) from fun j v hv => hc j v hv)
      have hnw := row_new wr 41 (encP (zK, 0)).toArray (encP x).toArray
      have hN := Lib.hid hnw.1
      have hNb := Lib.hid (hnw.2 _ hle.out)
      have hNc := Lib.hid (hnw.2 _ (Nat.le_refl _))
      have hxs : (encP x).toArray.size = 33 := by simp [encP_length]
      have hzs : (encP (zK, 0)).toArray.size = 33 := by simp [encP_length]
      have hxs' := Lib.hid hxs
      have hzs' := Lib.hid hzs
      have hone' := Lib.hid (show (encP x).toArray.all (·.oneCell') = true from all_oneCell_toArray (encP_one x))
      clear hc hnw hxs hzs
      go_wp2_with (first
        | (refine wpList_load_mid rfl 41 _ rfl b (off + k * 33) rfl (encP x) _ hrg.out Try.underlying41 rfl (by rw [encP_length]; exact hi33'.out) ?_)
        | (refine wpList_store_row rfl 41 _ _ rfl wr.heap.size (encP x).toArray rfl rfl 41 _ (heap_alloc_new wr _) (by rw [hxs'.out]; exact hi33'.out) (by rw [hxs'.out, hzs'.out]) hone'.out ?_
           generalize ((wr.alloc (.cells (encP (zK, 0)).toArray 41)).setRow wr.heap.size (encP x).toArray) = w2 at hN hNb hNc ⊢
           have hS2 := Lib.hid (hS.out.below hNb.out)
           have ho2 := Lib.hid (hown.out.below hNc.out (fun j hj => (hown.out.lt j hj).2))
           have hle2 := Lib.hid hS2.out.le
           have hrg2 := Lib.hid (range_of hN.out (k := 0) (ks := encK x.1) (fun j v hv => by rw [Nat.zero_add]; exact encP_key x j v hv)))
        | (refine wpList_load_mid rfl 28 _ rfl wr.heap.size 0 rfl (encK x.1) _ hrg2.out Try.underlying28 rfl (by rw [encK_length]; exact hi32'.out) ?_)
        | (refine Great.wpList_buildSliceTo rfl 29 28 1 _ rfl _ rfl _ rfl Try.underlying29 (encK x.1).toArray (by rw [List.map_toArray]; exact built1 x.1) ?_)
        | (at_builtin; refine wpList_app1 elK _ (encK x.1).toArray (by simp [encK_length]) rfl _ _ rfl rfl ho2.out rfl (by intro u hu; exact encK_one _ u (by simpa using hu)) hel'.out.1 hel'.out.2 hle2.out (k + 1) rfl (flat encK ((o.parts.take (k + 1)).map (·.1))) (by rw [hm.out, flat_append]; simp [flat]) ?_
           intro A' c' w' hown' _ hb'))
      go_roundw
      case rel => exact ⟨k + 1, A', c', by omega, by go_num, rfl, Lib.hid hown', Lib.hid (hS2.out.below hb')⟩
      case measure => simp [intOf]; omega
    · obtain rfl : k = n := by omega
      have hfull : o.parts.take k = o.parts := List.take_of_length_le (by rw [hn.out ()]; exact Nat.le_refl _)
      rw [hfull] at hown
      go_wp2_with fail
      go_ret
      exact ⟨⟨A, c, rfl, hown.out.base (by omega)⟩, hS.out.bel⟩

set_option maxRecDepth 100000 in
set_option maxHeartbeats 4000000 in
theorem kids_items (w : World) (o : ObjT) (p : Lay) (ha : ObjIn w w.heap.size o p) (hf : Fit o) (hk : o.kind = 3) :
    Calls Try.prog 10 #[.agg (ocells o p).toArray] w fun e w' => (∃ A c, e = .returned (.slice A o.items.length c) ∧ Own w' w.heap.size 28 32 A o.items.length c (flat encK (o.items.map (·.2.2.2)))) ∧ Below w.heap.size w w' := by
  have hi32 : (Try.prog.info? 28).map (·.size) = some 32 := by kernel_rfl
  have hi33 : (Try.prog.info? 41).map (·.size) = some 33 := by kernel_rfl
  have hi35 : (Try.prog.info? 45).map (·.size) = some 35 := by kernel_rfl
  have hi32' := Lib.hid hi32
  have hi33' := Lib.hid hi33
  have hi35' := Lib.hid hi35
  have zP := zeroP; have zI := zeroI
  have ha' := Lib.hid ha
  have hS0' := Lib.hid (KSt.start (w := w) (o := o) (p := p))

  obtain ⟨n, hn⟩ : ∃ n, Hid (∀ _ : Unit, o.items.length = n) := ⟨_, Lib.hid fun _ => rfl⟩
  have ln : n * 64 ≤ 140737488355328 := by rw [← hn.out ()]; exact hf.xs
  rw [hn.out ()]
  obtain ⟨Ap, hAp⟩ : ∃ A, Hid (∀ _ : Unit, p.Ai = A) := ⟨_, Lib.hid fun _ => rfl⟩
  have c0 := hS0'.out.blk.c0
  have c3 := hS0'.out.blk.c3
  rw [hk] at c0
  rw [hn.out (), hAp.out ()] at c3
  clear ha hf hi32 hi33 hi35 hk
  go_enter Try.func10, Try.ntmps10
  go_wp2_with fail
  generalize (w.alloc (.cells (ocells o p).toArray 31)) = w1 at hS0' c0 c3 ⊢
  have hw1 : Hid (w.heap.size + 1 ≤ w1.heap.size) := Lib.hid hS0'.out.le
  go_loopw [3, 30] (fun s i wr => ∃ (k : Nat) (A : Option Addr) (c : Nat), k ≤ n ∧ i = .int .i64 k ∧ s = .slice A k c ∧ Hid (Own wr (w.heap.size + 1) 28 32 A k c (flat encK ((o.items.take k).map (·.2.2.2)))) ∧ Hid (KSt w wr o p)) (fun _ i _ => n - (intOf i).toNat)
  case atStart => exact ⟨0, none, 0, by omega, rfl, rfl, Lib.hid (Own.nil _ _ _ _), hS0'⟩
  case round =>
    clear c0 c3
    obtain ⟨k, A, c, hk, rfl, rfl, hown, hS⟩ := hrel
    have c3 := hS.out.blk.c3
    rw [hn.out (), hAp.out ()] at c3
    by_cases hlt : k < n
    · have hkx : k < o.items.length := by rw [hn.out ()]; exact hlt
      obtain ⟨b, off, hA, _, hc⟩ := Row.elem (Rd.below ha'.out.xs hS.out.bel) encI_length (by decide) hkx
      obtain ⟨x, hx⟩ : ∃ x, o.items[k] = x := ⟨_, rfl⟩
      rw [hx] at hc
      have hm := Lib.hid (take_map (·.2.2.2) hkx hx)
      have hle := Lib.hid hS.out.le
      rw [hAp.out ()] at hA
      subst hA
      have hel : (k + 1 : Nat) ≤ maxLen ∧ (k + 1 + (k + 1) / 4 + 192) * 32 ≤ 281474976710656 := elemK_ok k (by omega)
      have hel' := Lib.hid hel
      clear hel hx hkx
      have hrg := Lib.hid (show wr.rangeAt b (off + k * 35) (encI x) from fun j v hv => hc j v hv)
      have hnw := row_new wr 45 (encI (⟨#[]⟩, 0, 0, zK)).toArray (encI x).toArray
      have hN := Lib.hid hnw.1
      have hNb := Lib.hid (hnw.2 _ hle.out)
      have hNc := Lib.hid (hnw.2 _ (Nat.le_refl _))
      have hxs : (encI x).toArray.size = 35 := by simp [encI_length]
      have hzs : (encI (⟨#[]⟩, 0, 0, zK)).toArray.size = 35 := by simp [encI_length]
      have hxs' := Lib.hid hxs
      have hzs' := Lib.hid hzs
      have hone' := Lib.hid (show (encI x).toArray.all (·.oneCell') = true from all_oneCell_toArray (encI_one x))
      clear hc hnw hxs hzs
      go_wp2_with (first
        | (refine wpList_load_mid rfl 45 _ rfl b (off + k * 35) rfl (encI x) _ hrg.out Try.underlying45 rfl (by rw [encI_length]; exact hi35'.out) ?_)
        | (refine wpList_store_row rfl 45 _ _ rfl wr.heap.size (encI x).toArray rfl rfl 45 _ (heap_alloc_new wr _) (by rw [hxs'.out]; exact hi35'.out) (by rw [hxs'.out, hzs'.out]) hone'.out ?_
           generalize ((wr.alloc (.cells (encI (⟨#[]⟩, 0, 0, zK)).toArray 45)).setRow wr.heap.size (encI x).toArray) = w2 at hN hNb hNc ⊢
           have hS2 := Lib.hid (hS.out.below hNb.out)
           have ho2 := Lib.hid (hown.out.below hNc.out (fun j hj => (hown.out.lt j hj).2))
           have hle2 := Lib.hid hS2.out.le
           have hrg2 := Lib.hid (range_of hN.out (k := 3) (ks := encK x.2.2.2) (encI_key x)))
        | (refine wpList_load_mid rfl 28 _ rfl wr.heap.size 3 rfl (encK x.2.2.2) _ hrg2.out Try.underlying28 rfl (by rw [encK_length]; exact hi32'.out) ?_)
        | (refine Great.wpList_buildSliceTo rfl 29 28 1 _ rfl _ rfl _ rfl Try.underlying29 (encK x.2.2.2).toArray (by rw [List.map_toArray]; exact built1 x.2.2.2) ?_)
        | (at_builtin; refine wpList_app1 elK _ (encK x.2.2.2).toArray (by simp [encK_length]) rfl _ _ rfl rfl ho2.out rfl (by intro u hu; exact encK_one _ u (by simpa using hu)) hel'.out.1 hel'.out.2 hle2.out (k + 1) rfl (flat encK ((o.items.take (k + 1)).map (·.2.2.2))) (by rw [hm.out, flat_append]; simp [flat]) ?_
           intro A' c' w' hown' _ hb'))
      go_roundw
      case rel => exact ⟨k + 1, A', c', by omega, by go_num, rfl, Lib.hid hown', Lib.hid (hS2.out.below hb')⟩
      case measure => simp [intOf]; omega
    · obtain rfl : k = n := by omega
      have hfull : o.items.take k = o.items := List.take_of_length_le (by rw [hn.out ()]; exact Nat.le_refl _)
      rw [hfull] at hown
      go_wp2_with fail
      go_ret
      exact ⟨⟨A, c, rfl, hown.out.base (by omega)⟩, hS.out.bel⟩

end Go.Proofs.Ytkjndgapejbgcaa

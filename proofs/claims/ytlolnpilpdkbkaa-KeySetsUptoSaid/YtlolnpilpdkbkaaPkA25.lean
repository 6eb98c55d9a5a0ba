/- Sets of keys: a nil one answers every call as an empty one. Del of a set of keys. (Printed by tools/gendelset.py.) Sets of keys that may be nil: the calls. -/
import Derived.Test.YtlolnpilpdkbkaaPkA15
import Derived.Test.YtlolnpilpdkbkaaPkA11
import Derived.Test.YtlolnpilpdkbkaaPkA14

namespace Go.Proofs.Ytlolnpilpdkbkaa
open Go.RowKit Go.Maps
set_option linter.unusedSimpArgs false
set_option linter.unusedVariables false

theorem there_nil (w : World) : Calls Try.prog 36 #[.pointer none] w fun e w' => e = .returned (.bool false) ∧ w' = w := by
  go_enter Try.func36, Try.ntmps36
  go_wp2_with fail
  go_ret
  exact ⟨rfl, rfl⟩
theorem has_nil (w : World) (x : List Nat) : Calls Try.prog 16 #[.pointer none, .agg (u8s x).toArray] w fun e w' => e = .returned (.bool false) ∧ Below w.heap.size w w' := by
  have hT := Lib.hid there_nil
  go_enter Try.func16, Try.ntmps16
  go_wp2_with (go_at_call 36; refine (hT.out _).mono ?_; rintro e w5 ⟨rfl, h5⟩; have h6 := h5.symm; clear h5; subst h6; clear hT)
  go_ret
  exact ⟨rfl, (Below.refl _ _).alloc (Nat.le_refl _) _⟩
theorem add_nil (w : World) (x : List Nat) : Calls Try.prog 46 #[.pointer none, .agg (u8s x).toArray] w fun e w' => e = .returned (.bool false) ∧ Below w.heap.size w w' := by
  have hT := Lib.hid there_nil
  go_enter Try.func46, Try.ntmps46
  go_wp2_with (go_at_call 36; refine (hT.out _).mono ?_; rintro e w5 ⟨rfl, h5⟩; have h6 := h5.symm; clear h5; subst h6; clear hT)
  go_ret
  exact ⟨rfl, (Below.refl _ _).alloc (Nat.le_refl _) _⟩
theorem del_nil (w : World) (x : List Nat) (hx : x.length = 32) : Calls Try.prog 47 #[.pointer none, .agg (u8s x).toArray] w fun e w' => e = .returned (.bool false) ∧ Below w.heap.size w w' := by
  obtain ⟨w1, hw1⟩ : ∃ w1, w.alloc (.cells (u8s x).toArray 25) = w1 := ⟨_, rfl⟩
  have hB : Hid (Below w.heap.size w w1) := Lib.hid (by rw [← hw1]; exact (Below.refl _ _).alloc (Nat.le_refl _) _)
  obtain ⟨g, hg⟩ : ∃ g, w.heap.size = g := ⟨_, rfl⟩
  have hk1 : Hid (w1.heap[g]? = some (.cells (u8s x).toArray 25 (0, 0))) := Lib.hid (by rw [← hw1, ← hg]; exact heap_alloc_new w _)
  have hi32 : Hid ((Try.prog.info? 25).map (·.size) = some 32) := Lib.hid (by kernel_rfl)
  have hs32 : Hid ((u8s x).toArray.size = 32) := Lib.hid (by simp [u8s, hx])
  have hT := Lib.hid (has_nil w1 x)

  clear hx
  go_enter Try.func47, Try.ntmps47
  go_wp2_with (first
    | (refine wpList_load_row rfl 25 _ rfl g rfl 25 (u8s x).toArray (0, 0) _ hk1.out Try.underlying25 rfl (by rw [hs32.out]; exact hi32.out) ?_)
    | (go_at_call 16; refine hT.out.mono ?_; rintro e w5 ⟨rfl, h5⟩; have h5' := Lib.hid h5; clear h5 hT))
  go_ret
  exact ⟨rfl, hB.out.trans (h5'.out.mono hB.out.size)⟩
theorem len_nil (w : World) : Calls Try.prog 14 #[.pointer none] w fun e w' => e = .returned (.int .i64 0) ∧ w' = w := by
  have hT := Lib.hid there_nil
  go_enter Try.func14, Try.ntmps14
  go_wp2_with (go_at_call 36; refine (hT.out _).mono ?_; rintro e w5 ⟨rfl, h5⟩; have h6 := h5.symm; clear h5; subst h6; clear hT)
  go_ret
  exact ⟨rfl, rfl⟩
end Go.Proofs.Ytlolnpilpdkbkaa

namespace Go.Proofs.Ytlolnpilpdkbkaa
open Go.RowKit Go.Maps
set_option linter.unusedSimpArgs false
set_option linter.unusedVariables false

/-- What the set reads as behind Del. -/
def delD (D : DataW Unit) (l : Lit) : DataW Unit := if Maps.has D l then D.del l else D
def DelP (w : World) (s m n : Nat) (D : DataW Unit) (l : Lit) (e : Ending) (w' : World) : Prop :=
  e = .returned (.bool (Maps.has D l)) ∧ SetAt w' s m n (delD D l) ∧ w.grownBy w' (some m)
set_option maxRecDepth 100000 in
set_option maxHeartbeats 2000000 in
theorem setDel_any (w : World) (s m n : Nat) (D : DataW Unit) (h : SetAt w s m n D) (x : List Nat) (hx : x.length = 32) (l : Lit) (hkey : keyOf Try.prog 25 (.agg (u8s x).toArray) = some l) :
    Calls Try.prog 47 #[.pointer (some ⟨s, 0, none⟩), .agg (u8s x).toArray] w (DelP w s m n D l) := by
  obtain ⟨g, hg⟩ : ∃ g, w.heap.size = g := ⟨_, rfl⟩
  obtain ⟨w1, hw1⟩ : ∃ w1, w.alloc (.cells (u8s x).toArray 25) = w1 := ⟨_, rfl⟩
  have hB : Hid (Below w.heap.size w w1) := Lib.hid (by rw [← hw1]; exact (Below.refl _ _).alloc (Nat.le_refl _) _)
  have h1 : SetAt w1 s m n D := h.below hB.out (Nat.le_refl _)
  have hH := Lib.hid (setHas_any w1 s m n D h1 x hx l hkey)
  have hi32 : Hid ((Try.prog.info? 25).map (·.size) = some 32) := Lib.hid (by kernel_rfl)
  have hs32 : Hid ((u8s x).toArray.size = 32) := Lib.hid (by simp [u8s, hx])
  have hk1 : Hid (w1.heap[g]? = some (.cells (u8s x).toArray 25 (0, 0))) := Lib.hid (by rw [← hw1, ← hg]; exact heap_alloc_new w _)
  have hgm : Hid (g ≠ m) := Lib.hid (by have := h.2.lt; omega)
  have hsm : Hid (s ≠ m) := Lib.hid h.ne
  obtain ⟨kv, hkv⟩ : ∃ kv, (u8s x).toArray = kv := ⟨_, rfl⟩
  rw [hkv] at hkey hk1 hs32 hw1 hH ⊢
  have hkey' := Lib.hid hkey
  have h1' := Lib.hid h1
  obtain ⟨B, hB0⟩ : ∃ B, Maps.has D l = B := ⟨_, rfl⟩
  rw [hB0] at hH
  have hB0' := Lib.hid hB0
  clear hkey h1 hB0 hkv hx h
  cases B
  · skip
    go_enter Try.func47, Try.ntmps47
    go_wp2_with (first
      | (refine wpList_load_row rfl 25 _ rfl g rfl 25 kv (0, 0) _ hk1.out Try.underlying25 rfl (by rw [hs32.out]; exact hi32.out) ?_)
      | (go_at_call 16; refine hH.out.mono ?_; rintro e w5 ⟨rfl, b5⟩; have b5' := Lib.hid b5; clear b5 hH))
    go_ret
    unfold DelP delD
    rw [hB0'.out]
    exact ⟨rfl, h1'.out.below b5'.out (Nat.le_refl _), grown_of_below (hB.out.trans (b5'.out.mono hB.out.size)) _⟩
  · skip
    go_enter Try.func47, Try.ntmps47
    go_wp2_with (first
      | (refine wpList_load_row rfl 25 _ rfl g rfl 25 kv (0, 0) _ hk1.out Try.underlying25 rfl (by rw [hs32.out]; exact hi32.out) ?_)
      | (go_at_call 16; refine hH.out.mono ?_; rintro e w5 ⟨rfl, b5⟩; have b5' := Lib.hid b5; clear b5 hH))
    have hW4 : Hid (Below w.heap.size w w5.drew) := Lib.hid (hB.out.trans ((below_drewN b5'.out 1).mono hB.out.size))
    have hS5 := Lib.hid (h1'.out.below b5'.out (Nat.le_refl _))
    have hk5 := Lib.hid ((b5'.out.block _ (Array.getElem?_eq_some_iff.1 hk1.out).1).trans hk1.out)
    have hd : Hid (NewS g s m kv w5.drew) := Lib.hid ⟨hk5.out, hS5.out.1⟩
    have upd : Hid (∃ w6, (Builtin.delete_ #[80, 25] 0 #[.map (some m), .agg kv]).run Try.prog w5.drew = .ok (.tuple #[]) w6 ∧ w6.ownsMap Try.prog 25 (unitElem (H := Unit)) m n (D.del l) ∧ w5.drew.grownBy w6 (some m)) := Lib.hid (by
      obtain ⟨w6, a, b, c⟩ := World.ownsMap.drop (w := w5.drew) hS5.out.2 lawK mapK hkey'.out 0
      exact ⟨w6, a, b, c.grown⟩)
    have hfin : Hid (∀ w6, w6.ownsMap Try.prog 25 (unitElem (H := Unit)) m n (D.del l) → w5.drew.grownBy w6 (some m) → NewS g s m kv w6 → DelP w s m n D l (.returned (.bool true)) w6) := Lib.hid (fun w6 a b c => by
      unfold DelP delD
      rw [hB0'.out]
      exact ⟨rfl, ⟨c.2, a⟩, (grown_of_below hW4.out (some m)).trans b⟩)
    refine wp_region_held (S := NewS g s m kv) (by kernel_rfl) ?_
    change wpAnyH _ _ _ _ _ _ _ _ (World.drew _)
    refine tk (i := 0) (d := 9) (v := (.pointer (some ⟨s, 0, none⟩))) rfl rfl (Or.inl ⟨by rfl, by intro W hW; clear hW; go_simp⟩) hd.out ?_
    simp only [List.setIfInBounds_toArray, List.set_cons_zero, List.set_cons_succ]
    refine tk (i := 1) (d := 10) (v := (.pointer (some ⟨s, 0, none⟩))) rfl rfl (Or.inl ⟨by rfl, by intro W hW; clear hW; go_simp⟩) hd.out ?_
    simp only [List.setIfInBounds_toArray, List.set_cons_zero, List.set_cons_succ]
    refine tk (i := 2) (d := 11) (v := (.pointer (some ⟨s, 0, none⟩))) rfl rfl (Or.inl ⟨by rfl, by intro W hW; clear hW; go_simp⟩) hd.out ?_
    simp only [List.setIfInBounds_toArray, List.set_cons_zero, List.set_cons_succ]
    refine tk (i := 3) (d := 12) (v := (.map (some m))) rfl rfl (Or.inl ⟨by rfl, by intro W hW; have c := hW.cel; clear hW; go_simp⟩) hd.out ?_
    simp only [List.setIfInBounds_toArray, List.set_cons_zero, List.set_cons_succ]
    refine tk (i := 4) (d := 13) (v := (.agg kv)) rfl rfl (yieldsIf_load_row (by rfl) 25 _ rfl g rfl 25 kv (0, 0) _ (fun W hW => hW.key) Try.underlying25 rfl (by rw [hs32.out]; exact hi32.out)) hd.out ?_
    simp only [List.setIfInBounds_toArray, List.set_cons_zero, List.set_cons_succ]
    refine wpAnyH_ready (rs := [5]) (by kernel_rfl) (by simp) ?_
    refine AllReadyH.cons rfl (fun K hK => ?_) AllReadyH.nil
    obtain ⟨w6, hrun, hown6, hgr6⟩ := upd.out
    go_simp
    clear hrun
    have hd1 := Lib.hid (hd.out.grown hgr6 hsm.out hgm.out)
    refine hK.out _ _ hd1.out (fun _ => ?_)
    clear hK K
    refine wpAnyH_done (by kernel_rfl) ?_ _
    have hF6 := Lib.hid (hfin.out _ hown6 hgr6 hd1.out)
    clear hown6 hgr6
    go_wp2_with fail
    go_ret
    exact hF6.out
end Go.Proofs.Ytlolnpilpdkbkaa

namespace Go.Proofs.Ytlolnpilpdkbkaa
open Go.RowKit Go.Maps
set_option linter.unusedSimpArgs false
set_option linter.unusedVariables false

/-- A set's pointer: nil, or its block and its map's. -/
def pv (o : Option (Nat × Nat)) : Value := .pointer (o.map fun p => ⟨p.1, 0, none⟩)
def SetO (w : World) (o : Option (Nat × Nat)) (ks : List (List Nat)) : Prop :=
  match o with
  | none => ks = []
  | some p => ∃ n, SetK w p.1 p.2 n ks
section
variable {w w' : World} {o : Option (Nat × Nat)} {ks : List (List Nat)}
theorem SetO.below (h : SetO w o ks) (hb : Below w.heap.size w w') : SetO w' o ks := by
  cases o with
  | none => exact h
  | some p =>
    obtain ⟨n, h⟩ := h
    exact ⟨n, h.keep (hb.block _ h.lts.1) (hb.block _ h.lts.2)⟩
theorem SetO.rise (h : SetO w o ks) : Rise32 ks := by
  cases o with
  | none => rw [show ks = [] from h]; exact Rise32.nil
  | some p => obtain ⟨n, h⟩ := h; exact h.rise
theorem SetO.lts (h : SetO w o ks) {p : Nat × Nat} (e : o = some p) : p.1 < w.heap.size ∧ p.2 < w.heap.size := by
  subst e
  obtain ⟨n, h⟩ := h
  exact h.lts
/-- As many entries as keys. -/
theorem SetK.tight {s m n : Nat} (h : SetK w s m n ks) : SetK w s m ks.length ks := by
  obtain ⟨D, ⟨h1, h2⟩, h3⟩ := h
  obtain ⟨es, clock, b1, b2, b3, b4⟩ := h2
  refine ⟨D, ⟨h1, es, clock, b1, b2, ?_, b4⟩, h3⟩
  rw [← h3.size, b4]
  simp [Maps.size, DataW.length_sorted]
theorem hasO_any (w : World) (o : Option (Nat × Nat)) (ks : List (List Nat)) (h : SetO w o ks) (x : List Nat) (hx : IsK x) :
    Calls Try.prog 16 #[pv o, .agg (u8s x).toArray] w fun e w' => e = .returned (.bool (decide (x ∈ ks))) ∧ Below w.heap.size w w' := by
  cases o with
  | none => rw [show ks = [] from h]; exact has_nil w x
  | some p => obtain ⟨n, h⟩ := h; exact hasK_any w _ _ n ks h x hx
/-- The set behind a change of its block. -/
def AddO (w : World) (o : Option (Nat × Nat)) (ks : List (List Nat)) (x : List Nat) (e : Ending) (w' : World) : Prop :=
  match o with
  | none => e = .returned (.bool false) ∧ Below w.heap.size w w'
  | some p => e = .returned (.bool (!decide (x ∈ ks))) ∧ SetO w' o (insK x ks) ∧ w.grownBy w' (some p.2)
theorem addO_any (w : World) (o : Option (Nat × Nat)) (ks : List (List Nat)) (h : SetO w o ks) (hn : ks.length < 140737488355328) (x : List Nat) (hx : IsK x) :
    Calls Try.prog 46 #[pv o, .agg (u8s x).toArray] w (AddO w o ks x) := by
  cases o with
  | none => exact add_nil w x
  | some p =>
    obtain ⟨n, h⟩ := h
    exact (addK_any w _ _ _ ks h.tight hn x hx).mono fun e w' ⟨h1, h2, h3⟩ => ⟨h1, ⟨_, h2⟩, h3⟩
def DelO (w : World) (o : Option (Nat × Nat)) (ks : List (List Nat)) (x : List Nat) (e : Ending) (w' : World) : Prop :=
  e = .returned (.bool (decide (x ∈ ks))) ∧ SetO w' o (delK x ks) ∧ match o with | none => Below w.heap.size w w' | some p => w.grownBy w' (some p.2)
theorem delO_any (w : World) (o : Option (Nat × Nat)) (ks : List (List Nat)) (h : SetO w o ks) (x : List Nat) (hx : IsK x) :
    Calls Try.prog 47 #[pv o, .agg (u8s x).toArray] w (DelO w o ks x) := by
  cases o with
  | none =>
    rw [show ks = [] from h]
    exact (del_nil w x hx.1).mono fun e w' ⟨h1, h2⟩ => ⟨h1, rfl, h2⟩
  | some p =>
    obtain ⟨n, D, h1, h2⟩ := h
    obtain ⟨l, hl⟩ := keyOf_u8s x hx.1 hx.2
    refine (setDel_any w _ _ n D h1 x hx.1 l hl).mono ?_
    rintro e w' ⟨he, hs, hg⟩
    refine ⟨by rw [he, h2.has hl], ⟨n, _, hs, ?_⟩, hg⟩
    unfold delD
    split
    · exact h2.del hl
    · rename_i hh
      rw [h2.has hl] at hh
      rw [delK_of_not (by simpa using hh)]
      exact h2
theorem lenO_any (w : World) (o : Option (Nat × Nat)) (ks : List (List Nat)) (h : SetO w o ks) :
    Calls Try.prog 14 #[pv o] w fun e w' => e = .returned (.int .i64 (ks.length : Int)) ∧ w' = w := by
  cases o with
  | none => rw [show ks = [] from h]; exact len_nil w
  | some p => obtain ⟨n, h⟩ := h; exact lenK_any w _ _ n ks h
end
theorem next_nil (w : World) (af : List Nat) (haf : af.length = 32) (any : Bool) : Calls Try.prog 17 #[.pointer none, .agg (u8s af).toArray, .bool any] w (NextK w [] any af) := by
  have hzk := zeroKy
  have hi32 : Hid ((Try.prog.info? 25).map (·.size) = some 32) := Lib.hid (by kernel_rfl)
  obtain ⟨w1, hw1⟩ : ∃ w1, w1 = ((w.alloc (.cells (u8s af).toArray 25)).alloc (.cells (u8s (zeros 32)).toArray 25)).alloc (.cells (u8s (zeros 32)).toArray 25) := ⟨_, rfl⟩
  have hB1 : Hid (Below w.heap.size w w1) := Lib.hid (by rw [hw1]; exact (((Below.refl _ _).alloc (Nat.le_refl _) _).alloc (by simp) _).alloc (by simp; omega) _)
  have k6 : Hid (BlkY w1 (w.heap.size + 1) (zeros 32)) := Lib.hid (by
    unfold BlkY
    rw [hw1, heap_alloc_old _ _ (by simp)]
    have := heap_alloc_new (w.alloc (.cells (u8s af).toArray 25)) (.cells (u8s (zeros 32)).toArray 25)
    simpa using this)
  have k8 : Hid (BlkY w1 (w.heap.size + 1 + 1) (zeros 32)) := Lib.hid (by
    unfold BlkY
    rw [hw1]
    have := heap_alloc_new ((w.alloc (.cells (u8s af).toArray 25)).alloc (.cells (u8s (zeros 32)).toArray 25)) (.cells (u8s (zeros 32)).toArray 25)
    simpa using this)
  have hT := Lib.hid (there_nil w1)
  have hzs : Hid ((u8s (zeros 32)).toArray.size = 32) := Lib.hid (by simp [u8s, zeros])
  have hw1' := Lib.hid hw1
  clear haf hw1
  go_enter Try.func17, Try.ntmps17
  go_wp2_with (first
    | (go_at_call 36; rw [← hw1'.out]; refine hT.out.mono ?_; rintro e w5 ⟨rfl, h5⟩; have h6 := h5.symm; clear h5; subst h6; clear hT)
    | (refine wpList_load_row rfl 25 _ rfl (w.heap.size + 1 + 1) rfl 25 (u8s (zeros 32)).toArray (0, 0) _ k8.out Try.underlying25 rfl (by rw [hzs.out]; exact hi32.out) ?_)
    | (refine wpList_store_row rfl 25 _ _ rfl (w.heap.size + 1) (u8s (zeros 32)).toArray rfl rfl 25 _ k6.out (by rw [hzs.out]; exact hi32.out) rfl (all_oneCell_toArray u8s_one) ?_))
  have hres := setRow_heap w1 (w.heap.size + 1) _ (u8s (zeros 32)).toArray 25 _ k6.out
  refine bodyPost_ret (res_row_tmp rfl _ _ (w.heap.size + 1) 25 _ (0, 0) _ (.bool false) rfl rfl hres Try.underlying25 rfl (by rw [hzs.out]; exact hi32.out)) rfl ?_
  exact ⟨rfl, setRow_below hB1.out (by omega) _⟩
theorem nextO_any (w : World) (o : Option (Nat × Nat)) (ks : List (List Nat)) (h : SetO w o ks) (any : Bool) (af : List Nat) (haf : IsK af) :
    Calls Try.prog 17 #[pv o, .agg (u8s af).toArray, .bool any] w (NextK w ks any af) := by
  cases o with
  | none => rw [show ks = [] from h]; exact next_nil w af haf.1 any
  | some p => obtain ⟨n, h⟩ := h; exact nextK_any w _ _ n ks h any af haf
theorem sorted_nil (w : World) : Calls Try.prog 52 #[.pointer none] w fun e w' => e = .returned (.slice none 0 0) ∧ w' = w := by
  have hT := Lib.hid (there_nil w)
  go_enter Try.func52, Try.ntmps52
  go_wp2_with (go_at_call 36; refine hT.out.mono ?_; rintro e w5 ⟨rfl, h5⟩; have h6 := h5.symm; clear h5; subst h6; clear hT)
  go_ret
  exact ⟨rfl, rfl⟩
theorem all_nil (w : World) : Calls Try.prog 26 #[.pointer none] w (AllP w []) := by
  have hS := Lib.hid (sorted_nil w)
  have hfin : Hid (AllP w [] (.returned (.func (.func 53) #[] #[.pointer (some ⟨w.heap.size, 0, none⟩)])) (w.alloc (.cells #[.slice none 0 0] 34))) := Lib.hid
    ⟨w.heap.size, none, 0, rfl, ⟨heap_alloc_new w _, Own.nil _ _ _ _⟩, (Below.refl _ _).alloc (Nat.le_refl _) _, Nat.le_refl _, fun k hk => by cases hk⟩
  obtain ⟨Q, hQ⟩ : ∃ Q, AllP w [] = Q := ⟨_, rfl⟩
  rw [hQ] at hfin ⊢
  clear hQ
  go_enter Try.func26, Try.ntmps26
  go_wp2_with (go_at_call 52; refine hS.out.mono ?_; rintro e w2 ⟨rfl, h5⟩; have h6 := h5.symm; clear h5; subst h6; clear hS)
  exact hfin.out
theorem allO_any (w : World) (o : Option (Nat × Nat)) (ks : List (List Nat)) (h : SetO w o ks) (hn : ks.length * 40 + 8000 ≤ 281474976710656) :
    Calls Try.prog 26 #[pv o] w (AllP w ks) := by
  cases o with
  | none => rw [show ks = [] from h]; exact all_nil w
  | some p => obtain ⟨n, h⟩ := h; exact allK_any w _ _ n ks h hn
end Go.Proofs.Ytlolnpilpdkbkaa

/- Add to a set of keys. (Printed by tools/genaddset.py.) Compare. Next of a set of keys. -/
import Derived.Test.YtlolnpilpdkbkaaPkA3
import Derived.Lib.BytesEntry
import Derived.BigRegion
import Derived.Maps.RangeWalk

namespace Go.Proofs.Ytlolnpilpdkbkaa
open Go.RowKit Go.Maps
set_option linter.unusedSimpArgs false
set_option linter.unusedVariables false

/-- What the set reads as behind Add. -/
def addD (D : DataW Unit) (l : Lit) : DataW Unit := if Maps.has D l then D else D.put l (.agg [])
def AddP (w : World) (s m n : Nat) (D : DataW Unit) (l : Lit) (e : Ending) (w' : World) : Prop :=
  e = .returned (.bool (!Maps.has D l)) ∧ SetAt w' s m (n + 1) (addD D l) ∧ w.grownBy w' (some m)
theorem SetAt.ne {w : World} {s m n : Nat} {D : DataW Unit} (h : SetAt w s m n D) : s ≠ m := by
  obtain ⟨h1, es, clock, h2, _⟩ := h
  intro e
  rw [e, h2] at h1
  cases h1
theorem grown_of_below {w w' : World} (h : Below w.heap.size w w') (row : Option Nat) : w.grownBy w' row :=
  ⟨h.os, h.tape, h.output, h.size, fun i hi _ => h.block i hi⟩
set_option maxRecDepth 100000 in
set_option maxHeartbeats 2000000 in
theorem setAdd_any (w : World) (s m n : Nat) (D : DataW Unit) (h : SetAt w s m n D) (hn : n < 140737488355328) (x : List Nat) (hx : x.length = 32) (l : Lit) (hkey : keyOf Try.prog 25 (.agg (u8s x).toArray) = some l) :
    Calls Try.prog 46 #[.pointer (some ⟨s, 0, none⟩), .agg (u8s x).toArray] w (AddP w s m n D l) := by
  obtain ⟨g, hg⟩ : ∃ g, w.heap.size = g := ⟨_, rfl⟩
  obtain ⟨w1, hw1⟩ : ∃ w1, w.alloc (.cells (u8s x).toArray 25) = w1 := ⟨_, rfl⟩
  have hB : Hid (Below w.heap.size w w1) := Lib.hid (by rw [← hw1]; exact (Below.refl _ _).alloc (Nat.le_refl _) _)
  have h1 : SetAt w1 s m n D := h.below hB.out (Nat.le_refl _)
  have hT := Lib.hid (there_any w1 s m n D h1)
  have hH := Lib.hid (setHas_any w1 s m n D h1 x hx l hkey)
  have hi32 : Hid ((Try.prog.info? 25).map (·.size) = some 32) := Lib.hid (by kernel_rfl)
  have hs32 : Hid ((u8s x).toArray.size = 32) := Lib.hid (by simp [u8s, hx])
  have hk1 : Hid (w1.heap[g]? = some (.cells (u8s x).toArray 25 (0, 0))) := Lib.hid (by rw [← hw1, ← hg]; exact heap_alloc_new w _)
  have hgm : Hid (g ≠ m) := Lib.hid (by have := h.2.lt; omega)
  have hsm : Hid (s ≠ m) := Lib.hid h.ne
  have hz := zeroU
  obtain ⟨kv, hkv⟩ : ∃ kv, (u8s x).toArray = kv := ⟨_, rfl⟩
  rw [hkv] at hkey hk1 hs32 hw1 hH ⊢
  have hkey' := Lib.hid hkey
  have h1' := Lib.hid h1
  obtain ⟨B, hB0⟩ : ∃ B, Maps.has D l = B := ⟨_, rfl⟩
  rw [hB0] at hH
  have hB0' := Lib.hid hB0
  clear hkey h1 hB0 hkv hx h
  cases B
  · skip
    go_enter Try.func46, Try.ntmps46
    go_wp2_with (first
      | (go_at_call 36; refine hT.out.mono ?_; rintro e w5 ⟨rfl, h5⟩; have h6 := h5.symm; clear h5; subst h6; clear hT)
      | (refine wpList_load_row_g (by rfl) 25 _ rfl g rfl 25 kv (0, 0) _ hk1.out Try.underlying25 rfl (by rw [hs32.out]; exact hi32.out) ?_)
      | (go_at_call 16; refine hH.out.mono ?_; rintro e w5 ⟨rfl, b5⟩; have b5' := Lib.hid b5; clear b5 hH))
    have hW4 : Hid (Below w.heap.size w w5.drew) := Lib.hid (hB.out.trans ((below_drewN b5'.out 1).mono hB.out.size))
    have hS5 := Lib.hid (h1'.out.below b5'.out (Nat.le_refl _))
    have hk5 := Lib.hid ((b5'.out.block _ (Array.getElem?_eq_some_iff.1 hk1.out).1).trans hk1.out)
    have hd : Hid (NewS g s m kv w5.drew) := Lib.hid ⟨hk5.out, hS5.out.1⟩
    have upd := Lib.hid (World.ownsMap.update (w := w5.drew) (val := .agg #[]) hS5.out.2 lawK mapK (by unfold maxLen; omega) hkey'.out (unitElem_mk (H := Unit)))
    have hfin : Hid (∀ w6, w6.ownsMap Try.prog 25 (unitElem (H := Unit)) m (n + 1) (D.put l (.agg [])) → w5.drew.grownBy w6 (some m) → NewS g s m kv w6 → AddP w s m n D l (.returned (.bool true)) w6) := Lib.hid (fun w6 a b c => by
      unfold AddP addD
      rw [hB0'.out]
      exact ⟨rfl, ⟨c.2, a⟩, (grown_of_below hW4.out (some m)).trans b⟩)
    refine wp_region_held (S := NewS g s m kv) (by kernel_rfl) ?_
    change wpAnyH _ _ _ _ _ _ _ _ (World.drew _)
    refine tk (i := 0) (d := 13) (v := (.pointer (some ⟨s, 0, none⟩))) rfl rfl (Or.inl ⟨by rfl, by intro W hW; clear hW; go_simp⟩) hd.out ?_
    simp only [List.setIfInBounds_toArray, List.set_cons_zero, List.set_cons_succ]
    refine tk (i := 1) (d := 14) (v := (.pointer (some ⟨s, 0, none⟩))) rfl rfl (Or.inl ⟨by rfl, by intro W hW; clear hW; go_simp⟩) hd.out ?_
    simp only [List.setIfInBounds_toArray, List.set_cons_zero, List.set_cons_succ]
    refine tk (i := 2) (d := 15) (v := (.pointer (some ⟨s, 0, none⟩))) rfl rfl (Or.inl ⟨by rfl, by intro W hW; clear hW; go_simp⟩) hd.out ?_
    simp only [List.setIfInBounds_toArray, List.set_cons_zero, List.set_cons_succ]
    refine tk (i := 3) (d := 16) (v := (.map (some m))) rfl rfl (Or.inl ⟨by rfl, by intro W hW; have c := hW.cel; clear hW; go_simp⟩) hd.out ?_
    simp only [List.setIfInBounds_toArray, List.set_cons_zero, List.set_cons_succ]
    refine tk (i := 4) (d := 17) (v := (.agg kv)) rfl rfl (yieldsIf_load_row (by rfl) 25 _ rfl g rfl 25 kv (0, 0) _ (fun W hW => hW.key) Try.underlying25 rfl (by rw [hs32.out]; exact hi32.out)) hd.out ?_
    simp only [List.setIfInBounds_toArray, List.set_cons_zero, List.set_cons_succ]
    refine tk (i := 5) (d := 18) (v := (.agg #[])) rfl rfl (Or.inl ⟨by rfl, by intro W hW; clear hW; go_simp⟩) hd.out ?_
    simp only [List.setIfInBounds_toArray, List.set_cons_zero, List.set_cons_succ]
    refine wpAnyH_ready (rs := [6]) (by kernel_rfl) (by simp) ?_
    refine AllReadyH.cons rfl (fun K hK => ?_) AllReadyH.nil
    obtain ⟨w6, hrun, hown6, hgr6⟩ := upd.out
    go_simp
    clear hrun
    have hd1 := Lib.hid (hd.out.grown hgr6 hsm.out hgm.out)
    refine hK.out _ _ hd1.out (fun _ => ?_)
    clear hK K
    refine wpAnyH_done (by kernel_rfl) ?_ _
    have hF6 := Lib.hid (hfin.out _ hown6 hgr6 hd1.out)
    clear hown6 hgr6
    go_wp2_with fail
    go_ret
    exact hF6.out
  · skip
    go_enter Try.func46, Try.ntmps46
    go_wp2_with (first
      | (go_at_call 36; refine hT.out.mono ?_; rintro e w5 ⟨rfl, h5⟩; have h6 := h5.symm; clear h5; subst h6; clear hT)
      | (refine wpList_load_row_g (by rfl) 25 _ rfl g rfl 25 kv (0, 0) _ hk1.out Try.underlying25 rfl (by rw [hs32.out]; exact hi32.out) ?_)
      | (go_at_call 16; refine hH.out.mono ?_; rintro e w5 ⟨rfl, b5⟩; have b5' := Lib.hid b5; clear b5 hH))
    go_ret
    unfold AddP addD
    rw [hB0'.out]
    exact ⟨rfl, ⟨(h1'.out.below b5'.out (Nat.le_refl _)).1, (h1'.out.below b5'.out (Nat.le_refl _)).2.mono (Nat.le_succ _)⟩, grown_of_below (hB.out.trans (b5'.out.mono hB.out.size)) _⟩
end Go.Proofs.Ytlolnpilpdkbkaa

namespace Go.Proofs.Ytlolnpilpdkbkaa
open Go.RowKit
set_option linter.unusedSimpArgs false

theorem load_bytes (w : World) (a : List Nat) (A : Option Addr) (c B : Nat) (h1 : Byt w B A a) (ha : ∀ x ∈ a, x < 256) :
    (Extern.Bytes.bytesOf (.slice A a.length c)).run Try.prog w = .ok ⟨(b8 a).toArray⟩ w := by
  rcases Nat.eq_zero_or_pos a.length with h0 | h0
  · obtain rfl : a = [] := List.length_eq_zero_iff.1 h0
    cases A <;> rfl
  · obtain ⟨g, o, rfl, _, hc⟩ := h1 h0
    have hl := Lib.run_loadBytesX (P := Try.prog) w (a.map fun x : Nat => (x : Int)) ⟨g, o, none⟩ .empty (fun j x hj => by
      have hj2 := (List.getElem?_eq_some_iff.1 hj).1
      simp only [List.length_map] at hj2
      rw [Addr.add_lit, hc j hj2]
      simp only [List.getElem?_map, List.getElem?_eq_getElem hj2, Option.map_some, Option.some.injEq] at hj
      show some (Value.int .u8 ((a[j]?.getD 0 : Nat) : Int)) = _
      rw [List.getElem?_eq_getElem hj2, Option.getD_some, hj])
    rw [List.length_map] at hl
    have he : (⟨ByteArray.empty.data ++ (Lib.bytesOf (a.map fun x : Nat => (x : Int))).toArray⟩ : ByteArray) = ⟨(b8 a).toArray⟩ := by
      apply ByteArray.ext
      show (#[] : Array UInt8) ++ (Lib.bytesOf (a.map fun x : Nat => (x : Int))).toArray = (b8 a).toArray
      simp [Lib.bytesOf, b8]
    rw [he] at hl
    exact hl

set_option maxRecDepth 100000 in
set_option maxHeartbeats 1000000 in
theorem bytesCompare_any (w : World) (a b : List Nat) (A A2 : Option Addr) (c c2 : Nat) (h1 : Byt w w.heap.size A a) (h2 : Byt w w.heap.size A2 b) (ha : ∀ x ∈ a, x < 256) (hb : ∀ x ∈ b, x < 256) :
    Calls Try.prog 31 #[.slice A a.length c, .slice A2 b.length c2] w fun e w' => e = .returned (.int .i64 (Lib.compareBytes (b8 a) (b8 b))) ∧ w = w' := by
  have hrun : (callFunc 56 #[.slice A a.length c, .slice A2 b.length c2]).run Try.prog w = .ok (.value (.int .i64 (Lib.compareBytes (b8 a) (b8 b)))) w := by
    rw [run_callFunc_extern Try.func56 (by kernel_rfl) (by kernel_rfl) (by kernel_rfl) (e := Extern.BytealgCompare.compare) (by kernel_rfl)]
    have h : (Extern.BytealgCompare.compare #[.slice A a.length c, .slice A2 b.length c2]).run Try.prog w = .ok (.int .i64 (Lib.compareBytes (b8 a) (b8 b))) w := by
      change Sem.run Try.prog (do pure (goInt (Extern.BytealgCompare.cmp (← Extern.Bytes.bytesOf (.slice A a.length c)) (← Extern.Bytes.bytesOf (.slice A2 b.length c2))))) w = _
      simp only [Sem.run_bind, Sem.run_pure, Result.andThen, load_bytes w a A c _ h1 ha, load_bytes w b A2 c2 _ h2 hb]
      rw [Lib.cmp_eq]
      rfl
    rw [h]
    rfl
  obtain ⟨C, hC⟩ : ∃ C, Hid (∀ _ : Unit, Lib.compareBytes (b8 a) (b8 b) = C) := ⟨_, Lib.hid fun _ => rfl⟩
  rw [hC.out ()] at hrun ⊢
  clear h1 h2 ha hb
  go_enter Try.func31, Try.ntmps31
  go_wp2_with fail
  go_ret
  exact ⟨rfl, rfl⟩

theorem bs_of {w : World} {g : Nat} {a : List Nat} (h : BlkY w g a) : Byt w w.heap.size (some ⟨g, 0, none⟩) a := fun _ =>
  ⟨g, 0, rfl, h.lt, fun j hj => by rw [Nat.zero_add]; exact h.cell hj⟩
set_option maxRecDepth 100000 in
set_option maxHeartbeats 1000000 in
theorem compareX_any (w : World) (a b : List Nat) (hal : a.length = 32) (hbl : b.length = 32) (ha : ∀ x ∈ a, x < 256) (hb : ∀ x ∈ b, x < 256) :
    Calls Try.prog 9 #[.agg (u8s a).toArray, .agg (u8s b).toArray] w fun e w' => e = .returned (.int .i64 (Lib.compareBytes (b8 a) (b8 b))) ∧ ∃ q, w' = ((w.alloc (.cells (u8s a).toArray 25)).alloc (.cells (u8s b).toArray 25)).drewN q := by
  have k1 : BlkY ((w.alloc (.cells (u8s a).toArray 25)).alloc (.cells (u8s b).toArray 25)) w.heap.size a := heap_alloc2_old w _ _
  have k2 : BlkY ((w.alloc (.cells (u8s a).toArray 25)).alloc (.cells (u8s b).toArray 25)) (w.heap.size + 1) b := heap_alloc2_new w _ _
  have hc : ∀ W : World, (∀ m, W.cell? m = ((w.alloc (.cells (u8s a).toArray 25)).alloc (.cells (u8s b).toArray 25)).cell? m) → W.heap.size = ((w.alloc (.cells (u8s a).toArray 25)).alloc (.cells (u8s b).toArray 25)).heap.size →
      Calls Try.prog 31 #[.slice (some ⟨w.heap.size, 0, none⟩) 32 32, .slice (some ⟨w.heap.size + 1, 0, none⟩) 32 32] W fun e w' => e = .returned (.int .i64 (Lib.compareBytes (b8 a) (b8 b))) ∧ W = w' := fun W hW hs => by
    have r1 : Byt W W.heap.size (some ⟨w.heap.size, 0, none⟩) a := fun hn => by
      obtain ⟨g, o, e, h1, h2⟩ := bs_of k1 hn
      exact ⟨g, o, e, by omega, fun j hj => (hW _).trans (h2 j hj)⟩
    have r2 : Byt W W.heap.size (some ⟨w.heap.size + 1, 0, none⟩) b := fun hn => by
      obtain ⟨g, o, e, h1, h2⟩ := bs_of k2 hn
      exact ⟨g, o, e, by omega, fun j hj => (hW _).trans (h2 j hj)⟩
    have := bytesCompare_any W a b _ _ 32 32 r1 r2 ha hb
    rw [hal, hbl] at this
    exact this
  obtain ⟨C, hC⟩ : ∃ C, Hid (∀ _ : Unit, Lib.compareBytes (b8 a) (b8 b) = C) := ⟨_, Lib.hid fun _ => rfl⟩
  rw [hC.out ()] at hc ⊢
  have hc' := Lib.hid hc
  clear k1 k2 ha hb hal hbl hc
  go_enter Try.func9, Try.ntmps9
  go_wp2_with fail
  obtain ⟨w2, hw2⟩ : ∃ w2, Hid (∀ _ : Unit, ((w.alloc (.cells (u8s a).toArray 25)).alloc (.cells (u8s b).toArray 25)) = w2) := ⟨_, Lib.hid fun _ => rfl⟩
  rw [hw2.out ()] at hc' ⊢
  go_quiet ((go_at_call 31; exact quiet_e (hc'.out _ (fun _ => rfl) rfl)))
  go_wp2_with fail
  go_ret
  exact ⟨rfl, _, by rw [hw2.out ()]⟩
theorem compare_any (w : World) (a b : List Nat) (hal : a.length = 32) (hbl : b.length = 32) (ha : ∀ x ∈ a, x < 256) (hb : ∀ x ∈ b, x < 256) :
    Calls Try.prog 9 #[.agg (u8s a).toArray, .agg (u8s b).toArray] w fun e w' => e = .returned (.int .i64 (Lib.compareBytes (b8 a) (b8 b))) ∧ Below w.heap.size w w' :=
  (compareX_any w a b hal hbl ha hb).mono fun e w' h => by
    obtain ⟨h1, q, rfl⟩ := h
    exact ⟨h1, below_drewN (((Below.refl _ _).alloc (Nat.le_refl _) _).alloc (by simp) _) _⟩
end Go.Proofs.Ytlolnpilpdkbkaa

namespace Go.Proofs.Ytlolnpilpdkbkaa
open Go.RowKit Go.Maps
set_option linter.unusedSimpArgs false
set_option linter.unusedVariables false

/-- Thirty-two bytes. -/
def K32 : Type := { x : List Nat // x.length = 32 ∧ ∀ b ∈ x, b < 256 }
def kv32 (x : K32) : Value := .agg (u8s x.1).toArray
theorem kv32_inv (key : Value) (kl : Lit) (h : keyOf Try.prog 25 key = some kl) : ∃ x : K32, key = kv32 x := by
  obtain ⟨x, rfl, h1, h2⟩ := keyOf_inv h
  exact ⟨⟨x, h1, h2⟩, rfl⟩
theorem unit_inv (v : Value) (y : DataW Unit × List MemPlace) (h : unitElem (H := Unit) v = some y) : ∃ c : Unit, v = (fun _ : Unit => Value.agg #[]) c := by
  obtain ⟨rfl, _⟩ := unitElem_inv h
  exact ⟨(), rfl⟩
theorem u8s_inj {x y : List Nat} (h : u8s x = u8s y) : x = y := by
  have : (u8s x).map (fun v => match v with | .int _ n => n.toNat | _ => 0) = (u8s y).map (fun v => match v with | .int _ n => n.toNat | _ => 0) := by rw [h]
  simpa [u8s, Function.comp_def] using this
theorem key_inj {x y : List Nat} {l : Lit} (hx : keyOf Try.prog 25 (.agg (u8s x).toArray) = some l) (hy : keyOf Try.prog 25 (.agg (u8s y).toArray) = some l) : x = y := by
  exact u8s_inj (by simpa using Value.agg.inj (lawK.inj hx hy))
def cmpK (x y : List Nat) : Int := Lib.compareBytes (b8 x) (b8 y)
/-- Does Next look at the key x? -/
def passK (any : Bool) (af x : List Nat) : Bool := any || decide (0 < cmpK x af)
/-- x is in the set that reads as D. -/
def InD (D : DataW Unit) (x : List Nat) : Prop := ∃ l, keyOf Try.prog 25 (.agg (u8s x).toArray) = some l ∧ Maps.has D l = true
structure NxL (D : DataW Unit) (any : Bool) (af : List Nat) (left : Lit → Bool) (F : Bool) (L : List Nat) : Prop where
  len : L.length = 32
  lt : ∀ b ∈ L, b < 256
  no : F = false → L = zeros 32 ∧ ∀ x l, keyOf Try.prog 25 (.agg (u8s x).toArray) = some l → Maps.has D l = true → passK any af x = true → left l = true
  yes : F = true → InD D L ∧ passK any af L = true ∧ ∀ x l, keyOf Try.prog 25 (.agg (u8s x).toArray) = some l → Maps.has D l = true → passK any af x = true → left l = false → ¬ cmpK x L < 0
theorem NxL.start (D : DataW Unit) (any : Bool) (af : List Nat) : NxL D any af (Maps.has D) false (zeros 32) :=
  ⟨by simp [zeros], by simp [zeros], fun _ => ⟨rfl, fun x l _ h _ => h⟩, fun h => by cases h⟩
section
variable {D : DataW Unit} {any : Bool} {af : List Nat} {left : Lit → Bool} {F : Bool} {L x : List Nat} {kl : Lit}
theorem NxL.skip (h : NxL D any af left F L) (hk : keyOf Try.prog 25 (.agg (u8s x).toArray) = some kl) (hs : passK any af x = false ∨ (F = true ∧ ¬ cmpK x L < 0)) :
    NxL D any af (fun z => left z && !z.sameKey kl) F L := by
  refine ⟨h.len, h.lt, fun hF => ⟨(h.no hF).1, fun y l h1 h2 h3 => ?_⟩, fun hF => ⟨(h.yes hF).1, (h.yes hF).2.1, fun y l h1 h2 h3 h4 => ?_⟩⟩
  · have h5 := (h.no hF).2 y l h1 h2 h3
    rw [h5, Bool.true_and]
    cases hs' : l.sameKey kl
    · rfl
    · have e := WideAt.sameKey_eq hs'
      subst e
      have e2 := key_inj h1 hk
      subst e2
      rcases hs with hs | hs
      · rw [hs] at h3; cases h3
      · rw [hF] at hs; cases hs.1
  · cases hl : left l
    · exact (h.yes hF).2.2 y l h1 h2 h3 hl
    · rw [hl, Bool.true_and] at h4
      have hs' : l.sameKey kl = true := by simpa using h4
      have e := WideAt.sameKey_eq hs'
      subst e
      have e2 := key_inj h1 hk
      subst e2
      rcases hs with hs | hs
      · rw [hs] at h3; cases h3
      · exact hs.2
theorem cmpK_self (x : List Nat) : cmpK x x = 0 := by
  have := cmp_zero (b8 x) (b8 x)
  unfold cmpK
  simpa using this
theorem NxL.take (ht : ∀ a b c : List Nat, a.length = 32 → b.length = 32 → c.length = 32 → cmpK a b < 0 → cmpK b c < 0 → cmpK a c < 0) (h : NxL D any af left F L) (hx : x.length = 32) (hx2 : ∀ b ∈ x, b < 256) (hk : keyOf Try.prog 25 (.agg (u8s x).toArray) = some kl) (hD : Maps.has D kl = true) (hp : passK any af x = true)
    (hs : F = false ∨ cmpK x L < 0) : NxL D any af (fun z => left z && !z.sameKey kl) true x := by
  refine ⟨hx, hx2, fun hF => (by cases hF), fun _ => ⟨⟨kl, hk, hD⟩, hp, fun y l h1 h2 h3 h4 => ?_⟩⟩
  by_cases hs' : l.sameKey kl = true
  · have e := WideAt.sameKey_eq hs'
    subst e
    have e2 := key_inj h1 hk
    subst e2
    rw [cmpK_self]
    omega
  · have hl : left l = false := by
      cases hl : left l
      · rfl
      · rw [hl] at h4
        simp at h4
        exact absurd h4 hs'
    rcases hs with hs | hs
    · have := (h.no hs).2 y l h1 h2 h3
      rw [hl] at this
      cases this
    · cases F with
      | false =>
        have := (h.no rfl).2 y l h1 h2 h3
        rw [hl] at this
        cases this
      | true =>
        intro hlt
        obtain ⟨y', e', hyl, _⟩ := keyOf_inv h1
        have ey := u8s_inj (show u8s y = u8s y' by simpa using Value.agg.inj e')
        subst ey
        exact (h.yes rfl).2.2 y l h1 h2 h3 hl (ht y x L hyl hx h.len hlt hs)
end
end Go.Proofs.Ytlolnpilpdkbkaa

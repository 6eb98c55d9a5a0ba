/- NewSet of keys. (Printed by tools/gennewset.py.) -/
import Derived.Test.YtgjokkjmljdmbaaKxS
import Derived.Deep.MidRow
namespace Go.Proofs.Ytgjokkjmljdmbaa
open Go.RowKit Go.Maps
set_option linter.unusedSimpArgs false
set_option linter.unusedVariables false

/-- A list of keys: what each reads as. -/
def KeysAt (w : World) (A : Option Addr) (ls : List Lit) : Prop :=
  ∀ k l, ls[k]? = some l → ∃ b off x, A = some ⟨b, off, none⟩ ∧ b < w.heap.size ∧ x.length = 32 ∧ w.rangeAt b (off + k * 32) (u8s x) ∧ keyOf Try.prog 29 (.agg (u8s x).toArray) = some l
def NewS (g s m : Nat) (kv : Array Value) (W : World) : Prop := W.heap[g]? = some (.cells kv 29 (0, 0)) ∧ W.heap[s]? = some (.cells #[.map (some m)] 74 (0, 0))
section
variable {W : World} {g s m : Nat} {kv : Array Value}
theorem NewS.key (h : NewS g s m kv W) : W.heap[g]? = some (.cells kv 29 (0, 0)) := h.1
theorem NewS.cel (h : NewS g s m kv W) : W.cell? ⟨s, 0, none⟩ = some (.map (some m)) := by unfold World.cell?; simp [h.2]
theorem NewS.grown {W' : World} (h : NewS g s m kv W) (hg : W.grownBy W' (some m)) (h1 : s ≠ m) (h2 : g ≠ m) : NewS g s m kv W' :=
  ⟨(hg.block g (Array.getElem?_eq_some_iff.1 h.1).1 (by simpa using h2)).trans h.1, (hg.block s (Array.getElem?_eq_some_iff.1 h.2).1 (by simpa using h1)).trans h.2⟩
end
def NewI (w : World) (ls : List Lit) (k : Nat) (wr : World) : Prop := SetAt wr (w.heap.size + 1) w.heap.size k (setOf (.agg []) (ls.take k)) ∧ Below w.heap.size w wr
def NewP (w : World) (ls : List Lit) (e : Ending) (w' : World) : Prop := e = .returned (.pointer (some ⟨w.heap.size + 1, 0, none⟩)) ∧ NewI w ls ls.length w'
theorem NewI.upd {w wr w6 W : World} {ls : List Lit} {k : Nat} {l : Lit} (h : NewI w ls k wr) (hl : ls[k]? = some l) (hb : Below wr.heap.size wr W)
    (ho : w6.ownsMap Try.prog 29 (unitElem (H := Unit)) w.heap.size (k + 1) ((setOf (.agg []) (ls.take k)).put l (.agg []))) (hg : W.grownBy w6 (some w.heap.size)) : NewI w ls (k + 1) w6 := by
  obtain ⟨⟨h1, h2⟩, h3⟩ := h
  have l1 := (Array.getElem?_eq_some_iff.1 h1).1
  refine ⟨⟨(hg.block _ (Nat.lt_of_lt_of_le l1 hb.size) (by simp)).trans ((hb.block _ l1).trans h1), ?_⟩, ?_⟩
  · rw [List.take_add_one, hl]
    simp only [Option.toList_some]
    rw [setOf_snoc]
    exact ho
  · have h4 : Below w.heap.size w W := h3.trans (hb.mono h3.size)
    exact h4.grown hg h4.size (fun j hj => by cases hj; exact Nat.le_refl _)
set_option maxRecDepth 100000 in
set_option maxHeartbeats 4000000 in
theorem newSet_any (w : World) (A : Option Addr) (ls : List Lit) (n c : Nat) (hn : ls.length = n) (hL : n < 140737488355328) (hA : KeysAt w A ls) :
    Calls Try.prog 17 #[.slice A n c] w (NewP w ls) := by
  have hn' := Lib.hid hn
  have hA' := Lib.hid hA
  have hi32 : Hid ((Try.prog.info? 29).map (·.size) = some 32) := Lib.hid (by kernel_rfl)
  have hmm := @run_makeMap Try.prog
  have hz := zeroU
  have hzk := zeroKy
  have h0 : Hid (NewI w ls 0 ((w.alloc (.map #[] 0)).alloc (.cells #[.map (some w.heap.size)] 74))) := Lib.hid
    ⟨⟨by have := heap_alloc_new (w.alloc (.map #[] 0)) (.cells #[.map (some w.heap.size)] 74); simpa using this, by simpa [setOf] using (World.ownsMap_made w Try.prog 29 (unitElem (H := Unit))).alloc _⟩, ((Below.refl _ _).alloc (Nat.le_refl _) _).alloc (by simp) _⟩
  clear hn hA
  go_enter Try.func17, Try.ntmps17
  go_wp2_with fail
  generalize ((w.alloc (.map #[] 0)).alloc (.cells #[.map (some w.heap.size)] 74)) = w2 at h0 ⊢
  obtain ⟨S0, hS0⟩ : ∃ S0, w.heap.size + 1 = S0 := ⟨_, rfl⟩
  rw [hS0]
  have hS0' := Lib.hid hS0
  clear hS0
  go_loopw [11] (fun i wr => ∃ k : Nat, k ≤ n ∧ i = .int .i64 k ∧ Hid (NewI w ls k wr)) (fun i _ => n - (intOf i).toNat)
  case atStart => exact ⟨0, by omega, rfl, h0⟩
  case round =>
    clear h0
    obtain ⟨k, hk, rfl, hI⟩ := hrel
    by_cases hlt : k < n
    · obtain ⟨l, hl⟩ : ∃ l, ls[k]? = some l := ⟨_, List.getElem?_eq_getElem (by rw [hn'.out]; exact hlt)⟩
      obtain ⟨b, off, x, rfl, hbl, hx, hrg0, hkey⟩ := hA'.out k l hl
      have hrg : Hid (wr.rangeAt b (off + k * 32) (u8s x)) := Lib.hid (fun j v hv => (hI.out.2.cell (by exact hbl)).trans (hrg0 j v hv))
      have hs32 : Hid ((u8s x).toArray.size = 32) := Lib.hid (by simp [u8s, hx])
      have hx32 : Hid ((u8s x).length = 32) := Lib.hid (by simp [u8s, hx])
      have hz32 : Hid ((u8s (zeros 32)).toArray.size = (u8s x).toArray.size) := Lib.hid (by simp [u8s, zeros, hx])
      have hone : Hid ((u8s x).toArray.all (·.oneCell') = true) := Lib.hid (all_oneCell_toArray u8s_one)
      have hl' := Lib.hid hl
      have hkey' := Lib.hid hkey
      clear hl hx hrg0 hkey
      go_wp2_with (first
        | (refine wpList_load_mid rfl 29 _ rfl b (off + k * 32) rfl (u8s x) _ hrg.out Try.underlying29 rfl (by rw [hx32.out]; exact hi32.out) ?_)
        | (refine wpList_store_row rfl 29 _ _ rfl wr.heap.size (u8s x).toArray rfl rfl 29 _ (heap_alloc_new wr _) (by rw [hs32.out]; exact hi32.out) hz32.out hone.out ?_
           have hk5 := Lib.hid (setRow_heap _ wr.heap.size _ (u8s x).toArray 29 _ (heap_alloc_new wr (.cells (u8s (zeros 32)).toArray 29)))
           have hb5 : Hid (Below wr.heap.size wr ((wr.alloc (.cells (u8s (zeros 32)).toArray 29)).setRow wr.heap.size (u8s x).toArray)) := Lib.hid (setRow_below ((Below.refl _ _).alloc (Nat.le_refl _) _) (Nat.le_refl _) _)
           generalize ((wr.alloc (.cells (u8s (zeros 32)).toArray 29)).setRow wr.heap.size (u8s x).toArray) = w5 at hk5 hb5 ⊢
           have hNL : Hid (w.heap.size < wr.heap.size) := Lib.hid hI.out.1.2.lt
           have hS5 : Hid (SetAt w5 S0 w.heap.size k (setOf (.agg []) (ls.take k))) := Lib.hid (by rw [← hS0'.out]; exact hI.out.1.below hb5.out (Nat.le_refl _))
           have hfin : Hid (∀ w6, w6.ownsMap Try.prog 29 (unitElem (H := Unit)) w.heap.size (k + 1) ((setOf (.agg []) (ls.take k)).put l (.agg [])) → w5.drew.grownBy w6 (some w.heap.size) → NewI w ls (k + 1) w6) := Lib.hid (fun w6 a b => hI.out.upd hl'.out (below_drewN hb5.out 1) a b)
           have hnm : Hid (wr.heap.size ≠ w.heap.size) := Lib.hid (by have := hNL.out; omega)
           generalize wr.heap.size = NL at hk5 hnm ⊢))
      have hsm : Hid (S0 ≠ w.heap.size) := Lib.hid (by have := hS0'.out; omega)
      have hd : Hid (NewS NL S0 w.heap.size (u8s x).toArray w5.drew) := Lib.hid ⟨hk5.out, hS5.out.1⟩
      have upd := Lib.hid (World.ownsMap.update (w := w5.drew) (val := .agg #[]) hS5.out.2 lawK mapK (by unfold maxLen; omega) hkey'.out (unitElem_mk (H := Unit)))
      refine wp_region_held (S := NewS NL S0 w.heap.size (u8s x).toArray) (by kernel_rfl) ?_
      change wpAnyH _ _ _ _ _ _ _ _ (World.drew _)
      refine tk (i := 0) (d := 15) (v := (.pointer (some ⟨S0, 0, none⟩))) rfl rfl (Or.inl ⟨by rfl, by intro W hW; clear hW; go_simp⟩) hd.out ?_
      simp only [List.setIfInBounds_toArray, List.set_cons_zero, List.set_cons_succ]
      refine tk (i := 1) (d := 16) (v := (.pointer (some ⟨S0, 0, none⟩))) rfl rfl (Or.inl ⟨by rfl, by intro W hW; clear hW; go_simp⟩) hd.out ?_
      simp only [List.setIfInBounds_toArray, List.set_cons_zero, List.set_cons_succ]
      refine tk (i := 2) (d := 17) (v := (.pointer (some ⟨S0, 0, none⟩))) rfl rfl (Or.inl ⟨by rfl, by intro W hW; clear hW; go_simp⟩) hd.out ?_
      simp only [List.setIfInBounds_toArray, List.set_cons_zero, List.set_cons_succ]
      refine tk (i := 3) (d := 18) (v := (.map (some w.heap.size))) rfl rfl (Or.inl ⟨by rfl, by intro W hW; have c := hW.cel; clear hW; go_simp⟩) hd.out ?_
      simp only [List.setIfInBounds_toArray, List.set_cons_zero, List.set_cons_succ]
      refine tk (i := 4) (d := 19) (v := (.agg (u8s x).toArray)) rfl rfl (yieldsIf_load_row (by rfl) 29 _ rfl NL rfl 29 (u8s x).toArray (0, 0) _ (fun W hW => hW.key) Try.underlying29 rfl (by rw [hs32.out]; exact hi32.out)) hd.out ?_
      simp only [List.setIfInBounds_toArray, List.set_cons_zero, List.set_cons_succ]
      refine tk (i := 5) (d := 20) (v := (.agg #[])) rfl rfl (Or.inl ⟨by rfl, by intro W hW; clear hW; go_simp⟩) hd.out ?_
      simp only [List.setIfInBounds_toArray, List.set_cons_zero, List.set_cons_succ]
      refine wpAnyH_ready (rs := [6]) (by kernel_rfl) (by simp) ?_
      refine AllReadyH.cons rfl (fun K hK => ?_) AllReadyH.nil
      obtain ⟨w6, hrun, hown6, hgr6⟩ := upd.out
      go_simp
      clear hrun
      have hd1 := Lib.hid (hd.out.grown hgr6 hsm.out hnm.out)
      refine hK.out _ _ hd1.out (fun _ => ?_)
      clear hK K
      refine wpAnyH_done (by kernel_rfl) ?_ _
      have hI6 := Lib.hid (hfin.out _ hown6 hgr6)
      clear hown6 hgr6
      go_wp2_with fail
      go_roundw
      case rel => exact ⟨k + 1, by omega, by go_num, hI6⟩
      case measure => simp [intOf]; omega
    · obtain rfl : k = n := by omega
      go_wp2_with fail
      go_ret
      exact ⟨by rw [← hS0'.out]; rfl, by rw [hn'.out]; exact hI.out⟩
end Go.Proofs.Ytgjokkjmljdmbaa

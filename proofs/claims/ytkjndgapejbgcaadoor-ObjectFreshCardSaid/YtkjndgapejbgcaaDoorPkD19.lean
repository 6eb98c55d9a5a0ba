/- The document's bytes of an object. (Printed by tools/genlaid.py.) -/
import Derived.Test.YtkjndgapejbgcaaDoorPkD17
import Derived.Test.YtkjndgapejbgcaaDoorPkD18
import Derived.Test.YtkjndgapejbgcaaDoorPkD7

namespace Go.Proofs.YtkjndgapejbgcaaDoor
open Go.RowKit
set_option linter.unusedSimpArgs false
set_option linter.unusedVariables false

/-- The object in its block (the call's first), the bytes that are laid. -/
structure LayS (w wr : World) (o : ObjT) (p : Lay) (A : Option Addr) (n c : Nat) (l : List Nat) : Prop where
  bel : Below w.heap.size w wr
  blk : OBlk wr w.heap.size o p
  own : Own wr (w.heap.size + 1) 5 1 A n c (u8s l)
  len : l.length = n
section
variable {w wr w' : World} {o : ObjT} {p : Lay} {A A' : Option Addr} {n N c c' : Nat} {l m : List Nat}
theorem LayS.call (h : LayS w wr o p A n c l) (hb : Below wr.heap.size wr w') : LayS w w' o p A n c l :=
  ⟨h.bel.trans (hb.mono h.bel.size), h.blk.below hb (lt_of_block h.blk), h.own.below hb (fun k hk => (h.own.lt k hk).2), h.len⟩
theorem LayS.app (h : LayS w wr o p A n c l) (ho : Own w' (w.heap.size + 1) 5 1 A' N c' (u8s (l ++ m))) (hb : Below (w.heap.size + 1) wr w') : LayS w w' o p A' N c' (l ++ m) :=
  ⟨h.bel.trans (hb.mono (Nat.le_succ _)), h.blk.below hb (Nat.lt_succ_self _), ho, by have := ho.len; rw [u8s_length] at this; omega⟩
theorem LayS.le (h : LayS w wr o p A n c l) : w.heap.size + 1 ≤ wr.heap.size := lt_of_block h.blk
theorem LayS.one {y : Nat} (h : LayS w wr o p A n c l) (ho : Own w' (w.heap.size + 1) 5 1 A' N c' (u8s l ++ #[Value.int .u8 (y : Int)].toList)) (hb : Below (w.heap.size + 1) wr w') : LayS w w' o p A' N c' (l ++ [y]) :=
  h.app (by rw [u8s_append]; exact ho) hb
theorem byt_of {b off : Nat} {w : World} (x : List Nat) (h : ∀ (i : Nat) (v : Value), (u8s x)[i]? = some v → w.cell? ⟨b, off + i, none⟩ = some v) : Byt w (b + 1) (some ⟨b, off, none⟩) x := fun _ =>
  ⟨b, off, rfl, by omega, fun j hj => h j _ (u8s_get x j hj)⟩
theorem elem_byt {b off : Nat} {w : World} {cs : List Value} (k : Nat) (x : List Nat) (hk : ∀ (i : Nat) (v : Value), (u8s x)[i]? = some v → cs[k + i]? = some v) (h : ∀ (i : Nat) (v : Value), cs[i]? = some v → w.cell? ⟨b, off + i, none⟩ = some v) : Byt w (b + 1) (some ⟨b, off + k, none⟩) x :=
  byt_of x fun i v hv => by rw [Nat.add_assoc]; exact h _ _ (hk i v hv)
end
/-- What laid's walk asks of an object. -/
structure LayIn (w : World) (o : ObjT) (p : Lay) : Prop where
  oin : ObjIn w w.heap.size o p
  good : Good o
  may : MayB o
  d : o.data.length ≤ 8192
/-- What laid tells. -/
def LayPost (w : World) (o : ObjT) (e : Ending) (w' : World) : Prop :=
  (∃ A c, e = .returned (.slice A (layL o).length c) ∧ Own w' w.heap.size 5 1 A (layL o).length c (u8s (layL o))) ∧ Below w.heap.size w w'
theorem LayPost.mk' {w w' : World} {o : ObjT} {p : Lay} {A : Option Addr} {n c : Nat} {l : List Nat} (h : LayS w w' o p A n c l) (hl : l = layL o) : LayPost w o (.returned (.slice A n c)) w' := by
  subst hl
  refine ⟨⟨A, c, by rw [h.len], ?_⟩, h.bel⟩
  rw [h.len]
  exact h.own.base (Nat.le_succ _)

set_option maxRecDepth 100000 in
set_option maxHeartbeats 4000000 in
theorem laid_k1 (w : World) (o : ObjT) (p : Lay) (hm : LayIn w o p) (hk0 : o.kind = 1) :
    Calls Tryd.prog 45 #[.agg (ocells o p).toArray] w (LayPost w o) := by
  have h0 : OBlk (w.alloc (.cells (ocells o p).toArray 31)) w.heap.size o p := heap_alloc_new w _
  have hS0 : Hid (LayS w (w.alloc (.cells (ocells o p).toArray 31)) o p none 0 0 []) := Lib.hid ⟨(Below.refl _ _).alloc (Nat.le_refl _) _, h0, Own.nil _ _ _ _, rfl⟩
  obtain ⟨nd, hnd⟩ : ∃ n, Hid (∀ _ : Unit, o.data.length = n) := ⟨_, Lib.hid fun _ => rfl⟩
  obtain ⟨np, hnp⟩ : ∃ n, Hid (∀ _ : Unit, o.parts.length = n) := ⟨_, Lib.hid fun _ => rfl⟩
  obtain ⟨ni, hni⟩ : ∃ n, Hid (∀ _ : Unit, o.items.length = n) := ⟨_, Lib.hid fun _ => rfl⟩
  obtain ⟨nk, hnk⟩ : ∃ n, Hid (∀ _ : Unit, o.parents.length = n) := ⟨_, Lib.hid fun _ => rfl⟩
  have ld : nd ≤ 8192 := by rw [← hnd.out ()]; exact hm.d
  have lp : np ≤ 128 := by rw [← hnp.out ()]; exact hm.may.ps
  have li : ni ≤ 128 := by rw [← hni.out ()]; exact hm.may.xs
  have lk : nk ≤ 127 := by rw [← hnk.out ()]; exact hm.may.ks
  have hlay : Hid ([1] ++ o.data = layL o) := Lib.hid (by unfold layL; rw [if_pos hk0, hk0])
  have c0 : (w.alloc (.cells (ocells o p).toArray 31)).cell? ⟨w.heap.size, 0, none⟩ = some (.int .u8 1) := by have := h0.c0; rw [hk0] at this; exact this
  have hk := Lib.hid (fun _ : Unit => hk0)
  have hm' := Lib.hid hm
  clear hm h0 hk0
  go_enter Tryd.func45, Tryd.ntmps45
  go_wp2_with (first
    | (at_builtin; refine wpList_app1h elB _ #[_] rfl rfl (.tmp 7) (.tmp 10) rfl rfl hS0.out.own (w.heap.size + 1) (by simp) rfl (by intro u hu; simp at hu; subst hu; rfl) (by unfold maxLen; omega) (by omega) (by simp) 1 rfl _ rfl ?_
       intro A2 c2 w2 o2 _ b2
       have hS2 : Hid (LayS w w2 o p A2 1 c2 [1]) := Lib.hid (LayS.one (y := 1) hS0.out o2 b2)
       clear o2 b2 c0
       have d0 : w2.cell? ⟨w.heap.size, 0, none⟩ = some (.int .u8 1) := by have := hS2.out.blk.c0; rw [hk.out ()] at this; exact this
       have d1 := hS2.out.blk.c1
       rw [hnd.out ()] at d1)
    | (at_builtin; refine wpList_appB elB _ rfl (.tmp 16) (.tmp 18) rfl rfl hS2.out.own rfl (hnd.out ()) (hm'.out.oin.below hS2.out.bel).d (by omega) hS2.out.le (1 + nd) rfl ?_
       intro A3 c3 w3 o3 _ b3
       have hS3 := Lib.hid (hS2.out.app o3 b3)
       clear o3 b3 d0 d1))
  go_ret
  exact LayPost.mk' hS3.out hlay.out

set_option maxRecDepth 100000 in
set_option maxHeartbeats 4000000 in
theorem laid_k2 (w : World) (o : ObjT) (p : Lay) (hm : LayIn w o p) (hk0 : o.kind = 2) :
    Calls Tryd.prog 45 #[.agg (ocells o p).toArray] w (LayPost w o) := by
  have h0 : OBlk (w.alloc (.cells (ocells o p).toArray 31)) w.heap.size o p := heap_alloc_new w _
  have hS0 : Hid (LayS w (w.alloc (.cells (ocells o p).toArray 31)) o p none 0 0 []) := Lib.hid ⟨(Below.refl _ _).alloc (Nat.le_refl _) _, h0, Own.nil _ _ _ _, rfl⟩
  obtain ⟨nd, hnd⟩ : ∃ n, Hid (∀ _ : Unit, o.data.length = n) := ⟨_, Lib.hid fun _ => rfl⟩
  obtain ⟨np, hnp⟩ : ∃ n, Hid (∀ _ : Unit, o.parts.length = n) := ⟨_, Lib.hid fun _ => rfl⟩
  obtain ⟨ni, hni⟩ : ∃ n, Hid (∀ _ : Unit, o.items.length = n) := ⟨_, Lib.hid fun _ => rfl⟩
  obtain ⟨nk, hnk⟩ : ∃ n, Hid (∀ _ : Unit, o.parents.length = n) := ⟨_, Lib.hid fun _ => rfl⟩
  have ld : nd ≤ 8192 := by rw [← hnd.out ()]; exact hm.d
  have lp : np ≤ 128 := by rw [← hnp.out ()]; exact hm.may.ps
  have li : ni ≤ 128 := by rw [← hni.out ()]; exact hm.may.xs
  have lk : nk ≤ 127 := by rw [← hnk.out ()]; exact hm.may.ks
  have hlay : Hid ([2] ++ varL o.parts.length ++ o.parts.flatMap oneP = layL o) := Lib.hid (by unfold layL; rw [if_neg (by omega), if_pos hk0, hk0]; simp)
  have hwr : IntKind.u64.wrap (np : Int) = (np : Int) := by rw [IntKind.wrap_u64]; omega
  have c0 : (w.alloc (.cells (ocells o p).toArray 31)).cell? ⟨w.heap.size, 0, none⟩ = some (.int .u8 2) := by have := h0.c0; rw [hk0] at this; exact this
  have hk := Lib.hid (fun _ : Unit => hk0)
  have hm' := Lib.hid hm
  clear hm h0 hk0
  go_enter Tryd.func45, Tryd.ntmps45
  go_wp2_with (first
    | (at_builtin; refine wpList_app1h elB _ #[_] rfl rfl (.tmp 7) (.tmp 10) rfl rfl hS0.out.own (w.heap.size + 1) (by simp) rfl (by intro u hu; simp at hu; subst hu; rfl) (by unfold maxLen; omega) (by omega) (by simp) 1 rfl _ rfl ?_
       intro A2 c2 w2 o2 _ b2
       have hS2 : Hid (LayS w w2 o p A2 1 c2 [2]) := Lib.hid (LayS.one (y := 2) hS0.out o2 b2)
       clear o2 b2 c0
       have d0 : w2.cell? ⟨w.heap.size, 0, none⟩ = some (.int .u8 2) := by have := hS2.out.blk.c0; rw [hk.out ()] at this; exact this
       have d1 := hS2.out.blk.c2
       rw [hnp.out ()] at d1)
    | (go_at_call 71
       refine (refVar_any _ np (by omega)).mono ?_
       rintro e w3 ⟨⟨A3, c3, rfl, o3⟩, b3⟩
       have hS3 := Lib.hid (hS2.out.call b3)
       have o3' := Lib.hid o3.byt
       clear o3 b3 d0 d1)
    | (at_builtin; refine wpList_appB elB _ rfl (.tmp 22) (.tmp 27) rfl rfl hS3.out.own rfl rfl o3'.out (by have := varL_le np; omega) hS3.out.le _ rfl ?_
       intro A4 c4 w4 o4 _ b4
       have hS4 := Lib.hid (hS3.out.app o4 b4)
       clear o4 b4
       have d1 := hS4.out.blk.c2
       rw [hnp.out ()] at d1))
  go_loopw [3, 4] (fun sv iv wr => ∃ (k n : Nat) (A' : Option Addr) (c' : Nat), k ≤ np ∧ iv = .int .i64 (k : Int) ∧ sv = .slice A' n c' ∧ Hid (LayS w wr o p A' n c' ([2] ++ varL np ++ (o.parts.take k).flatMap oneP))) (fun _ iv _ => np - (intOf iv).toNat)
  case atStart => exact ⟨0, _, A4, c4, by omega, rfl, rfl, Lib.hid (by simpa using hS4.out)⟩
  case round =>
    clear hS4 hS3 hS2 d1 hwr o3' hS0
    obtain ⟨k, n, A5, c5, hkn, rfl, rfl, hS5⟩ := hrel
    have d1 := hS5.out.blk.c2
    rw [hnp.out ()] at d1
    by_cases hlt : k < np
    · have hkx : k < o.parts.length := by rw [hnp.out ()]; exact hlt
      obtain ⟨b, off, hAp, hb, hc⟩ := Row.elem (Rd.below hm'.out.oin.ps hS5.out.bel) encP_length (by decide) hkx
      rw [hAp] at d1
      have hAp' := Lib.hid hAp
      clear hAp
      have hz64 := (hm'.out.good.ps _ (List.getElem_mem hkx)).2
      have hsucc := flat_take_succ oneP hkx
      have hn : n ≤ 10000 := by
        have := flat_take_le oneP 42 o.parts (fun x _ => oneP_le x) k (by rw [hnp.out ()]; exact lp)
        have := varL_le np
        rw [← hS5.out.len]
        simp only [List.length_append, List.length_singleton]
        omega
      obtain ⟨x, hx⟩ : ∃ x, o.parts[k] = x := ⟨_, rfl⟩
      rw [hx] at hc hz64 hsucc
      have hsucc' := Lib.hid hsucc
      obtain ⟨z, hz⟩ : ∃ z, x.2 = z := ⟨_, rfl⟩
      have hz' := Lib.hid (fun _ : Unit => hz)
      rw [hz] at hz64
      have hby := Lib.hid (elem_byt (off := off + k * 33) 0 x.1.1 (fun i v hv => by rw [Nat.zero_add]; exact encP_key x i v hv) hc)
      have hx32 := Lib.hid x.1.2
      have ez : wr.cell? ⟨b, off + k * 33 + 32, none⟩ = some (.int .u64 (z : Int)) := hc 32 _ (by simp [encP, u8s, x.1.2, hz])
      have ez' := Lib.hid ez
      have hb' := Lib.hid hb
      clear hc hx hkx hz hsucc hb ez
      go_wp2_with (first
        | (at_builtin; refine wpList_appB elB _ rfl (.tmp 36) (.tmp 42) rfl rfl hS5.out.own rfl hx32.out hby.out (by omega) hS5.out.le _ rfl ?_
           intro A6 c6 w6 o6 _ b6
           have hS6 := Lib.hid (hS5.out.app o6 b6)
           have d2 := hS6.out.blk.c2
           rw [hnp.out (), hAp'.out] at d2
           have ez : w6.cell? ⟨b, off + k * 33 + 32, none⟩ = some (.int .u64 (z : Int)) := (b6.cell (p := ⟨b, off + k * 33 + 32, none⟩) (Nat.lt_succ_of_lt hb'.out)).trans ez'.out
           clear o6 b6 d1)
        | (go_at_call 71
           refine (refVar_any _ z hz64).mono ?_
           rintro e w7 ⟨⟨A7, c7, rfl, o7⟩, b7⟩
           have hS7 := Lib.hid (hS6.out.call b7)
           have o7' := Lib.hid o7.byt
           clear o7 b7 d2 ez)
        | (at_builtin; refine wpList_appB elB _ rfl (.tmp 44) (.tmp 51) rfl rfl hS7.out.own rfl rfl o7'.out (by have := varL_le z; omega) hS7.out.le _ rfl ?_
           intro A8 c8 w8 o8 _ b8
           have hS8 := Lib.hid (hS7.out.app o8 b8)
           clear o8 b8))
      go_roundw
      case rel => exact ⟨k + 1, _, A8, c8, by omega, by go_num, rfl, Lib.hid (by have := hS8.out; rw [← hz'.out ()] at this ⊢; rw [hsucc'.out, ← List.append_assoc]; exact (List.append_assoc _ x.1.1 (varL x.2)) ▸ this)⟩
      case measure => simp [intOf]; omega
    · obtain rfl : k = np := by omega
      have hfin : Hid ([2] ++ varL k ++ (o.parts.take k).flatMap oneP = layL o) := Lib.hid (by rw [List.take_of_length_le (by rw [hnp.out ()]; exact Nat.le_refl _), ← hlay.out, hnp.out ()])
      go_wp2_with fail
      go_ret
      exact LayPost.mk' hS5.out hfin.out

set_option maxRecDepth 100000 in
set_option maxHeartbeats 4000000 in
theorem laid_k3 (w : World) (o : ObjT) (p : Lay) (hm : LayIn w o p) (hk0 : o.kind = 3) :
    Calls Tryd.prog 45 #[.agg (ocells o p).toArray] w (LayPost w o) := by
  have h0 : OBlk (w.alloc (.cells (ocells o p).toArray 31)) w.heap.size o p := heap_alloc_new w _
  have hS0 : Hid (LayS w (w.alloc (.cells (ocells o p).toArray 31)) o p none 0 0 []) := Lib.hid ⟨(Below.refl _ _).alloc (Nat.le_refl _) _, h0, Own.nil _ _ _ _, rfl⟩
  obtain ⟨nd, hnd⟩ : ∃ n, Hid (∀ _ : Unit, o.data.length = n) := ⟨_, Lib.hid fun _ => rfl⟩
  obtain ⟨np, hnp⟩ : ∃ n, Hid (∀ _ : Unit, o.parts.length = n) := ⟨_, Lib.hid fun _ => rfl⟩
  obtain ⟨ni, hni⟩ : ∃ n, Hid (∀ _ : Unit, o.items.length = n) := ⟨_, Lib.hid fun _ => rfl⟩
  obtain ⟨nk, hnk⟩ : ∃ n, Hid (∀ _ : Unit, o.parents.length = n) := ⟨_, Lib.hid fun _ => rfl⟩
  have ld : nd ≤ 8192 := by rw [← hnd.out ()]; exact hm.d
  have lp : np ≤ 128 := by rw [← hnp.out ()]; exact hm.may.ps
  have li : ni ≤ 128 := by rw [← hni.out ()]; exact hm.may.xs
  have lk : nk ≤ 127 := by rw [← hnk.out ()]; exact hm.may.ks
  have hlay : Hid ([3] ++ varL o.items.length ++ o.items.flatMap oneI = layL o) := Lib.hid (by unfold layL; rw [if_neg (by omega), if_neg (by omega), if_pos hk0, hk0]; simp)
  have hwr : IntKind.u64.wrap (ni : Int) = (ni : Int) := by rw [IntKind.wrap_u64]; omega
  have hnm : Hid (∀ x ∈ o.items, x.1.size ≤ 64) := Lib.hid fun x hx => nameOk_size (itemsE_names o.items none (by have := hm.may.hk; unfold kindE at this; rwa [if_neg (by omega), if_pos hk0] at this) x hx)
  have c0 : (w.alloc (.cells (ocells o p).toArray 31)).cell? ⟨w.heap.size, 0, none⟩ = some (.int .u8 3) := by have := h0.c0; rw [hk0] at this; exact this
  have hk := Lib.hid (fun _ : Unit => hk0)
  have hm' := Lib.hid hm
  clear hm h0 hk0
  go_enter Tryd.func45, Tryd.ntmps45
  go_wp2_with (first
    | (at_builtin; refine wpList_app1h elB _ #[_] rfl rfl (.tmp 7) (.tmp 10) rfl rfl hS0.out.own (w.heap.size + 1) (by simp) rfl (by intro u hu; simp at hu; subst hu; rfl) (by unfold maxLen; omega) (by omega) (by simp) 1 rfl _ rfl ?_
       intro A2 c2 w2 o2 _ b2
       have hS2 : Hid (LayS w w2 o p A2 1 c2 [3]) := Lib.hid (LayS.one (y := 3) hS0.out o2 b2)
       clear o2 b2 c0
       have d0 : w2.cell? ⟨w.heap.size, 0, none⟩ = some (.int .u8 3) := by have := hS2.out.blk.c0; rw [hk.out ()] at this; exact this
       have d1 := hS2.out.blk.c3
       rw [hni.out ()] at d1)
    | (go_at_call 71
       refine (refVar_any _ ni (by omega)).mono ?_
       rintro e w3 ⟨⟨A3, c3, rfl, o3⟩, b3⟩
       have hS3 := Lib.hid (hS2.out.call b3)
       have o3' := Lib.hid o3.byt
       clear o3 b3 d0 d1)
    | (at_builtin; refine wpList_appB elB _ rfl (.tmp 55) (.tmp 60) rfl rfl hS3.out.own rfl rfl o3'.out (by have := varL_le ni; omega) hS3.out.le _ rfl ?_
       intro A4 c4 w4 o4 _ b4
       have hS4 := Lib.hid (hS3.out.app o4 b4)
       clear o4 b4
       have d1 := hS4.out.blk.c3
       rw [hni.out ()] at d1))
  go_loopw [3, 5] (fun sv iv wr => ∃ (k n : Nat) (A' : Option Addr) (c' : Nat), k ≤ ni ∧ iv = .int .i64 (k : Int) ∧ sv = .slice A' n c' ∧ Hid (LayS w wr o p A' n c' ([3] ++ varL ni ++ (o.items.take k).flatMap oneI))) (fun _ iv _ => ni - (intOf iv).toNat)
  case atStart => exact ⟨0, _, A4, c4, by omega, rfl, rfl, Lib.hid (by simpa using hS4.out)⟩
  case round =>
    clear hS4 hS3 hS2 d1 hwr o3' hS0
    obtain ⟨k, n, A5, c5, hkn, rfl, rfl, hS5⟩ := hrel
    have d1 := hS5.out.blk.c3
    rw [hni.out ()] at d1
    by_cases hlt : k < ni
    · have hkx : k < o.items.length := by rw [hni.out ()]; exact hlt
      obtain ⟨b, off, hAp, hb, hc⟩ := Row.elem (Rd.below hm'.out.oin.xs hS5.out.bel) encI_length (by decide) hkx
      rw [hAp] at d1
      have hAp' := Lib.hid hAp
      clear hAp
      have hgx := hm'.out.good.xs _ (List.getElem_mem hkx)
      have hnx := hnm.out _ (List.getElem_mem hkx)
      have hsucc := flat_take_succ oneI hkx
      have hn : n ≤ 16000 := by
        have := flat_take_le oneI 117 o.items (fun x hx => oneI_le x (hnm.out x hx)) k (by rw [hni.out ()]; exact li)
        have := varL_le ni
        rw [← hS5.out.len]
        simp only [List.length_append, List.length_singleton]
        omega
      obtain ⟨x, hx⟩ : ∃ x, o.items[k] = x := ⟨_, rfl⟩
      rw [hx] at hc hgx hnx hsucc
      have hsucc' := Lib.hid hsucc
      obtain ⟨nm, hnm1⟩ : ∃ y, x.1 = y := ⟨_, rfl⟩
      obtain ⟨mo, hmo⟩ : ∃ y, x.2.1 = y := ⟨_, rfl⟩
      obtain ⟨z, hz⟩ : ∃ z, x.2.2.1 = z := ⟨_, rfl⟩
      have hz' := Lib.hid (fun _ : Unit => hz)
      have hmo' := Lib.hid (fun _ : Unit => hmo)
      have hnm' := Lib.hid (fun _ : Unit => hnm1)
      have hz64 : z < 18446744073709551616 := by rw [← hz]; exact hgx.2.2.1
      have hm256 : mo < 256 := by rw [← hmo]; exact hgx.2.1
      have hn64 : nm.size ≤ 64 := by rw [← hnm1]; exact hnx
      have hx32 := Lib.hid x.2.2.2.2
      obtain ⟨TX, hTX⟩ : ∃ T, Hid (∀ _ : Unit, varL nm.size ++ strL nm = T) := ⟨_, Lib.hid fun _ => rfl⟩
      have hTl : TX.length ≤ 74 := by rw [← hTX.out (), List.length_append, strL_length]; have := varL_le nm.size; omega
      have hb' := Lib.hid hb
      have e0 : wr.cell? ⟨b, off + k * 35, none⟩ = some (.string nm) := hc 0 _ (by simp [encI, hnm1])
      have e1' := Lib.hid (hc 1 (.int .u8 (mo : Int)) (by simp [encI, hmo]))
      have e2' := Lib.hid (hc 2 (.int .u64 (z : Int)) (by simp [encI, hz]))
      have hcc := Lib.hid (fun (W : World) (h : Below (w.heap.size + 1) wr W) => elem_byt (w := W) (off := off + k * 35) (cs := encI x) 3 x.2.2.2.1 (fun i v hv => encI_key x i v hv) (fun i v hv => (h.cell (p := ⟨b, off + k * 35 + i, none⟩) (Nat.lt_succ_of_lt hb)).trans (hc i v hv)))
      clear hc hx hkx hz hmo hnm1 hsucc hgx hnx hb
      have hbr : Hid (Below (w.heap.size + 1) wr wr) := Lib.hid (Below.refl _ _)
      go_wp2_with (first
        | (go_at_call 72
           have htx := refText_any wr nm (by omega)
           rw [hTX.out ()] at htx
           refine htx.mono ?_
           clear htx
           rintro e w6 ⟨⟨A6, c6, rfl, o6⟩, b6⟩
           have hS6 := Lib.hid (hS5.out.call b6)
           have hb6 := Lib.hid (hbr.out.trans (b6.mono hS5.out.le))
           have o6' := Lib.hid o6.byt
           clear o6 b6 d1 e0)
        | (at_builtin; refine wpList_appB elB _ rfl (.tmp 69) (.tmp 76) rfl rfl hS6.out.own rfl rfl o6'.out (by omega) hS6.out.le _ rfl ?_
           intro A7 c7 w7 o7 _ b7
           have hS7 := Lib.hid (hS6.out.app o7 b7)
           have hb7 := Lib.hid (hb6.out.trans b7)
           have d2 := hS7.out.blk.c3
           rw [hni.out (), hAp'.out] at d2
           have e1 : w7.cell? ⟨b, off + k * 35 + 1, none⟩ = some (.int .u8 (mo : Int)) := (hb7.out.cell (p := ⟨b, off + k * 35 + 1, none⟩) (Nat.lt_succ_of_lt hb'.out)).trans e1'.out
           clear o7 b7)
        | (at_builtin; refine wpList_app1 elB _ #[_] rfl rfl (.tmp 78) (.tmp 85) rfl rfl hS7.out.own rfl (by intro u hu; simp at hu; subst hu; rfl) (by unfold maxLen; omega) (by omega) hS7.out.le _ rfl _ rfl ?_
           intro A8 c8 w8 o8 _ b8
           have hS8 := Lib.hid (LayS.one (y := mo) hS7.out o8 b8)
           have hb8 := Lib.hid (hb7.out.trans b8)
           have d3 := hS8.out.blk.c3
           rw [hni.out (), hAp'.out] at d3
           have e2 : w8.cell? ⟨b, off + k * 35 + 2, none⟩ = some (.int .u64 (z : Int)) := (hb8.out.cell (p := ⟨b, off + k * 35 + 2, none⟩) (Nat.lt_succ_of_lt hb'.out)).trans e2'.out
           clear o8 b8 d2 e1)
        | (go_at_call 71
           refine (refVar_any _ z hz64).mono ?_
           rintro e w9 ⟨⟨A9, c9, rfl, o9⟩, b9⟩
           have hS9 := Lib.hid (hS8.out.call b9)
           have hb9 := Lib.hid (hb8.out.trans (b9.mono hS8.out.le))
           have o9' := Lib.hid o9.byt
           clear o9 b9 d3 e2)
        | (at_builtin; refine wpList_appB elB _ rfl (.tmp 87) (.tmp 94) rfl rfl hS9.out.own rfl rfl o9'.out (by have := varL_le z; omega) hS9.out.le _ rfl ?_
           intro Aa ca wa oa _ ba
           have hSa := Lib.hid (hS9.out.app oa ba)
           have hba := Lib.hid (hb9.out.trans ba)
           have da := hSa.out.blk.c3
           rw [hni.out (), hAp'.out] at da
           have hya := Lib.hid (hcc.out wa hba.out)
           clear oa ba)
        | (at_builtin; refine wpList_appB elB _ rfl (.tmp 96) (.tmp 102) rfl rfl hSa.out.own rfl hx32.out hya.out (by have := varL_le z; omega) hSa.out.le _ rfl ?_
           intro Ab cb wb ob _ bb
           have hSb := Lib.hid (hSa.out.app ob bb)
           clear ob bb))
      go_roundw
      case rel => exact ⟨k + 1, _, Ab, cb, by omega, by go_num, rfl, Lib.hid (by
        have := hSb.out
        have e : oneI x = (((varL x.1.size ++ strL x.1) ++ [x.2.1]) ++ varL x.2.2.1) ++ x.2.2.2.1 := rfl
        rw [hz'.out (), hmo'.out (), hnm'.out (), hTX.out ()] at e
        rw [hsucc'.out, ← List.append_assoc, e]
        simpa only [List.append_assoc] using this)⟩
      case measure => simp [intOf]; omega
    · obtain rfl : k = ni := by omega
      have hfin : Hid ([3] ++ varL k ++ (o.items.take k).flatMap oneI = layL o) := Lib.hid (by rw [List.take_of_length_le (by rw [hni.out ()]; exact Nat.le_refl _), ← hlay.out, hni.out ()])
      go_wp2_with fail
      go_ret
      exact LayPost.mk' hS5.out hfin.out

set_option maxRecDepth 100000 in
set_option maxHeartbeats 4000000 in
theorem laid_k4 (w : World) (o : ObjT) (p : Lay) (hm : LayIn w o p) (hk0 : o.kind = 4) :
    Calls Tryd.prog 45 #[.agg (ocells o p).toArray] w (LayPost w o) := by
  have h0 : OBlk (w.alloc (.cells (ocells o p).toArray 31)) w.heap.size o p := heap_alloc_new w _
  have hS0 : Hid (LayS w (w.alloc (.cells (ocells o p).toArray 31)) o p none 0 0 []) := Lib.hid ⟨(Below.refl _ _).alloc (Nat.le_refl _) _, h0, Own.nil _ _ _ _, rfl⟩
  obtain ⟨nd, hnd⟩ : ∃ n, Hid (∀ _ : Unit, o.data.length = n) := ⟨_, Lib.hid fun _ => rfl⟩
  obtain ⟨np, hnp⟩ : ∃ n, Hid (∀ _ : Unit, o.parts.length = n) := ⟨_, Lib.hid fun _ => rfl⟩
  obtain ⟨ni, hni⟩ : ∃ n, Hid (∀ _ : Unit, o.items.length = n) := ⟨_, Lib.hid fun _ => rfl⟩
  obtain ⟨nk, hnk⟩ : ∃ n, Hid (∀ _ : Unit, o.parents.length = n) := ⟨_, Lib.hid fun _ => rfl⟩
  have ld : nd ≤ 8192 := by rw [← hnd.out ()]; exact hm.d
  have lp : np ≤ 128 := by rw [← hnp.out ()]; exact hm.may.ps
  have li : ni ≤ 128 := by rw [← hni.out ()]; exact hm.may.xs
  have lk : nk ≤ 127 := by rw [← hnk.out ()]; exact hm.may.ks
  have hlay : Hid ([4] ++ layT o = layL o) := Lib.hid (by unfold layL; rw [if_neg (by omega), if_neg (by omega), if_neg (by omega), if_pos hk0, hk0])
  have hwr : IntKind.u64.wrap (nk : Int) = (nk : Int) := by rw [IntKind.wrap_u64]; omega
  have hnt : o.note.size ≤ 1024 := by
    have := hm.may.hk
    unfold kindE noteB at this
    rw [if_neg (by omega), if_neg (by omega), if_pos hk0] at this
    by_cases h1 : 1024 < o.note.size
    · simp [h1] at this
    · omega
  obtain ⟨s, hs⟩ : ∃ s, Hid (∀ _ : Unit, o.note = s) := ⟨_, Lib.hid fun _ => rfl⟩
  obtain ⟨tm, htm⟩ : ∃ s, Hid (∀ _ : Unit, o.time = s) := ⟨_, Lib.hid fun _ => rfl⟩
  rw [hs.out ()] at hnt
  obtain ⟨U, hU⟩ : ∃ U, (tm % 18446744073709551616).toNat = U := ⟨_, rfl⟩
  have hwt : IntKind.u64.wrap tm = (U : Int) := by rw [IntKind.wrap_u64]; omega
  have hU64 : U < 18446744073709551616 := by omega
  have hU' := Lib.hid (fun _ : Unit => hU)
  clear hU
  have ht32 := Lib.hid o.tree.2
  obtain ⟨TX, hTX⟩ : ∃ T, Hid (∀ _ : Unit, varL s.size ++ strL s = T) := ⟨_, Lib.hid fun _ => rfl⟩
  have hTl : TX.length ≤ 1034 := by rw [← hTX.out (), List.length_append, strL_length]; have := varL_le s.size; omega
  have c0 : (w.alloc (.cells (ocells o p).toArray 31)).cell? ⟨w.heap.size, 0, none⟩ = some (.int .u8 4) := by have := h0.c0; rw [hk0] at this; exact this
  have hk := Lib.hid (fun _ : Unit => hk0)
  have hm' := Lib.hid hm
  clear hm h0 hk0
  go_enter Tryd.func45, Tryd.ntmps45
  go_wp2_with (first
    | (at_builtin; refine wpList_app1h elB _ #[_] rfl rfl (.tmp 7) (.tmp 10) rfl rfl hS0.out.own (w.heap.size + 1) (by simp) rfl (by intro u hu; simp at hu; subst hu; rfl) (by unfold maxLen; omega) (by omega) (by simp) 1 rfl _ rfl ?_
       intro A2 c2 w2 o2 _ b2
       have hS2 : Hid (LayS w w2 o p A2 1 c2 [4]) := Lib.hid (LayS.one (y := 4) hS0.out o2 b2)
       clear o2 b2 c0
       have d0 : w2.cell? ⟨w.heap.size, 0, none⟩ = some (.int .u8 4) := by have := hS2.out.blk.c0; rw [hk.out ()] at this; exact this
       have hyt := Lib.hid (byt_of (off := 4) o.tree.1 (fun i v hv => hS2.out.blk.tree i v hv)))
    | (at_builtin; refine wpList_appB elB _ rfl (.tmp 106) (.tmp 108) rfl rfl hS2.out.own rfl ht32.out hyt.out (by omega) hS2.out.le _ rfl ?_
       intro A3 c3 w3 o3 _ b3
       have hS3 := Lib.hid (hS2.out.app o3 b3)
       clear o3 b3 d0
       have d1 := hS3.out.blk.c36
       rw [hnk.out ()] at d1)
    | (go_at_call 71
       refine (refVar_any _ nk (by omega)).mono ?_
       rintro e w4 ⟨⟨A4, c4, rfl, o4⟩, b4⟩
       have hS4 := Lib.hid (hS3.out.call b4)
       have o4' := Lib.hid o4.byt
       clear o4 b4 d1)
    | (at_builtin; refine wpList_appB elB _ rfl (.tmp 110) (.tmp 115) rfl rfl hS4.out.own rfl rfl o4'.out (by have := varL_le nk; omega) hS4.out.le _ rfl ?_
       intro A5 c5 w5 o5 _ b5
       have hS5 := Lib.hid (hS4.out.app o5 b5)
       clear o5 b5
       have d1 := hS5.out.blk.c36
       rw [hnk.out ()] at d1))
  go_loopw [3, 6] (fun sv iv wr => ∃ (k n : Nat) (A' : Option Addr) (c' : Nat), k ≤ nk ∧ iv = .int .i64 (k : Int) ∧ sv = .slice A' n c' ∧ Hid (LayS w wr o p A' n c' ([4] ++ o.tree.1 ++ varL nk ++ (o.parents.take k).flatMap oneK))) (fun _ iv _ => nk - (intOf iv).toNat)
  case atStart => exact ⟨0, _, A5, c5, by omega, rfl, rfl, Lib.hid (by simpa using hS5.out)⟩
  case round =>
    clear hS5 hS4 hS3 hS2 d1 hwr o4' hS0 hyt
    obtain ⟨k, n, A5, c5, hkn, rfl, rfl, hS5⟩ := hrel
    have d1 := hS5.out.blk.c36
    rw [hnk.out ()] at d1
    have hn : n ≤ 5000 := by
      have := flat_take_le oneK 32 o.parents (fun x _ => oneK_le x) k (by rw [hnk.out ()]; omega)
      have := varL_le nk
      have := o.tree.2
      rw [← hS5.out.len]
      simp only [List.length_append, List.length_singleton]
      omega
    by_cases hlt : k < nk
    · have hkx : k < o.parents.length := by rw [hnk.out ()]; exact hlt
      obtain ⟨b, off, hAp, hb, hc⟩ := Row.elem (Rd.below hm'.out.oin.ks hS5.out.bel) encK_length (by decide) hkx
      rw [hAp] at d1
      clear hAp
      have hsucc := flat_take_succ oneK hkx
      obtain ⟨x, hx⟩ : ∃ x, o.parents[k] = x := ⟨_, rfl⟩
      rw [hx] at hc hsucc
      have hsucc' := Lib.hid hsucc
      have hby := Lib.hid (byt_of (off := off + k * 32) x.1 hc)
      have hx32 := Lib.hid x.2
      clear hc hx hkx hsucc hb
      go_wp2_with (first
        | (at_builtin; refine wpList_appB elB _ rfl (.tmp 124) (.tmp 129) rfl rfl hS5.out.own rfl hx32.out hby.out (by omega) hS5.out.le _ rfl ?_
           intro A6 c6 w6 o6 _ b6
           have hS6 := Lib.hid (hS5.out.app o6 b6)
           clear o6 b6))
      go_roundw
      case rel => exact ⟨k + 1, _, A6, c6, by omega, by go_num, rfl, Lib.hid (by rw [hsucc'.out, ← List.append_assoc]; exact hS6.out)⟩
      case measure => simp [intOf]; omega
    · obtain rfl : k = nk := by omega
      have hall : (o.parents.take k).flatMap oneK = o.parents.flatMap oneK := by rw [List.take_of_length_le (by rw [hnk.out ()]; exact Nat.le_refl _)]
      rw [hall] at hS5
      clear hall
      have d4 := hS5.out.blk.c37
      rw [htm.out ()] at d4
      go_wp2_with (first
        | (go_at_call 73
           refine (refFixed_any _ U 8 hU64 (by omega)).mono ?_
           rintro e w6 ⟨⟨A6, c6, rfl, o6⟩, b6⟩
           have hS6 := Lib.hid (hS5.out.call b6)
           have o6' := Lib.hid o6.byt
           have hf8 := Lib.hid (fixF_length 8 U)
           clear o6 b6 d4)
        | (at_builtin; refine wpList_appB elB _ rfl (.tmp 131) (.tmp 135) rfl rfl hS6.out.own rfl hf8.out o6'.out (by omega) hS6.out.le _ rfl ?_
           intro A7 c7 w7 o7 _ b7
           have hS7 := Lib.hid (hS6.out.app o7 b7)
           have d5 := hS7.out.blk.c38
           rw [hs.out ()] at d5
           clear o7 b7)
        | (go_at_call 72
           have htx := refText_any w7 s (by omega)
           rw [hTX.out ()] at htx
           refine htx.mono ?_
           clear htx
           rintro e w8 ⟨⟨A8, c8, rfl, o8⟩, b8⟩
           have hS8 := Lib.hid (hS7.out.call b8)
           have o8' := Lib.hid o8.byt
           clear o8 b8 d5)
        | (at_builtin; refine wpList_appB elB _ rfl (.tmp 137) (.tmp 140) rfl rfl hS8.out.own rfl rfl o8'.out (by omega) hS8.out.le _ rfl ?_
           intro A9 c9 w9 o9 _ b9
           have hS9 := Lib.hid (hS8.out.app o9 b9)
           clear o9 b9))
      go_ret
      refine LayPost.mk' hS9.out ?_
      have e : layT o = o.tree.1 ++ varL o.parents.length ++ o.parents.flatMap oneK ++ fixF 8 (o.time % 18446744073709551616).toNat ++ (varL o.note.size ++ strL o.note) := rfl
      rw [← hlay.out, e, hs.out (), htm.out (), hnk.out (), hU'.out (), hTX.out ()]
      simp only [List.append_assoc]

theorem laid_any (w : World) (o : ObjT) (p : Lay) (hm : LayIn w o p) : Calls Tryd.prog 45 #[.agg (ocells o p).toArray] w (LayPost w o) := by
  have h1 := hm.may.k1
  have h4 := hm.may.k4
  rcases (by omega : o.kind = 1 ∨ o.kind = 2 ∨ o.kind = 3 ∨ o.kind = 4) with k | k | k | k
  · exact laid_k1 w o p hm k
  · exact laid_k2 w o p hm k
  · exact laid_k3 w o p hm k
  · exact laid_k4 w o p hm k

end Go.Proofs.YtkjndgapejbgcaaDoor

/- A list of keys with marks behind it: keys, untouched. (Printed by tools/gensk2.py.) -/
import Derived.Test.YtlolnpilpdkbkaaPkA22

namespace Go.Proofs.Ytlolnpilpdkbkaa
open Go.RowKit Go.Maps
set_option linter.unusedSimpArgs false
set_option linter.unusedVariables false

def mkK (a v : Nat) : List Nat := a :: v :: zeros 30
theorem mkK_is {a v : Nat} (ha : a < 256) (hv : v < 256) : IsK (mkK a v) := by
  refine ⟨by simp [mkK, zeros], fun x hx => ?_⟩
  simp [mkK, zeros] at hx
  omega
/-- The list and its marks. -/
def keysL (xs : List (List Nat)) : List (List Nat) := (List.range (xs.length + 9)).map fun i => if i < xs.length then xs[i]?.getD (zeros 32) else mkK 200 (i % 256)
theorem keysL_length (xs : List (List Nat)) : (keysL xs).length = xs.length + 9 := by simp [keysL]
theorem keysL_at (xs : List (List Nat)) (i : Nat) (h : i < xs.length + 9) : (keysL xs)[i]? = some (if i < xs.length then xs[i]?.getD (zeros 32) else mkK 200 (i % 256)) := by
  unfold keysL
  rw [List.getElem?_map, List.getElem?_range h]
  rfl
/-- A block of keys, each where it is. -/
structure KBlk (w : World) (ga : Nat) (L : List (List Nat)) : Prop where
  len : ∀ x ∈ L, x.length = 32
  rng : ∀ (i : Nat) x, L[i]? = some x → w.rangeAt ga (i * 32) (u8s x)
  thr : w.there ga 0 (L.length * 32)
section
variable {w w' : World} {ga : Nat} {L : List (List Nat)}
theorem KBlk.at_ (h : KBlk w ga L) {i : Nat} {x : List Nat} (hx : L[i]? = some x) : w.rangeAt ga (i * 32) (u8s x) := h.rng i x hx
theorem KBlk.part (h : KBlk w ga L) {i : Nat} (hi : i < L.length) : w.there ga (i * 32) 32 := fun j hj => by
  have := h.thr (i * 32 + j) (by omega)
  simpa using this
theorem KBlk.same (h : KBlk w ga L) (hb : w'.heap[ga]? = w.heap[ga]?) : KBlk w' ga L := by
  refine ⟨h.len, fun i x hx j v hv => ?_, fun j hj => ?_⟩
  · rw [World.cell?_of_block (a := ⟨ga, i * 32 + j, none⟩) hb]
    exact h.rng i x hx j v hv
  · rw [World.cell?_of_block (a := ⟨ga, 0 + j, none⟩) hb]
    refine ⟨(h.thr j hj).1, ?_⟩
    have := (h.thr j hj).2
    unfold World.frozen? at this ⊢
    rw [hb]
    exact this
theorem KBlk.set (h : KBlk w ga L) {i : Nat} (hi : i < L.length) {y : List Nat} (hy : y.length = 32) : KBlk (w.setCells ga (i * 32) (u8s y)) ga (L.set i y) := by
  refine ⟨fun x hx => ?_, fun j x hx => ?_, ?_⟩
  · rcases List.mem_or_eq_of_mem_set hx with hx | rfl
    · exact h.len x hx
    · exact hy
  · rw [List.getElem?_set] at hx
    split at hx
    · rename_i e
      subst e
      simp at hx
      obtain ⟨_, rfl⟩ := hx
      exact World.rangeAt_setCells_same _ _ _ _ (by rw [u8s_length, hy]; exact h.part hi)
    · rename_i e
      have hl := h.len x (List.mem_of_getElem? hx)
      exact World.rangeAt_setCells_apart (h.rng j x hx) _ _ _ (by rw [u8s_length, u8s_length, hy, hl]; omega)
  · rw [List.length_set]
    exact World.there_setCells h.thr _ _ _
theorem upd_setCells (w : World) (ga : Nat) : ∀ (vs : List Value) (o : Nat) (W : World), Upd (fun k => k = ga) w W → Upd (fun k => k = ga) w (W.setCells ga o vs)
  | [], _, _, h => h
  | v :: r, o, W, h => by
    rw [World.setCells]
    exact upd_setCells w ga r (o + 1) _ (h.trans (Upd.set (F := fun k => k = ga) W (p := ⟨ga, o, none⟩) rfl _))
theorem KBlk.lt (h : KBlk w ga L) (hl : 0 < L.length) : ga < w.heap.size := by
  have := (h.thr 0 (by omega)).1
  obtain ⟨u, hu⟩ := Option.isSome_iff_exists.1 this
  exact World.block_lt_of_cell? w _ hu
end
theorem yieldsIf_bld {P : Program} {ops : Array Oper} {S : World → Prop} {op : Oper} {a : Act} (hw : Region.wanted op (yielded ops a.tmps) = true) (t : TypeId) (parts : Array (Nat × Operand)) (ho : op.op = .build t parts) (vs : Array (Nat × Value)) (hv : (parts.map fun (i, x) => (i, a.eval x)) = vs) (v : Value)
    (hr : ∀ w, (Instr.build t vs).run P w = .ok v w) : YieldsIf P ops S op v a :=
  .inl ⟨hw, fun w _ => by
    unfold execOp
    simp only [ho, hv, Sem.run_bind, hr w, Result.andThen_ok, Sem.run_pure]⟩
theorem bld200 (v : Nat) (w : World) : (Instr.build 25 #[(0, .int .u8 200), (1, .int .u8 (v : Int))]).run Try.prog w = .ok (.agg (u8s (mkK 200 v)).toArray) w := run_build w _ _ _ (by kernel_rfl)
theorem bld201 (v : Nat) (w : World) : (Instr.build 25 #[(0, .int .u8 201), (1, .int .u8 (v : Int))]).run Try.prog w = .ok (.agg (u8s (mkK 201 v)).toArray) w := run_build w _ _ _ (by kernel_rfl)
theorem sliceK (b : Nat) (n c h : Nat) (h1 : n ≤ c) (h2 : h ≤ c) (W : World) : (Instr.slice 34 (.slice (some ⟨b, 0, none⟩) n c) none (some (.int .i64 (h : Int))) none).run Try.prog W = .ok (.slice (some ⟨b, 0, none⟩) h c) W := by
  have hs : (sizeOf (Try.prog.elem 34)).run Try.prog W = .ok 32 W := by kernel_rfl
  rw [run_slice_h W 34 _ n c (by rw [Try.underlying34]; kernel_rfl) .i64 (h : Int) (by omega) (by omega), hs]
  simp only [Result.andThen, sliced, Int.toNat_natCast, Nat.zero_mul, Nat.sub_zero]
  by_cases hc : c = 0
  · subst hc
    obtain rfl : h = 0 := by omega
    simp [Addr.add_lit]
  · rw [if_neg (by omega)]
    simp [Addr.add_lit]
theorem u8z_at {m : Nat} (hm : m < 32) : (u8s (zeros 32))[m]? = some (.int .u8 0) := by
  simp only [u8s, zeros, List.map_replicate, List.getElem?_replicate, if_pos hm]
  rfl
theorem made_zero {T k : Nat} (hk : k < T * 32) : (madeCells (Value.agg (u8s (zeros 32)).toArray).cells (T * 32)).toList[k]? = some (.int .u8 0) := by
  have h32 : k % 32 < 32 := Nat.mod_lt _ (by decide)
  have e : (Value.agg (u8s (zeros 32)).toArray).cells = (u8s (zeros 32)).toArray := rfl
  have hs : (u8s (zeros 32)).toArray.size = 32 := by simp [u8s_length, zeros]
  rw [e]
  unfold madeCells
  rw [Array.getElem?_toList, Array.getElem?_map, Array.getElem?_range, if_pos hk, hs]
  simp only [Option.map_some, Array.getElem!_eq_getD, Array.getD_eq_getD_getElem?, List.getElem?_toArray, u8z_at h32, Option.getD_some]
def KeysP (w : World) (xs : List (List Nat)) (e : Ending) (w' : World) : Prop :=
  e = .returned (.slice (some ⟨w.heap.size, 0, none⟩) xs.length (xs.length + 9)) ∧ KBlk w' w.heap.size (keysL xs) ∧ Below w.heap.size w w'
set_option maxRecDepth 100000 in
set_option maxHeartbeats 2000000 in
theorem keys_any (w : World) (A : Option Addr) (xs : List (List Nat)) (n c : Nat) (hn : xs.length = n) (hL : n ≤ 2097152) (hA : KeyRow w A xs) :
    Calls Try.prog 44 #[.slice A n c] w (KeysP w xs) := by
  have hi32 : Hid ((Try.prog.info? 25).map (·.size) = some 32) := Lib.hid (by kernel_rfl)
  have hzk := zeroKy
  have hA' := Lib.hid hA
  obtain ⟨ga, hga⟩ : ∃ ga, w.heap.size = ga := ⟨_, rfl⟩
  obtain ⟨T, hT⟩ : ∃ T, n + 9 = T := ⟨_, rfl⟩
  have hTl : Hid (xs.length + 9 = T) := Lib.hid (by omega)
  have hkl : Hid ((keysL xs).length = T) := Lib.hid (by rw [keysL_length]; omega)
  have hn' := Lib.hid hn
  have hfin : Hid (∀ W L, L.length = T → (∀ j, j < T → L[j]? = (keysL xs)[j]?) → KBlk W ga L → Below w.heap.size w W → KeysP w xs (.returned (.slice (some ⟨ga, 0, none⟩) n T)) W) := Lib.hid fun W L h1 h2 h3 h4 => by
    have e : L = keysL xs := List.ext_getElem? fun j => by
      rcases Nat.lt_or_ge j T with h | h
      · exact h2 j h
      · rw [List.getElem?_eq_none (by omega), List.getElem?_eq_none (by rw [hkl.out]; omega)]
    exact ⟨by rw [hga, hn, hT], by rw [hga, ← e]; exact h3, h4⟩
  have hgw : Hid (w.heap.size = ga) := Lib.hid hga
  have hT' : ((n : Int) + 9) = (T : Int) := by omega
  have hsl := sliceK ga T T n (Nat.le_refl _) (by omega)
  clear hA hn
  go_enter Try.func44, Try.ntmps44
  go_wp2_with (at_make; refine wpList_mk elK w rfl _ _ rfl rfl rfl T T (by omega) (by omega) (by omega) (by omega) (by unfold maxLen; omega) (Nat.le_refl _) ?_; intro w1 hown1 hg1 hb1 hs1; have ho := Lib.hid hown1; have hb := Lib.hid hb1; clear hown1 hg1 hb1 hs1)
  have hk0 : Hid (KBlk w1 ga (List.replicate T (zeros 32))) := Lib.hid (by
    have h1 := ho.out
    rw [hgw.out] at h1
    have hcell : ∀ k, k < T * 32 → w1.cell? ⟨ga, k, none⟩ = some (.int .u8 0) := fun k hk => by
      have := h1.cell k (by omega)
      rw [this]
      exact made_zero hk
    refine ⟨fun x hx => by rw [(List.mem_replicate.1 hx).2]; simp [zeros], fun i x hx j v hv => ?_, fun j hj => ?_⟩
    · have hiT : i < T := by have := (List.getElem?_eq_some_iff.1 hx).1; simpa using this
      rw [List.getElem?_replicate, if_pos hiT] at hx
      cases hx
      have hj : j < 32 := by have := (List.getElem?_eq_some_iff.1 hv).1; rw [u8s_length] at this; simpa [zeros] using this
      rw [hcell _ (by omega), ← hv, u8z_at hj]
    · rw [List.length_replicate] at hj
      rw [Nat.zero_add, hcell j hj]
      exact ⟨rfl, h1.frozen j⟩)
  clear ho hga
  go_loopw [4] (fun iv wr => ∃ (i : Nat) (L : List (List Nat)), i ≤ T ∧ iv = .int .i64 (i : Int) ∧ Hid (L.length = T) ∧ Hid (∀ j, j < i → L[j]? = (keysL xs)[j]?) ∧ Hid (KBlk wr ga L) ∧ Hid (Below w.heap.size w wr)) (fun iv _ => T - (intOf iv).toNat)
  case atStart => exact ⟨0, _, by omega, rfl, Lib.hid (by simp), Lib.hid (fun j hj => by omega), hk0, hb⟩
  case round =>
    clear hk0 hb
    obtain ⟨i, L, hi, rfl, hl, hp, hK, hb⟩ := hrel
    by_cases hlt : i < T
    · have hil : Hid (i < L.length) := Lib.hid (by rw [hl.out]; exact hlt)
      obtain ⟨r, hr⟩ : ∃ r, i % 256 = r := ⟨_, rfl⟩
      have hwr : IntKind.u8.wrap (i : Int) = (r : Int) := by rw [IntKind.wrap_u8]; omega
      have hbld := bld200 r
      obtain ⟨m, hm⟩ : ∃ m, mkK 200 r = m := ⟨_, rfl⟩
      rw [hm] at hbld
      have hbld := Lib.hid hbld
      have hm32 : Hid (m.length = 32) := Lib.hid (by rw [← hm]; simp [mkK, zeros])
      have hms : Hid ((u8s m).toArray.size = 32) := Lib.hid (by simp [u8s, hm32.out])
      have hat := keysL_at xs i (by rw [hTl.out]; exact hlt)
      rw [hn'.out, hr, hm] at hat
      have hK1 := Lib.hid (hK.out.set hil.out hm32.out)
      have hb1 : Hid (Below w.heap.size w (wr.setCells ga (i * 32) (u8s m))) := Lib.hid ((upd_setCells wr ga (u8s m) (i * 32) wr (Upd.refl _ _)).below (fun k _ e => by rw [e, hgw.out]; exact Nat.le_refl _) hb.out.size |> hb.out.trans)
      have hl1 : Hid ((L.set i m).length = T) := Lib.hid (by rw [List.length_set]; exact hl.out)
      have hth : Hid (wr.there ga (i * 32) 32) := Lib.hid (hK.out.part hil.out)
      clear hm hr
      by_cases hin : i < n
      · rw [if_pos hin] at hat
        obtain ⟨x, hx⟩ : ∃ x, xs[i]? = some x := ⟨_, List.getElem?_eq_getElem (by rw [hn'.out]; exact hin)⟩
        rw [hx, Option.getD_some] at hat
        obtain ⟨hxk, b, off, rfl, hbl, hrg⟩ := hA'.out i x hx
        have hx32 : Hid ((u8s x).length = 32) := Lib.hid (by simp [u8s, hxk.1])
        have hxs : Hid ((u8s x).toArray.size = 32) := Lib.hid (by simp [u8s, hxk.1])
        have hrk : Hid ((wr.setCells ga (i * 32) (u8s m)).rangeAt b (off + i * 32) (u8s x)) := Lib.hid (rangeAt_below hb1.out hbl hrg)
        have hK2 := Lib.hid (hK1.out.set (i := i) (by rw [hl1.out]; exact hlt) hxk.1)
        have hb2 : Hid (Below w.heap.size w ((wr.setCells ga (i * 32) (u8s m)).setCells ga (i * 32) (u8s x))) := Lib.hid ((upd_setCells (wr.setCells ga (i * 32) (u8s m)) ga (u8s x) (i * 32) _ (Upd.refl _ _)).below (fun k _ e => by rw [e, hgw.out]; exact Nat.le_refl _) hb1.out.size |> hb1.out.trans)
        have hth2 : Hid ((wr.setCells ga (i * 32) (u8s m)).there ga (i * 32) 32) := Lib.hid (hK1.out.part (by rw [hl1.out]; exact hlt))
        have hp2 : Hid (∀ j, j < i + 1 → ((L.set i m).set i x)[j]? = (keysL xs)[j]?) := Lib.hid fun j hj => by
          rw [List.set_set, List.getElem?_set]
          by_cases e : i = j
          · subst e
            rw [if_pos rfl, if_pos hil.out, hat]
          · rw [if_neg e]
            exact hp.out j (by omega)
        have hl2 : Hid (((L.set i m).set i x).length = T) := Lib.hid (by simp [hl.out])
        clear hx hxk hbl hrg hat hp hK hK1 hb1
        obtain ⟨w5, hw5⟩ : ∃ w5, wr.setCells ga (i * 32) (u8s m) = w5 := ⟨_, rfl⟩
        rw [hw5] at hrk hK2 hb2 hth2
        have hw5' := Lib.hid hw5
        clear hw5
        go_wp2_with (first
          | (refine wpList_blF rfl 25 _ rfl #[(0, .int .u8 200), (1, .int .u8 (r : Int))] (by rw [List.map_toArray]; rfl) _ (fun W => hbld.out W) ?_)
          | (refine wpList_store_mid rfl 25 _ _ rfl ga (i * 32) (u8s m).toArray rfl rfl (by rw [hms.out]; exact hth.out) (by rw [hms.out]; exact hi32.out) (all_oneCell_toArray u8s_one) ?_
             simp only [List.toList_toArray]
             rw [hw5'.out])
          | (refine wpList_load_mid rfl 25 _ rfl b (off + i * 32) rfl (u8s x) _ hrk.out Try.underlying25 rfl (by rw [hx32.out]; exact hi32.out) ?_)
          | (refine wpList_store_mid rfl 25 _ _ rfl ga (i * 32) (u8s x).toArray rfl rfl (by rw [hxs.out]; exact hth2.out) (by rw [hxs.out]; exact hi32.out) (all_oneCell_toArray u8s_one) ?_
             simp only [List.toList_toArray]))
        go_roundw
        case rel => exact ⟨i + 1, _, by omega, by go_num, hl2, hp2, hK2, hb2⟩
        case measure => simp [intOf]; omega
      · rw [if_neg hin] at hat
        have hp2 : Hid (∀ j, j < i + 1 → (L.set i m)[j]? = (keysL xs)[j]?) := Lib.hid fun j hj => by
          rw [List.getElem?_set]
          by_cases e : i = j
          · subst e
            rw [if_pos rfl, if_pos hil.out, hat]
          · rw [if_neg e]
            exact hp.out j (by omega)
        clear hat hp hK
        go_wp2_with (first
          | (refine wpList_blF rfl 25 _ rfl #[(0, .int .u8 200), (1, .int .u8 (r : Int))] (by rw [List.map_toArray]; rfl) _ (fun W => hbld.out W) ?_)
          | (refine wpList_store_mid rfl 25 _ _ rfl ga (i * 32) (u8s m).toArray rfl rfl (by rw [hms.out]; exact hth.out) (by rw [hms.out]; exact hi32.out) (all_oneCell_toArray u8s_one) ?_
             simp only [List.toList_toArray]))
        go_roundw
        case rel => exact ⟨i + 1, _, by omega, by go_num, hl1, hp2, hK1, hb1⟩
        case measure => simp [intOf]; omega
    · have hf := Lib.hid (hfin.out wr L hl.out (fun j hj => hp.out j (by omega)) hK.out hb.out)
      clear hp hK
      go_wp2_with fail
      go_ret
      exact hf.out
/-- What stands while untouched goes on. -/
structure UtI (w : World) (ga : Nat) (L : List (List Nat)) (W : World) : Prop where
  upd : Upd (fun k => k = ga) w W
  blk : KBlk W ga L
theorem UtI.below {w W W' : World} {ga : Nat} {L : List (List Nat)} (h : UtI w ga L W) (hb : Below W.heap.size W W') (hg : ga < W.heap.size) : UtI w ga L W' :=
  ⟨h.upd.trans (Upd.of_below hb), h.blk.same (hb.block _ hg)⟩
def UntP (w : World) (ga : Nat) (e : Ending) (w' : World) : Prop := e = .returned (.bool true) ∧ Upd (fun k => k = ga) w w'
set_option maxRecDepth 100000 in
set_option maxHeartbeats 4000000 in
theorem untouched_any (w : World) (ga : Nat) (A : Option Addr) (xs : List (List Nat)) (n ca : Nat) (hn : xs.length = n) (hL : n ≤ 2097152) (hA : KeyRow w A xs) (hne : ∀ (k : Nat) x, xs[k]? = some x → ∀ b, blockOf A = some b → b ≠ ga) (hK0 : KBlk w ga (keysL xs)) :
    Calls Try.prog 45 #[.slice (some ⟨ga, 0, none⟩) n (n + 9), .slice A n ca] w (UntP w ga) := by
  have hi32 : Hid ((Try.prog.info? 25).map (·.size) = some 32) := Lib.hid (by kernel_rfl)
  have hA' := Lib.hid hA
  have hne' := Lib.hid hne
  obtain ⟨T, hT⟩ : ∃ T, n + 9 = T := ⟨_, rfl⟩
  have hTl : Hid (xs.length + 9 = T) := Lib.hid (by omega)
  have hkl : Hid ((keysL xs).length = T) := Lib.hid (by rw [keysL_length]; omega)
  have hn' := Lib.hid hn
  have hgl : Hid (ga < w.heap.size) := Lib.hid (hK0.lt (by rw [hkl.out]; omega))
  have hK0' : Hid (UtI w ga (keysL xs) w) := Lib.hid ⟨Upd.refl _ _, hK0⟩
  have hT' : ((n : Int) + 9) = (T : Int) := by omega
  have hsl := sliceK ga n T T (by omega) (Nat.le_refl _)
  rw [hT]
  clear hA hn hne hK0
  go_enter Try.func45, Try.ntmps45
  go_wp2_with fail
  go_loopw [6] (fun iv wr => ∃ (i : Nat) (L : List (List Nat)), i ≤ T ∧ iv = .int .i64 (i : Int) ∧ Hid (L.length = T) ∧ Hid (∀ j, i ≤ j → L[j]? = (keysL xs)[j]?) ∧ Hid (UtI w ga L wr)) (fun iv _ => T - (intOf iv).toNat)
  case atStart => exact ⟨0, _, by omega, rfl, hkl, Lib.hid (fun j hj => rfl), hK0'⟩
  case round =>
    clear hK0'
    obtain ⟨i, L, hi, rfl, hl, hp, hU⟩ := hrel
    by_cases hlt : i < T
    · have hil : Hid (i < L.length) := Lib.hid (by rw [hl.out]; exact hlt)
      obtain ⟨r, hr⟩ : ∃ r, i % 256 = r := ⟨_, rfl⟩
      have hwr : IntKind.u8.wrap (i : Int) = (r : Int) := by rw [IntKind.wrap_u8]; omega
      have hbld1 := bld201 r
      obtain ⟨m, hm⟩ : ∃ m, mkK 201 r = m := ⟨_, rfl⟩
      rw [hm] at hbld1
      have hbld1 := Lib.hid hbld1
      have hm32 : Hid (m.length = 32) := Lib.hid (by rw [← hm]; simp [mkK, zeros])
      have hms : Hid ((u8s m).toArray.size = 32) := Lib.hid (by simp [u8s, hm32.out])
      have hat0 := keysL_at xs i (by rw [hTl.out]; exact hlt)
      obtain ⟨z, hz0⟩ : ∃ z, L[i]? = some z := ⟨_, List.getElem?_eq_getElem hil.out⟩
      rw [← hp.out i (Nat.le_refl _), hz0, hn'.out, hr] at hat0
      have hz := Lib.hid hz0
      have hzl : z.length = 32 := hU.out.blk.len z (List.mem_of_getElem? hz0)
      have hz32 : Hid ((u8s z).length = 32) := Lib.hid (by simp [u8s, hzl])
      have hcmp : Hid (∀ W, (binOp .neq 25 (.agg (u8s z).toArray) (.agg (u8s z).toArray)).run Try.prog W = .ok (.bool false) W) := Lib.hid fun W => by
        have := neK hzl hzl W
        rwa [decide_eq_true rfl] at this
      have hd : Hid (UtI w ga L wr.drew) := Lib.hid (hU.out.below (below_drewN (Below.refl _ _) 1) (Nat.lt_of_lt_of_le hgl.out hU.out.upd.size))
      have hnext : Hid (∀ W, UtI w ga L W → UtI w ga (L.set i m) (W.setCells ga (i * 32) (u8s m))) := Lib.hid fun W h => ⟨h.upd.trans (upd_setCells W ga (u8s m) (i * 32) W (Upd.refl _ _)), h.blk.set hil.out hm32.out⟩
      have hth : Hid (∀ W, UtI w ga L W → W.there ga (i * 32) 32) := Lib.hid fun W h => h.blk.part hil.out
      have hp2 : Hid (∀ j, i + 1 ≤ j → (L.set i m)[j]? = (keysL xs)[j]?) := Lib.hid fun j hj => by
        rw [List.getElem?_set, if_neg (by omega)]
        exact hp.out j (by omega)
      have hl2 : Hid ((L.set i m).length = T) := Lib.hid (by rw [List.length_set]; exact hl.out)
      by_cases hin : i < n
      · rw [if_pos hin] at hat0
        obtain ⟨x, hx⟩ : ∃ x, xs[i]? = some x := ⟨_, List.getElem?_eq_getElem (by rw [hn'.out]; exact hin)⟩
        rw [hx, Option.getD_some] at hat0
        injection hat0 with hzx
        obtain ⟨hxk, b, off, rfl, hbl, hrg⟩ := hA'.out i x hx
        rw [← hzx] at hrg
        have hrk : Hid (∀ W, Upd (fun k => k = ga) w W → W.rangeAt b (off + i * 32) (u8s z)) := Lib.hid fun W hW j v hv => by
          rw [World.cell?_of_block (a := ⟨b, off + i * 32 + j, none⟩) (hW.block b hbl (hne'.out i x hx b rfl))]
          exact hrg j v hv
        have hlt1 : (i : Int) < (n : Int) := by omega
        have hlt2 : decide (n ≤ i) = false := by simp; omega
        clear hx hxk hbl hrg hzx hp hU hm hr hzl hz0
        go_wp2_with fail
        refine wp_region_held (S := UtI w ga L) (by kernel_rfl) ?_
        change wpAnyH _ _ _ _ _ _ _ _ (World.drew _)
        refine tk (i := 0) (d := 18) (v := (.int .i64 (i : Int))) rfl rfl (Or.inl ⟨by rfl, by intro W hW; clear hW; go_simp⟩) hd.out ?_
        simp only [List.setIfInBounds_toArray, List.set_cons_zero, List.set_cons_succ]
        refine tk (i := 1) (d := 19) (v := (.slice (some ⟨b, off, none⟩) n ca)) rfl rfl (Or.inl ⟨by rfl, by intro W hW; clear hW; go_simp⟩) hd.out ?_
        simp only [List.setIfInBounds_toArray, List.set_cons_zero, List.set_cons_succ]
        refine tk (i := 2) (d := 20) (v := (.int .i64 (n : Int))) rfl rfl (Or.inl ⟨by rfl, by intro W hW; clear hW; go_simp⟩) hd.out ?_
        simp only [List.setIfInBounds_toArray, List.set_cons_zero, List.set_cons_succ]
        refine tk (i := 3) (d := 21) (v := (.bool true)) rfl rfl (Or.inl ⟨by rfl, by intro W hW; have hh := hlt1; clear hW; go_simp⟩) hd.out ?_
        simp only [List.setIfInBounds_toArray, List.set_cons_zero, List.set_cons_succ]
        refine tk (i := 4) (d := 22) (v := (.bool true)) rfl rfl (Or.inl ⟨by rfl, by intro W hW; clear hW; go_simp⟩) hd.out ?_
        simp only [List.setIfInBounds_toArray, List.set_cons_zero, List.set_cons_succ]
        refine tk (i := 5) (d := 23) (v := (.slice (some ⟨ga, 0, none⟩) T T)) rfl rfl (Or.inl ⟨by rfl, by intro W hW; clear hW; go_simp⟩) hd.out ?_
        simp only [List.setIfInBounds_toArray, List.set_cons_zero, List.set_cons_succ]
        refine tk (i := 6) (d := 24) (v := (.int .i64 (i : Int))) rfl rfl (Or.inl ⟨by rfl, by intro W hW; clear hW; go_simp⟩) hd.out ?_
        simp only [List.setIfInBounds_toArray, List.set_cons_zero, List.set_cons_succ]
        refine tk (i := 7) (d := 25) (v := (.pointer (some ⟨ga, i * 32, none⟩))) rfl rfl (Or.inl ⟨by rfl, by intro W hW; clear hW; go_simp⟩) hd.out ?_
        simp only [List.setIfInBounds_toArray, List.set_cons_zero, List.set_cons_succ]
        refine tk (i := 8) (d := 26) (v := (.agg (u8s z).toArray)) rfl rfl (yieldsIf_load_mid (by rfl) 25 _ rfl ga (i * 32) rfl (u8s z) _ (fun W hW => hW.blk.at_ hz.out) Try.underlying25 rfl (by rw [hz32.out]; exact hi32.out)) hd.out ?_
        simp only [List.setIfInBounds_toArray, List.set_cons_zero, List.set_cons_succ]
        refine tk (i := 9) (d := 27) (v := (.slice (some ⟨b, off, none⟩) n ca)) rfl rfl (Or.inl ⟨by rfl, by intro W hW; clear hW; go_simp⟩) hd.out ?_
        simp only [List.setIfInBounds_toArray, List.set_cons_zero, List.set_cons_succ]
        refine tk (i := 10) (d := 28) (v := (.int .i64 (i : Int))) rfl rfl (Or.inl ⟨by rfl, by intro W hW; clear hW; go_simp⟩) hd.out ?_
        simp only [List.setIfInBounds_toArray, List.set_cons_zero, List.set_cons_succ]
        refine tk (i := 11) (d := 29) (v := (.pointer (some ⟨b, off + i * 32, none⟩))) rfl rfl (Or.inl ⟨by rfl, by intro W hW; clear hW; go_simp⟩) hd.out ?_
        simp only [List.setIfInBounds_toArray, List.set_cons_zero, List.set_cons_succ]
        refine tk (i := 12) (d := 30) (v := (.agg (u8s z).toArray)) rfl rfl (yieldsIf_load_mid (by rfl) 25 _ rfl b (off + i * 32) rfl (u8s z) _ (fun W hW => hrk.out W hW.upd) Try.underlying25 rfl (by rw [hz32.out]; exact hi32.out)) hd.out ?_
        simp only [List.setIfInBounds_toArray, List.set_cons_zero, List.set_cons_succ]
        refine tk (i := 13) (d := 31) (v := (.bool false)) rfl rfl (yieldsIf_binA (by rfl) .neq 25 _ _ _ rfl (.agg (u8s z).toArray) (.agg (u8s z).toArray) rfl rfl (.bool false) (fun _ => rfl) (fun W _ => hcmp.out W)) hd.out ?_
        simp only [List.setIfInBounds_toArray, List.set_cons_zero, List.set_cons_succ]
        refine tk (i := 14) (d := 32) (v := (.bool false)) rfl rfl (Or.inl ⟨by rfl, by intro W hW; clear hW; go_simp⟩) hd.out ?_
        simp only [List.setIfInBounds_toArray, List.set_cons_zero, List.set_cons_succ]
        refine tk (i := 15) (d := 33) (v := (.bool false)) rfl rfl (Or.inl ⟨by rfl, by intro W hW; clear hW; go_simp⟩) hd.out ?_
        simp only [List.setIfInBounds_toArray, List.set_cons_zero, List.set_cons_succ]
        refine tk (i := 16) (d := 34) (v := (.int .i64 (i : Int))) rfl rfl (Or.inl ⟨by rfl, by intro W hW; clear hW; go_simp⟩) hd.out ?_
        simp only [List.setIfInBounds_toArray, List.set_cons_zero, List.set_cons_succ]
        refine tk (i := 17) (d := 35) (v := (.slice (some ⟨b, off, none⟩) n ca)) rfl rfl (Or.inl ⟨by rfl, by intro W hW; clear hW; go_simp⟩) hd.out ?_
        simp only [List.setIfInBounds_toArray, List.set_cons_zero, List.set_cons_succ]
        refine tk (i := 18) (d := 36) (v := (.int .i64 (n : Int))) rfl rfl (Or.inl ⟨by rfl, by intro W hW; clear hW; go_simp⟩) hd.out ?_
        simp only [List.setIfInBounds_toArray, List.set_cons_zero, List.set_cons_succ]
        refine tk (i := 19) (d := 37) (v := (.bool false)) rfl rfl (Or.inl ⟨by rfl, by intro W hW; have hh := hlt2; clear hW; go_simp⟩) hd.out ?_
        simp only [List.setIfInBounds_toArray, List.set_cons_zero, List.set_cons_succ]
        refine tk (i := 20) (d := 38) (v := (.bool false)) rfl rfl (Or.inl ⟨by rfl, by intro W hW; clear hW; go_simp⟩) hd.out ?_
        simp only [List.setIfInBounds_toArray, List.set_cons_zero, List.set_cons_succ]
        refine tk (i := 21) (d := 39) (v := undef) rfl rfl (Or.inr ⟨by rfl, by rfl⟩) hd.out ?_
        simp only [List.setIfInBounds_toArray, List.set_cons_zero, List.set_cons_succ]
        refine tk (i := 22) (d := 40) (v := undef) rfl rfl (Or.inr ⟨by rfl, by rfl⟩) hd.out ?_
        simp only [List.setIfInBounds_toArray, List.set_cons_zero, List.set_cons_succ]
        refine tk (i := 23) (d := 41) (v := undef) rfl rfl (Or.inr ⟨by rfl, by rfl⟩) hd.out ?_
        simp only [List.setIfInBounds_toArray, List.set_cons_zero, List.set_cons_succ]
        refine tk (i := 24) (d := 42) (v := undef) rfl rfl (Or.inr ⟨by rfl, by rfl⟩) hd.out ?_
        simp only [List.setIfInBounds_toArray, List.set_cons_zero, List.set_cons_succ]
        refine tk (i := 25) (d := 43) (v := undef) rfl rfl (Or.inr ⟨by rfl, by rfl⟩) hd.out ?_
        simp only [List.setIfInBounds_toArray, List.set_cons_zero, List.set_cons_succ]
        refine tk (i := 26) (d := 44) (v := undef) rfl rfl (Or.inr ⟨by rfl, by rfl⟩) hd.out ?_
        simp only [List.setIfInBounds_toArray, List.set_cons_zero, List.set_cons_succ]
        refine tk (i := 27) (d := 45) (v := undef) rfl rfl (Or.inr ⟨by rfl, by rfl⟩) hd.out ?_
        simp only [List.setIfInBounds_toArray, List.set_cons_zero, List.set_cons_succ]
        refine tk (i := 28) (d := 46) (v := undef) rfl rfl (Or.inr ⟨by rfl, by rfl⟩) hd.out ?_
        simp only [List.setIfInBounds_toArray, List.set_cons_zero, List.set_cons_succ]
        refine tk (i := 29) (d := 47) (v := (.bool false)) rfl rfl (Or.inl ⟨by rfl, by intro W hW; clear hW; go_simp⟩) hd.out ?_
        simp only [List.setIfInBounds_toArray, List.set_cons_zero, List.set_cons_succ]
        refine tk (i := 30) (d := 48) (v := (.bool false)) rfl rfl (Or.inl ⟨by rfl, by intro W hW; clear hW; go_simp⟩) hd.out ?_
        simp only [List.setIfInBounds_toArray, List.set_cons_zero, List.set_cons_succ]
        refine wpAnyH_done (by kernel_rfl) ?_ _
        have hdz := hd
        go_wp2_with (first
          | (refine wpList_blF rfl 25 _ rfl #[(0, .int .u8 201), (1, .int .u8 (r : Int))] (by rw [List.map_toArray]; rfl) _ (fun W => hbld1.out W) ?_)
          | (refine wpList_store_mid rfl 25 _ _ rfl ga (i * 32) (u8s m).toArray rfl rfl (by rw [hms.out]; exact hth.out _ hdz.out) (by rw [hms.out]; exact hi32.out) (all_oneCell_toArray u8s_one) ?_
             simp only [List.toList_toArray]))
        go_roundw
        case rel => exact ⟨i + 1, _, by omega, by go_num, hl2, hp2, Lib.hid (hnext.out _ hdz.out)⟩
        case measure => simp [intOf]; omega
      · rw [if_neg hin] at hat0
        injection hat0 with hzx
        have hbld := bld200 r
        rw [← hzx] at hbld
        have hbld := Lib.hid hbld
        have hlt1 : decide ((i : Int) < (n : Int)) = false := by simp; omega
        have hlt2 : n ≤ i := by omega
        clear hzx hp hU hm hr hzl hz0 hin
        go_wp2_with fail
        refine wp_region_held (S := UtI w ga L) (by kernel_rfl) ?_
        change wpAnyH _ _ _ _ _ _ _ _ (World.drew _)
        refine tk (i := 0) (d := 18) (v := (.int .i64 (i : Int))) rfl rfl (Or.inl ⟨by rfl, by intro W hW; clear hW; go_simp⟩) hd.out ?_
        simp only [List.setIfInBounds_toArray, List.set_cons_zero, List.set_cons_succ]
        refine tk (i := 1) (d := 19) (v := (.slice A n ca)) rfl rfl (Or.inl ⟨by rfl, by intro W hW; clear hW; go_simp⟩) hd.out ?_
        simp only [List.setIfInBounds_toArray, List.set_cons_zero, List.set_cons_succ]
        refine tk (i := 2) (d := 20) (v := (.int .i64 (n : Int))) rfl rfl (Or.inl ⟨by rfl, by intro W hW; clear hW; go_simp⟩) hd.out ?_
        simp only [List.setIfInBounds_toArray, List.set_cons_zero, List.set_cons_succ]
        refine tk (i := 3) (d := 21) (v := (.bool false)) rfl rfl (Or.inl ⟨by rfl, by intro W hW; have hh := hlt1; clear hW; go_simp⟩) hd.out ?_
        simp only [List.setIfInBounds_toArray, List.set_cons_zero, List.set_cons_succ]
        refine tk (i := 4) (d := 22) (v := (.bool false)) rfl rfl (Or.inl ⟨by rfl, by intro W hW; clear hW; go_simp⟩) hd.out ?_
        simp only [List.setIfInBounds_toArray, List.set_cons_zero, List.set_cons_succ]
        refine tk (i := 5) (d := 23) (v := undef) rfl rfl (Or.inr ⟨by rfl, by rfl⟩) hd.out ?_
        simp only [List.setIfInBounds_toArray, List.set_cons_zero, List.set_cons_succ]
        refine tk (i := 6) (d := 24) (v := undef) rfl rfl (Or.inr ⟨by rfl, by rfl⟩) hd.out ?_
        simp only [List.setIfInBounds_toArray, List.set_cons_zero, List.set_cons_succ]
        refine tk (i := 7) (d := 25) (v := undef) rfl rfl (Or.inr ⟨by rfl, by rfl⟩) hd.out ?_
        simp only [List.setIfInBounds_toArray, List.set_cons_zero, List.set_cons_succ]
        refine tk (i := 8) (d := 26) (v := undef) rfl rfl (Or.inr ⟨by rfl, by rfl⟩) hd.out ?_
        simp only [List.setIfInBounds_toArray, List.set_cons_zero, List.set_cons_succ]
        refine tk (i := 9) (d := 27) (v := undef) rfl rfl (Or.inr ⟨by rfl, by rfl⟩) hd.out ?_
        simp only [List.setIfInBounds_toArray, List.set_cons_zero, List.set_cons_succ]
        refine tk (i := 10) (d := 28) (v := undef) rfl rfl (Or.inr ⟨by rfl, by rfl⟩) hd.out ?_
        simp only [List.setIfInBounds_toArray, List.set_cons_zero, List.set_cons_succ]
        refine tk (i := 11) (d := 29) (v := undef) rfl rfl (Or.inr ⟨by rfl, by rfl⟩) hd.out ?_
        simp only [List.setIfInBounds_toArray, List.set_cons_zero, List.set_cons_succ]
        refine tk (i := 12) (d := 30) (v := undef) rfl rfl (Or.inr ⟨by rfl, by rfl⟩) hd.out ?_
        simp only [List.setIfInBounds_toArray, List.set_cons_zero, List.set_cons_succ]
        refine tk (i := 13) (d := 31) (v := undef) rfl rfl (Or.inr ⟨by rfl, by rfl⟩) hd.out ?_
        simp only [List.setIfInBounds_toArray, List.set_cons_zero, List.set_cons_succ]
        refine tk (i := 14) (d := 32) (v := (.bool false)) rfl rfl (Or.inl ⟨by rfl, by intro W hW; clear hW; go_simp⟩) hd.out ?_
        simp only [List.setIfInBounds_toArray, List.set_cons_zero, List.set_cons_succ]
        refine tk (i := 15) (d := 33) (v := (.bool false)) rfl rfl (Or.inl ⟨by rfl, by intro W hW; clear hW; go_simp⟩) hd.out ?_
        simp only [List.setIfInBounds_toArray, List.set_cons_zero, List.set_cons_succ]
        refine tk (i := 16) (d := 34) (v := (.int .i64 (i : Int))) rfl rfl (Or.inl ⟨by rfl, by intro W hW; clear hW; go_simp⟩) hd.out ?_
        simp only [List.setIfInBounds_toArray, List.set_cons_zero, List.set_cons_succ]
        refine tk (i := 17) (d := 35) (v := (.slice A n ca)) rfl rfl (Or.inl ⟨by rfl, by intro W hW; clear hW; go_simp⟩) hd.out ?_
        simp only [List.setIfInBounds_toArray, List.set_cons_zero, List.set_cons_succ]
        refine tk (i := 18) (d := 36) (v := (.int .i64 (n : Int))) rfl rfl (Or.inl ⟨by rfl, by intro W hW; clear hW; go_simp⟩) hd.out ?_
        simp only [List.setIfInBounds_toArray, List.set_cons_zero, List.set_cons_succ]
        refine tk (i := 19) (d := 37) (v := (.bool true)) rfl rfl (Or.inl ⟨by rfl, by intro W hW; have hh := hlt2; clear hW; go_simp⟩) hd.out ?_
        simp only [List.setIfInBounds_toArray, List.set_cons_zero, List.set_cons_succ]
        refine tk (i := 20) (d := 38) (v := (.bool true)) rfl rfl (Or.inl ⟨by rfl, by intro W hW; clear hW; go_simp⟩) hd.out ?_
        simp only [List.setIfInBounds_toArray, List.set_cons_zero, List.set_cons_succ]
        refine tk (i := 21) (d := 39) (v := (.slice (some ⟨ga, 0, none⟩) T T)) rfl rfl (Or.inl ⟨by rfl, by intro W hW; clear hW; go_simp⟩) hd.out ?_
        simp only [List.setIfInBounds_toArray, List.set_cons_zero, List.set_cons_succ]
        refine tk (i := 22) (d := 40) (v := (.int .i64 (i : Int))) rfl rfl (Or.inl ⟨by rfl, by intro W hW; clear hW; go_simp⟩) hd.out ?_
        simp only [List.setIfInBounds_toArray, List.set_cons_zero, List.set_cons_succ]
        refine tk (i := 23) (d := 41) (v := (.pointer (some ⟨ga, i * 32, none⟩))) rfl rfl (Or.inl ⟨by rfl, by intro W hW; clear hW; go_simp⟩) hd.out ?_
        simp only [List.setIfInBounds_toArray, List.set_cons_zero, List.set_cons_succ]
        refine tk (i := 24) (d := 42) (v := (.agg (u8s z).toArray)) rfl rfl (yieldsIf_load_mid (by rfl) 25 _ rfl ga (i * 32) rfl (u8s z) _ (fun W hW => hW.blk.at_ hz.out) Try.underlying25 rfl (by rw [hz32.out]; exact hi32.out)) hd.out ?_
        simp only [List.setIfInBounds_toArray, List.set_cons_zero, List.set_cons_succ]
        refine tk (i := 25) (d := 43) (v := (.int .i64 (i : Int))) rfl rfl (Or.inl ⟨by rfl, by intro W hW; clear hW; go_simp⟩) hd.out ?_
        simp only [List.setIfInBounds_toArray, List.set_cons_zero, List.set_cons_succ]
        refine tk (i := 26) (d := 44) (v := (.int .u8 (r : Int))) rfl rfl (Or.inl ⟨by rfl, by intro W hW; have hh := hwr; clear hW; go_simp⟩) hd.out ?_
        simp only [List.setIfInBounds_toArray, List.set_cons_zero, List.set_cons_succ]
        refine tk (i := 27) (d := 45) (v := (.agg (u8s z).toArray)) rfl rfl (yieldsIf_bld (by rfl) 25 _ rfl #[(0, .int .u8 200), (1, .int .u8 (r : Int))] (by rw [List.map_toArray]; rfl) _ hbld.out) hd.out ?_
        simp only [List.setIfInBounds_toArray, List.set_cons_zero, List.set_cons_succ]
        refine tk (i := 28) (d := 46) (v := (.bool false)) rfl rfl (yieldsIf_binA (by rfl) .neq 25 _ _ _ rfl (.agg (u8s z).toArray) (.agg (u8s z).toArray) rfl rfl (.bool false) (fun _ => rfl) (fun W _ => hcmp.out W)) hd.out ?_
        simp only [List.setIfInBounds_toArray, List.set_cons_zero, List.set_cons_succ]
        refine tk (i := 29) (d := 47) (v := (.bool false)) rfl rfl (Or.inl ⟨by rfl, by intro W hW; clear hW; go_simp⟩) hd.out ?_
        simp only [List.setIfInBounds_toArray, List.set_cons_zero, List.set_cons_succ]
        refine tk (i := 30) (d := 48) (v := (.bool false)) rfl rfl (Or.inl ⟨by rfl, by intro W hW; clear hW; go_simp⟩) hd.out ?_
        simp only [List.setIfInBounds_toArray, List.set_cons_zero, List.set_cons_succ]
        refine wpAnyH_done (by kernel_rfl) ?_ _
        have hdz := hd
        go_wp2_with (first
          | (refine wpList_blF rfl 25 _ rfl #[(0, .int .u8 201), (1, .int .u8 (r : Int))] (by rw [List.map_toArray]; rfl) _ (fun W => hbld1.out W) ?_)
          | (refine wpList_store_mid rfl 25 _ _ rfl ga (i * 32) (u8s m).toArray rfl rfl (by rw [hms.out]; exact hth.out _ hdz.out) (by rw [hms.out]; exact hi32.out) (all_oneCell_toArray u8s_one) ?_
             simp only [List.toList_toArray]))
        go_roundw
        case rel => exact ⟨i + 1, _, by omega, by go_num, hl2, hp2, Lib.hid (hnext.out _ hdz.out)⟩
        case measure => simp [intOf]; omega
    · go_wp2_with fail
      go_ret
      exact ⟨rfl, hU.out.upd⟩
end Go.Proofs.Ytlolnpilpdkbkaa

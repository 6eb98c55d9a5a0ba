/- FrameExact: roomy, left: a list with marks behind it. -/
import Derived.Test.YtjofpjioaiamhaaFxE
import Derived.BigQuiet
namespace Go.Proofs.Ytjofpjioaiamhaa
open Go.RowKit
set_option linter.unusedSimpArgs false
set_option linter.unusedVariables false

/-- A list and its marks. -/
def roomL (b : List Nat) : List Nat := (List.range (b.length + 70)).map fun i => if i < b.length then b[i]?.getD 0 else (i * 7 + 3) % 256
theorem roomL_length (b : List Nat) : (roomL b).length = b.length + 70 := by simp [roomL]
theorem roomL_at (b : List Nat) (i : Nat) (h : i < b.length + 70) : (roomL b)[i]? = some (if i < b.length then b[i]?.getD 0 else (i * 7 + 3) % 256) := by
  unfold roomL
  rw [List.getElem?_map, List.getElem?_range h]
  rfl
theorem roomL_lt (b : List Nat) (hb : ∀ x ∈ b, x < 256) : ∀ x ∈ roomL b, x < 256 := fun x hx => by
  unfold roomL at hx
  obtain ⟨i, hi, rfl⟩ := List.mem_map.1 hx
  split
  · rename_i h
    rw [List.getElem?_eq_getElem h, Option.getD_some]
    exact hb _ (List.getElem_mem h)
  · exact Nat.mod_lt _ (by decide)
theorem roomL_take (b : List Nat) : (roomL b).take b.length = b := by
  apply List.ext_getElem?
  intro i
  rcases Nat.lt_or_ge i b.length with h | h
  · rw [List.getElem?_take_of_lt h, roomL_at b i (by omega), if_pos h, List.getElem?_eq_getElem h]
    rfl
  · rw [List.getElem?_eq_none (by rw [List.length_take, roomL_length]; omega), List.getElem?_eq_none h]
theorem fill_set (r : List Nat) (n i x : Nat) (h : r[i]? = some x) (hl : r.length = n) : (r.take i ++ List.replicate (n - i) 0).set i x = r.take (i + 1) ++ List.replicate (n - (i + 1)) 0 := by
  have hi := (List.getElem?_eq_some_iff.1 h).1
  rw [show n - i = (n - (i + 1)) + 1 by omega, List.replicate_succ, List.set_append_right _ _ (by rw [List.length_take]; omega), List.take_add_one, h]
  simp [List.length_take, Nat.min_eq_left (Nat.le_of_lt hi)]
theorem fill_set2 (r : List Nat) (n i x y : Nat) (h : r[i]? = some x) (hl : r.length = n) : ((r.take i ++ List.replicate (n - i) 0).set i y).set i x = r.take (i + 1) ++ List.replicate (n - (i + 1)) 0 := by
  rw [List.set_set]
  exact fill_set r n i x h hl
def RoomP (w : World) (b : List Nat) (e : Ending) (w' : World) : Prop := (∃ ga cc, e = .returned (.slice (some ⟨ga, 0, none⟩) b.length cc) ∧ Own w' w.heap.size 5 1 (some ⟨ga, 0, none⟩) (b.length + 70) cc (u8s (roomL b))) ∧ Below w.heap.size w w'
theorem u8s_setR (l : List Nat) (k y : Nat) : (u8s l).set k (.int .u8 (y : Int)) = u8s (l.set k y) := by
  simp [u8s, List.map_set]
set_option maxRecDepth 100000 in
set_option maxHeartbeats 1000000 in
theorem roomy_any (w : World) (b : List Nat) (A : Option Addr) (n c : Nat) (hn : b.length = n) (hA : Byt w w.heap.size A b) (hL : n ≤ 140737488355328) :
    Calls Try.prog 16 #[.slice A n c] w (RoomP w b) := by
  have hA' := Lib.hid hA
  have hn' := Lib.hid hn
  have hrl : Hid ((roomL b).length = n + 70) := Lib.hid (by rw [roomL_length, hn])
  clear hA hn
  go_enter Try.func16, Try.ntmps16
  go_wp2_with (at_make; refine wpList_mk elB w rfl _ _ rfl rfl rfl (n + 70) (n + 70) (by omega) (by omega) (by omega) (by omega) (by unfold maxLen; omega) (Nat.le_refl _) ?_; intro w1 hown1 hg1 hb1 hs1; rw [made_one _ rfl] at hown1; have ho := Lib.hid hown1; have hb := Lib.hid hb1; clear hown1 hg1 hb1 hs1)
  obtain ⟨ga, hga⟩ := ho.out.head (by omega)
  have hga' := Lib.hid hga
  have ho1 : Hid (Own w1 w.heap.size 5 1 (some ⟨ga, 0, none⟩) (n + 70) (n + 70) (u8s ((roomL b).take 0 ++ List.replicate (n + 70 - 0) 0))) := Lib.hid (by
    have := ho.out
    rw [hga] at this
    have e : List.replicate (n + 70) (Value.int .u8 0) = u8s ((roomL b).take 0 ++ List.replicate (n + 70 - 0) 0) := by simp [u8s]
    rw [e] at this
    exact this)
  injection hga with hga
  injection hga with hga
  rw [hga]
  clear ho hga
  go_loopw [4] (fun iv wr => ∃ k : Nat, k ≤ n + 70 ∧ iv = .int .i64 (k : Int) ∧ Hid (Own wr w.heap.size 5 1 (some ⟨ga, 0, none⟩) (n + 70) (n + 70) (u8s ((roomL b).take k ++ List.replicate (n + 70 - k) 0))) ∧ Hid (Below w.heap.size w wr)) (fun iv _ => n + 70 - (intOf iv).toNat)
  case atStart => exact ⟨0, by omega, rfl, ho1, hb⟩
  case round =>
    clear ho1 hb
    obtain ⟨k, hk, rfl, ho, hbel⟩ := hrel
    by_cases hlt : k < n + 70
    · have hlen : Hid (((roomL b).take k ++ List.replicate (n + 70 - k) 0).length = n + 70) := Lib.hid (by simp [hrl.out]; omega)
      have co : ∃ v, wr.cell? ⟨ga, k, none⟩ = some v := ⟨_, (ho.out.cell k (by omega)).trans (List.getElem?_eq_getElem (by rw [u8s_length, hlen.out]; exact hlt))⟩
      obtain ⟨v0, co⟩ := co
      have fo := ho.out.frozen k
      obtain ⟨y, hy⟩ : ∃ y, (k * 7 + 3) % 256 = y := ⟨_, rfl⟩
      have d1 : IntKind.u8.wrap ((k : Int) * 7 + 3) = (y : Int) := by rw [IntKind.wrap_u8]; omega
      have hat := roomL_at b k (by rw [hn'.out]; exact hlt)
      rw [hn'.out, hy] at hat
      have hlo : Hid (w.heap.size ≤ ga) := Lib.hid (ho.out.lt ga rfl).1
      by_cases hkn : k < n
      · rw [if_pos hkn] at hat
        obtain ⟨x, hx⟩ : ∃ x, b[k]?.getD 0 = x := ⟨_, rfl⟩
        rw [hx] at hat
        obtain ⟨bb, off, rfl, _, hc⟩ := (hA'.out.below hbel.out) (by rw [hn'.out]; omega)
        have cx : wr.cell? ⟨bb, off + k, none⟩ = some (.int .u8 (x : Int)) := by
          have := hc k (by rw [hn'.out]; exact hkn)
          simp only [hx] at this
          exact this
        have hbb : Hid (bb < w.heap.size) := Lib.hid (by
          obtain ⟨b', o', e, h, _⟩ := hA'.out (by rw [hn'.out]; omega)
          cases e
          exact h)
        have cx2 : (wr.setCell ⟨ga, k, none⟩ (.int .u8 (y : Int))).cell? ⟨bb, off + k, none⟩ = some (.int .u8 (x : Int)) := by
          unfold World.cell? at cx ⊢
          rw [heap_setCell_other wr ⟨ga, k, none⟩ bb _ (by have := hbb.out; have := hlo.out; show bb ≠ ga; omega)]
          exact cx
        have o1 := ho.out.set k (.int .u8 (y : Int))
        have co2 : ∃ v, (wr.setCell ⟨ga, k, none⟩ (.int .u8 (y : Int))).cell? ⟨ga, k, none⟩ = some v := ⟨_, (o1.cell k (by omega)).trans (List.getElem?_eq_getElem (by rw [List.length_set, u8s_length, hlen.out]; exact hlt))⟩
        obtain ⟨v1, co2⟩ := co2
        have fo2 := o1.frozen k
        have o2 : Hid (Own ((wr.setCell ⟨ga, k, none⟩ (.int .u8 (y : Int))).setCell ⟨ga, k, none⟩ (.int .u8 (x : Int))) w.heap.size 5 1 (some ⟨ga, 0, none⟩) (n + 70) (n + 70) (u8s ((roomL b).take (k + 1) ++ List.replicate (n + 70 - (k + 1)) 0))) := Lib.hid (by
          have := o1.set k (.int .u8 (x : Int))
          rw [u8s_setR, u8s_setR, fill_set2 _ _ _ _ _ hat hrl.out] at this
          exact this)
        have b2 : Hid (Below w.heap.size w ((wr.setCell ⟨ga, k, none⟩ (.int .u8 (y : Int))).setCell ⟨ga, k, none⟩ (.int .u8 (x : Int)))) := Lib.hid ((hbel.out.setCell (p := ⟨ga, k, none⟩) hlo.out _).setCell (p := ⟨ga, k, none⟩) hlo.out _)
        obtain ⟨w2, hw2⟩ : ∃ w2, wr.setCell ⟨ga, k, none⟩ (.int .u8 (y : Int)) = w2 := ⟨_, rfl⟩
        rw [hw2] at cx2 co2 fo2 o2 b2
        clear hy hat hx hc o1 ho
        go_wp2_with fail
        go_roundw
        case rel => exact ⟨k + 1, by omega, by go_num, o2, b2⟩
        case measure => simp [intOf]; omega
      · rw [if_neg hkn] at hat
        have o2 : Hid (Own (wr.setCell ⟨ga, k, none⟩ (.int .u8 (y : Int))) w.heap.size 5 1 (some ⟨ga, 0, none⟩) (n + 70) (n + 70) (u8s ((roomL b).take (k + 1) ++ List.replicate (n + 70 - (k + 1)) 0))) := Lib.hid (by
          have := ho.out.set k (.int .u8 (y : Int))
          rw [u8s_setR, fill_set _ _ _ _ hat hrl.out] at this
          exact this)
        have b2 : Hid (Below w.heap.size w (wr.setCell ⟨ga, k, none⟩ (.int .u8 (y : Int)))) := Lib.hid (hbel.out.setCell (p := ⟨ga, k, none⟩) hlo.out _)
        clear hy hat ho
        go_wp2_with fail
        go_roundw
        case rel => exact ⟨k + 1, by omega, by go_num, o2, b2⟩
        case measure => simp [intOf]; omega
    · have hsl : ∀ W : World, (Instr.slice 23 (.slice (some ⟨ga, 0, none⟩) (n + 70) (n + 70)) none (some (.int .i64 (n : Int))) none).run Try.prog W = .ok (.slice (some ⟨ga, 0, none⟩) n (n + 70)) W := fun W => by
        have hs : (sizeOf (Try.prog.elem 23)).run Try.prog W = .ok 1 W := by kernel_rfl
        rw [run_slice_h W 23 _ (n + 70) (n + 70) (by rw [Try.underlying23]; kernel_rfl) .i64 (n : Int) (by omega) (by omega), hs]
        simp only [Result.andThen, sliced, Int.toNat_natCast, Nat.zero_mul, Nat.sub_zero]
        rw [if_neg (by omega)]
        simp [Addr.add_lit]
      have o2 : Hid (Own wr w.heap.size 5 1 (some ⟨ga, 0, none⟩) (n + 70) (n + 70) (u8s (roomL b))) := Lib.hid (by
        have := ho.out
        rw [show k = n + 70 by omega, List.take_of_length_le (by rw [hrl.out]; exact Nat.le_refl _)] at this
        simpa using this)
      clear ho
      go_wp2_with fail
      go_ret
      unfold RoomP
      rw [hn'.out]
      exact ⟨⟨ga, _, rfl, o2.out⟩, hbel.out⟩
set_option maxRecDepth 100000 in
set_option maxHeartbeats 1000000 in
theorem left_any (w : World) (b : List Nat) (A : Option Addr) (n c cc ga : Nat) (hn : b.length = n) (hA : Byt w w.heap.size A b) (hM : Byt w w.heap.size (some ⟨ga, 0, none⟩) (roomL b)) (hL : n ≤ 140737488355328) (hcc : n + 70 ≤ cc) :
    Calls Try.prog 21 #[.slice (some ⟨ga, 0, none⟩) n cc, .slice A n c] w fun e w' => e = .returned (.bool true) ∧ ∃ m, w' = w.drewN m := by
  have hA' := Lib.hid hA
  have hM' := Lib.hid hM
  have hn' := Lib.hid hn
  have hsl : ∀ W : World, (Instr.slice 23 (.slice (some ⟨ga, 0, none⟩) n cc) none (some (.int .i64 ((n : Int) + 70))) none).run Try.prog W = .ok (.slice (some ⟨ga, 0, none⟩) (n + 70) cc) W := fun W => by
    have hs : (sizeOf (Try.prog.elem 23)).run Try.prog W = .ok 1 W := by kernel_rfl
    have e : ((n : Int) + 70).toNat = n + 70 := by omega
    rw [run_slice_h W 23 _ n cc (by rw [Try.underlying23]; kernel_rfl) .i64 ((n : Int) + 70) (by omega) (by omega), hs]
    simp only [Result.andThen, sliced, e, Nat.zero_mul, Nat.sub_zero]
    rw [if_neg (by omega)]
    simp [Addr.add_lit]
  clear hA hM hn
  go_enter Try.func21, Try.ntmps21
  go_wp2_with fail
  go_loopw [6] (fun i wr => ∃ k m : Nat, k ≤ n + 70 ∧ i = .int .i64 k ∧ wr = w.drewN m) (fun i _ => n + 70 - (intOf i).toNat)
  case atStart => exact ⟨0, 0, by omega, rfl, rfl⟩
  case round =>
    obtain ⟨k, m, hk, rfl, rfl⟩ := hrel
    by_cases hlt : k < n + 70
    · obtain ⟨b2, off2, e2, _, q2⟩ := hM'.out.get (k := k) (by rw [roomL_length, hn'.out]; exact hlt)
      cases e2
      rw [Nat.zero_add, roomL_at b k (by rw [hn'.out]; exact hlt), Option.getD_some, hn'.out] at q2
      by_cases hkL : k < n
      · obtain ⟨b1, off1, rfl, _, q1⟩ := hA'.out.get (k := k) (by rw [hn'.out]; exact hkL)
        rw [if_pos hkL] at q2
        obtain ⟨x, hx⟩ : ∃ x, Hid (∀ _ : Unit, b[k]?.getD 0 = x) := ⟨_, Lib.hid fun _ => rfl⟩
        rw [hx.out ()] at q1 q2
        have c1 : decide ((k : Int) < (n : Int)) = true := decide_eq_true (by omega)
        have c2 : decide (n ≤ k) = false := decide_eq_false (by omega)
        have i1 : (k : Int) < (n : Int) := by omega
        have i2 : (k : Int) < (n : Int) + 70 := by omega
        have i0 : (0 : Int) ≤ (k : Int) := by omega
        go_wp2_with fail
        go_quiet (fail)
        go_wp2_with fail
        go_roundw
        case rel => exact ⟨k + 1, _, by omega, by go_num, rfl⟩
        case measure => simp [intOf]; omega
      · rw [if_neg hkL] at q2
        obtain ⟨y, hy⟩ : ∃ y, (k * 7 + 3) % 256 = y := ⟨_, rfl⟩
        rw [hy] at q2
        have d1 : IntKind.u8.wrap ((k : Int) * 7 + 3) = (y : Int) := by rw [IntKind.wrap_u8]; omega
        have c1 : decide ((k : Int) < (n : Int)) = false := decide_eq_false (by omega)
        have c2 : decide (n ≤ k) = true := decide_eq_true (by omega)
        have i1 : (n : Int) ≤ (k : Int) := by omega
        have i2 : (k : Int) < (n : Int) + 70 := by omega
        have i0 : (0 : Int) ≤ (k : Int) := by omega
        clear hy
        go_wp2_with fail
        go_quiet (fail)
        go_wp2_with fail
        go_roundw
        case rel => exact ⟨k + 1, _, by omega, by go_num, rfl⟩
        case measure => simp [intOf]; omega
    · rw [show (k : Int) = (n : Int) + 70 by omega]
      go_wp2_with fail
      go_ret
      exact ⟨rfl, m, rfl⟩
end Go.Proofs.Ytjofpjioaiamhaa
